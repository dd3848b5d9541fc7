/- Contracts: which lists are grids (GridIn, both). -/
/- Contracts: entering, turning, stepping, leaving as the spec does it (l2Enter, l2Bend, l2Step, l2Leave). -/
/- Contracts: entering a grid, turning at a cell, going on (enter, turned, after). -/
import Derived.Test.YtmlenaelijchjaaStS
import Derived.Test.YtmlenaelijchjaaRv
import Derived.Deep.RegionWith
namespace Go.Proofs.Ytmlenaelijchjaa
open Go.RowKit
set_option linter.unusedVariables false

theorem letterOk_any (c : Int) (w : World) : Calls Try.prog 36 #[.int .u8 c] w fun e w' => e = .returned (.bool (letB c)) ∧ w = w' := by
  have hd : letB c = (c == 46 || c == 114 || c == 102) := rfl
  cases h1 : c == 46 <;> cases h2 : c == 114 <;> cases h3 : c == 102
  all_goals
    rw [h1, h2, h3] at hd
    have H := Lib.hid hd
    clear hd
    go_enter Try.func36, Try.ntmps36
    go_wp2
    go_ret
    exact ⟨ret_bool (by rw [H.out]; rfl), rfl⟩
theorem l1Letter_any (c : Int) (w : World) : Calls Try.prog 45 #[.int .u8 c] w fun e w' => e = .returned (.bool (letB c)) ∧ w = w' := by
  have hd : letB c = (c == 46 || c == 114 || c == 102) := rfl
  cases h1 : c == 46 <;> cases h2 : c == 114 <;> cases h3 : c == 102
  all_goals
    rw [h1, h2, h3] at hd
    have H := Lib.hid hd
    clear hd
    go_enter Try.func45, Try.ntmps45
    go_wp2
    go_ret
    exact ⟨ret_bool (by rw [H.out]; rfl), rfl⟩

theorem iGridIn_any (ao : Option Addr) (cap : Nat) (ss : List ByteArray) (w : World) (hx : CellsS w ao ss) (hm : ss.length ≤ maxLen) (hsz : ∀ s ∈ ss, s.size ≤ maxLen) :
    Calls Try.prog 15 #[.slice ao ss.length cap] w fun e w' => e = .returned (.bool (gridB ss)) ∧ w = w' := by
  unfold maxLen at hm
  cases h0 : inB ss.length 1 5
  · have H := Lib.hid (gridB_len h0)
    go_enter Try.func15, Try.ntmps15
    go_wp2_with (go_at_call 26; refine (within_any _ _ _ _).mono ?_; rintro e w' ⟨rfl, rfl⟩)
    go_ret
    exact ⟨ret_bool (by rw [H.out]), rfl⟩
  · have hb := inB_iff.1 h0
    have HSZ := Lib.hid hsz
    clear hsz
    obtain ⟨b, off, rfl, hc, hbb⟩ := hx.at (i := 0) (by omega)
    have hc0 := hc 0 (by omega)
    rw [Nat.add_zero] at hc0
    have HC := Lib.hid hc
    clear hc hx
    go_enter Try.func15, Try.ntmps15
    go_wp2_with (go_at_call 26; refine (within_any _ _ _ _).mono ?_; rintro e w' ⟨rfl, rfl⟩)
    go_loop [12] (fun i => ∃ k : Nat, k ≤ ss.length ∧ i = .int .i64 k ∧ Hid (∀ i, i < k → rowB (rowOf ss 0).size (rowOf ss i) = true)) (fun i => ss.length - (intOf i).toNat)
    case atStart => exact ⟨0, Nat.zero_le _, rfl, fun i h => by omega⟩
    case round =>
      obtain ⟨k, hk, rfl, ho⟩ := hrel
      by_cases hlt : k < ss.length
      · have hck := HC.out k hlt
        have hs1 : (rowOf ss k).size ≤ maxLen := HSZ.out _ (by simp [rowOf, hlt])
        have hs0 : (rowOf ss 0).size ≤ maxLen := HSZ.out _ (by simp [rowOf, show 0 < ss.length by omega])
        have hno : rowB (rowOf ss 0).size (rowOf ss k) = false → gridB ss = false := gridB_row hlt
        have hyes : rowB (rowOf ss 0).size (rowOf ss k) = true → ∀ i, i < k + 1 → rowB (rowOf ss 0).size (rowOf ss i) = true := fun h i hi => by
          by_cases e : i = k
          · rw [e]; exact h
          · exact ho i (by omega)
        unfold maxLen at hs0 hs1
        generalize rowOf ss k = s at hck hs1 hno hyes
        generalize rowOf ss 0 = s0 at hc0 hs0 hno hyes ho
        by_cases hl : s.size = s0.size
        · have hl' : ((s.size : Int) != (s0.size : Int)) = false := by simp [hl]
          have HN := Lib.hid hno
          have HY := Lib.hid hyes
          have HL := Lib.hid hl
          clear hno hyes hl
          go_wp2_with fail
          go_loop [25] (fun i => ∃ j : Nat, j ≤ s.size ∧ i = .int .i64 j ∧ Hid (∀ i, i < j → letB (sgn s i) = true)) (fun i => s.size - (intOf i).toNat)
          case atStart => exact ⟨0, Nat.zero_le _, rfl, fun i h => by omega⟩
          case round =>
            obtain ⟨j, hj, rfl, ho2⟩ := hrel
            by_cases hlt2 : j < s.size
            · have hsg := sgn_eq s j hlt2
              cases hlb : letB (sgn s j)
              · have HF := Lib.hid (HN.out (rowB_sign (by rw [← HL.out]; exact hlt2) hlb))
                have HS := Lib.hid hsg
                have HLB := Lib.hid hlb
                clear ho2 hsg hlb
                go_wp2_with fail
                refine (letterOk_any _ _).mono ?_
                rintro e w' ⟨rfl, rfl⟩
                rw [HS.out, HLB.out]
                go_wp2_with fail
                go_ret
                exact ⟨ret_bool (by rw [HF.out]), rfl⟩
              · have HY2 : Hid (∀ i, i < j + 1 → letB (sgn s i) = true) := fun i hi => by
                  by_cases e : i = j
                  · rw [e]; exact hlb
                  · exact ho2 i (by omega)
                have HS := Lib.hid hsg
                have HLB := Lib.hid hlb
                clear ho2 hsg hlb
                go_wp2_with fail
                refine (letterOk_any _ _).mono ?_
                rintro e w' ⟨rfl, rfl⟩
                rw [HS.out, HLB.out]
                go_wp2_with fail
                go_round
                case rel => exact ⟨j + 1, by omega, by go_num, HY2⟩
                case measure => simp [intOf]; omega
            · obtain rfl : j = s.size := by omega
              have HO := Lib.hid (HY.out (rowB_iff.2 ⟨HL.out, fun i hi => ho2 i (by rw [HL.out]; exact hi)⟩))
              clear ho2
              go_wp2_with fail
              go_round
              case rel => exact ⟨k + 1, by omega, by go_num, HO.out⟩
              case measure => simp [intOf]; omega
        · have hl' : ((s.size : Int) != (s0.size : Int)) = true := by rw [bne_iff_ne]; omega
          have HF := Lib.hid (hno (rowB_size hl))
          clear hno hyes hl
          go_wp2_with fail
          go_ret
          exact ⟨ret_bool (by rw [HF.out]), rfl⟩
      · obtain rfl : k = ss.length := by omega
        have HF := Lib.hid (gridB_end h0 ho)
        clear ho
        go_wp2_with (go_at_call 26; refine (within_any _ _ _ _).mono ?_; rintro e w' ⟨rfl, rfl⟩)
        go_ret
        exact ⟨ret_bool (by rw [HF.out]), rfl⟩

theorem sGridIn_any (ao : Option Addr) (cap : Nat) (ss : List ByteArray) (w : World) (hx : CellsS w ao ss) (hm : ss.length ≤ maxLen) (hsz : ∀ s ∈ ss, s.size ≤ maxLen) :
    Calls Try.prog 32 #[.slice ao ss.length cap] w fun e w' => e = .returned (.bool (gridB ss)) ∧ Dr w w' := by
  unfold maxLen at hm
  have HSZ := Lib.hid hsz
  clear hsz
  go_enter Try.func32, Try.ntmps32
  go_wp2_with fail
  go_loopw [3] (fun i wr => ∃ k : Nat, k ≤ ss.length ∧ i = .int .i64 k ∧ Hid (∀ i, i < k → rowB (rowOf ss 0).size (rowOf ss i) = true ∧ inB (rowOf ss i).size 1 5 = true) ∧ Dr w wr) (fun i _ => ss.length - (intOf i).toNat)
  case atStart => exact ⟨0, Nat.zero_le _, rfl, (fun i h => by omega), Dr.refl _⟩
  case round =>
    obtain ⟨k, hk, rfl, ho, hdr⟩ := hrel
    by_cases hlt : k < ss.length
    · obtain ⟨b, off, rfl, hc, hbb⟩ := (hx.dr hdr).at (i := 0) (by omega)
      have hc0 := hc 0 (by omega)
      rw [Nat.add_zero] at hc0
      have hck := hc k hlt
      have hpos : 0 < ss.length := by omega
      have hs1 : (rowOf ss k).size ≤ maxLen := HSZ.out _ (by simp [rowOf, hlt])
      have hs0 : (rowOf ss 0).size ≤ maxLen := HSZ.out _ (by simp [rowOf, show 0 < ss.length by omega])
      have hno : rowB (rowOf ss 0).size (rowOf ss k) = false → gridB ss = false := gridB_row hlt
      have hno2 : (rowOf ss k).size = (rowOf ss 0).size → inB (rowOf ss k).size 1 5 = false → gridB ss = false := gridB_row2 hlt
      have hyes : rowB (rowOf ss 0).size (rowOf ss k) = true → inB (rowOf ss k).size 1 5 = true → ∀ i, i < k + 1 → rowB (rowOf ss 0).size (rowOf ss i) = true ∧ inB (rowOf ss i).size 1 5 = true := fun h h2 i hi => by
        by_cases e : i = k
        · rw [e]; exact ⟨h, h2⟩
        · exact ho i (by omega)
      clear hc
      unfold maxLen at hs0 hs1
      have hckw : ∀ W, Dr w W → W.cell? ⟨b, off + k, none⟩ = some (.string (rowOf ss k)) := fun W h => by
        obtain ⟨b', off', he, hc', _⟩ := (hx.dr h).at hlt
        cases he
        exact hc' k hlt
      generalize hss : rowOf ss k = s at hckw hck hs1 hno hyes hno2
      generalize rowOf ss 0 = s0 at hc0 hs0 hno hyes hno2 ho
      have HCK := Lib.hid hckw
      clear hss hckw
      by_cases hl : s.size = s0.size
      · have hl' : ((s.size : Int) != (s0.size : Int)) = false := by simp [hl]
        have hl2 : (s.size != s0.size) = false := by simp [hl]
        have HN := Lib.hid hno
        have HN2 := Lib.hid (hno2 hl)
        have HY := Lib.hid hyes
        have HL := Lib.hid hl
        clear hno hno2 hyes hl
        cases hin : inB s.size 1 5
        · have HF := Lib.hid (HN2.out hin)
          go_wp2_with fail
          go_quiet ((go_at_call 33; exact quiet_eq (l6In_any _ _ _ _)))
          go_wp2_with fail
          go_ret
          exact ⟨ret_bool (by rw [HF.out]), hdr.trans ⟨_, rfl⟩⟩
        · have hc6 : ∀ W, Calls Try.prog 33 #[.int .i64 s.size, .int .i64 1, .int .i64 5] W fun e w' => e = .returned (.bool true) ∧ W = w' := fun W => by
            have := l6In_any s.size 1 5 W
            rwa [hin] at this
          have HC6 := Lib.hid hc6
          have HIN := Lib.hid hin
          clear hc6 hin
          go_wp2_with fail
          go_quiet ((go_at_call 33; exact quiet_eq (HC6.out _)))
          go_wp2_with fail
          go_loopw [4] (fun i wr => ∃ j : Nat, j ≤ s.size ∧ i = .int .i64 j ∧ Hid (∀ i, i < j → letB (sgn s i) = true) ∧ Dr w wr) (fun i _ => s.size - (intOf i).toNat)
          case atStart => exact ⟨0, Nat.zero_le _, rfl, (fun i h => by omega), hdr.trans ⟨_, rfl⟩⟩
          case round =>
            obtain ⟨j, hj, rfl, ho2, hdr2⟩ := hrel
            by_cases hlt2 : j < s.size
            · have hck2 : wr.cell? ⟨b, off + k, none⟩ = some (.string s) := HCK.out wr hdr2
              have hsg := sgn_eq s j hlt2
              cases hlb : letB (sgn s j)
              · have HF := Lib.hid (HN.out (rowB_sign (by rw [← HL.out]; exact hlt2) hlb))
                have HS := Lib.hid hsg
                have HLB := Lib.hid hlb
                clear ho2 hsg hlb
                go_wp2_with fail
                refine (l1Letter_any _ _).mono ?_
                rintro e w' ⟨rfl, rfl⟩
                rw [HS.out, HLB.out]
                go_wp2_with fail
                go_ret
                exact ⟨ret_bool (by rw [HF.out]), hdr2⟩
              · have HY2 : Hid (∀ i, i < j + 1 → letB (sgn s i) = true) := fun i hi => by
                  by_cases e : i = j
                  · rw [e]; exact hlb
                  · exact ho2 i (by omega)
                have HS := Lib.hid hsg
                have HLB := Lib.hid hlb
                clear ho2 hsg hlb
                go_wp2_with fail
                refine (l1Letter_any _ _).mono ?_
                rintro e w' ⟨rfl, rfl⟩
                rw [HS.out, HLB.out]
                go_wp2_with fail
                go_roundw
                case rel => first | exact ⟨j + 1, by omega, by go_num, HY2, hdr2⟩ | ((repeat apply Exists.intro); exact ⟨⟨j + 1, by omega, by go_num, HY2, hdr2⟩, rfl⟩)
                case measure => simp [intOf]; omega
            · obtain rfl : j = s.size := by omega
              have hck2 : wr.cell? ⟨b, off + k, none⟩ = some (.string s) := HCK.out wr hdr2
              have HO := Lib.hid (HY.out (rowB_iff.2 ⟨HL.out, fun i hi => ho2 i (by rw [HL.out]; exact hi)⟩) HIN.out)
              clear ho2
              go_wp2_with fail
              go_roundw
              case rel => exact ⟨k + 1, by omega, by go_num, HO.out, hdr2⟩
              case measure => simp [intOf]; omega
      · have hl' : ((s.size : Int) != (s0.size : Int)) = true := by rw [bne_iff_ne]; omega
        have hl2 : (s.size != s0.size) = true := by rw [bne_iff_ne]; omega
        have HF := Lib.hid (hno (rowB_size hl))
        clear hno hyes hl hno2
        go_wp2_with fail
        go_quiet ((go_at_call 33; exact quiet_eq (l6In_any _ _ _ _)))
        go_wp2_with fail
        go_ret
        exact ⟨ret_bool (by rw [HF.out]), hdr.trans ⟨_, rfl⟩⟩
    · obtain rfl : k = ss.length := by omega
      have HF := Lib.hid (gridB_end2 ho)
      clear ho hx
      go_wp2_with (go_at_call 33; refine (l6In_any _ _ _ _).mono ?_; rintro e w' ⟨rfl, rfl⟩)
      go_ret
      exact ⟨ret_bool (by rw [HF.out]), hdr⟩

theorem l2Bend_any (c : Int) (d : Nat) (w : World) (hd : d < 4) :
    Calls Try.prog 35 #[.int .u8 c, .int .i64 d] w fun e w' => e = .returned (.int .i64 (bend c d)) ∧ w = w' := by
  by_cases h1 : c = 114
  · subst h1
    have hd2 : d = 0 ∨ d = 1 ∨ d = 2 ∨ d = 3 := by omega
    rcases hd2 with rfl | rfl | rfl | rfl
    all_goals
      go_enter Try.func35, Try.ntmps35
      go_wp2
      go_ret
      exact ⟨rfl, rfl⟩
  · by_cases h2 : c = 102
    · subst h2
      have hd2 : d = 0 ∨ d = 1 ∨ d = 2 ∨ d = 3 := by omega
      rcases hd2 with rfl | rfl | rfl | rfl
      all_goals
        go_enter Try.func35, Try.ntmps35
        go_wp2
        go_ret
        exact ⟨rfl, rfl⟩
    · have HB := Lib.hid (show bend c d = d by simp [bend, h1, h2])
      have g1 : (c == 114) = false := by simp [h1]
      have g2 : (c == 102) = false := by simp [h2]
      clear h1 h2
      go_enter Try.func35, Try.ntmps35
      go_wp2
      go_ret
      exact ⟨by rw [HB.out]; rfl, rfl⟩

/-- One step in a direction. -/
def stI (i : Int) (d : Nat) : Int := if d = 0 then i - 1 else if d = 2 then i + 1 else i
def stK (k : Int) (d : Nat) : Int := if d = 1 then k + 1 else if d = 3 then k - 1 else k
theorem l2Step_any (i k : Int) (d : Nat) (w : World) (hd : d < 4) (hi0 : -100 ≤ i) (hi : i ≤ 100) (hk0 : -100 ≤ k) (hk : k ≤ 100) :
    Calls Try.prog 46 #[.int .i64 i, .int .i64 k, .int .i64 d] w fun e w' => e = .returned (.tuple #[.int .i64 (stI i d), .int .i64 (stK k d)]) ∧ w = w' := by
  have hd2 : d = 0 ∨ d = 1 ∨ d = 2 ∨ d = 3 := by omega
  rcases hd2 with rfl | rfl | rfl | rfl
  all_goals
    go_enter Try.func46, Try.ntmps46
    go_wp2
    go_ret2
    exact ⟨rfl, rfl⟩

/-- The port behind a place next to the grid, or -1. -/
def lv (n m : Nat) (i k : Int) : Int := if i < 0 then k else if (m : Int) ≤ k then m + i else if (n : Int) ≤ i then 2 * m + n - 1 - k else if k < 0 then 2 * (n + m) - 1 - i else -1
theorem l2Leave_any (n m : Nat) (i k : Int) (w : World) (hn : n ≤ 5) (hm : m ≤ 5) (hi0 : -100 ≤ i) (hi : i ≤ 100) (hk0 : -100 ≤ k) (hk : k ≤ 100) :
    Calls Try.prog 47 #[.int .i64 n, .int .i64 m, .int .i64 i, .int .i64 k] w fun e w' => e = .returned (.int .i64 (lv n m i k)) ∧ w = w' := by
  by_cases h1 : i < 0
  · have HB := Lib.hid (show lv n m i k = k by simp [lv, h1])
    go_enter Try.func47, Try.ntmps47
    go_wp2
    go_ret
    exact ⟨by rw [HB.out]; rfl, rfl⟩
  · by_cases h2 : (m : Int) ≤ k
    · have HB := Lib.hid (show lv n m i k = m + i by simp [lv, h1, h2])
      go_enter Try.func47, Try.ntmps47
      go_wp2
      go_ret
      exact ⟨by rw [HB.out]; rfl, rfl⟩
    · by_cases h3 : (n : Int) ≤ i
      · have HB := Lib.hid (show lv n m i k = 2 * m + n - 1 - k by simp [lv, h1, h2, h3])
        go_enter Try.func47, Try.ntmps47
        go_wp2
        go_ret
        exact ⟨by rw [HB.out]; rfl, rfl⟩
      · by_cases h4 : k < 0
        · have HB := Lib.hid (show lv n m i k = 2 * (n + m) - 1 - i by simp [lv, h1, h2, h3, h4])
          go_enter Try.func47, Try.ntmps47
          go_wp2_with (go_at_call 49; refine (l2Ports_any _ _ _ (by omega) (by omega) (by omega) (by omega)).mono ?_; rintro e w' ⟨rfl, rfl⟩)
          go_ret
          exact ⟨by rw [HB.out]; rfl, rfl⟩
        · have HB := Lib.hid (show lv n m i k = -1 by simp [lv, h1, h2, h3, h4])
          go_enter Try.func47, Try.ntmps47
          go_wp2
          go_ret
          exact ⟨by rw [HB.out]; rfl, rfl⟩

/-- Where a port is entered: row, column, direction. -/
def en3 (n m p : Nat) : Nat × Nat × Nat :=
  if p < m then (0, p, 2) else if p < m + n then (p - m, m - 1, 3) else if p < 2 * m + n then (n - 1, 2 * m + n - 1 - p, 0) else (2 * (n + m) - 1 - p, 0, 1)
section
variable {g : Gr} (hg : g.ok)
include hg
theorem Gr.en3_ent {p : Nat} (hp : p < g.ports) : g.ent p = ((en3 g.n g.m p).1 * g.m + (en3 g.n g.m p).2.1, (en3 g.n g.m p).2.2) ∧ (en3 g.n g.m p).1 < g.n ∧ (en3 g.n g.m p).2.1 < g.m ∧ (en3 g.n g.m p).2.2 < 4 := by
  have := hg.n1
  have := hg.m1
  unfold Gr.ports at hp
  unfold Gr.ent en3
  split
  · simp; omega
  · split
    · refine ⟨?_, by simp; omega⟩
      simp only [Prod.mk.injEq, and_true]
      omega
    · split
      · refine ⟨?_, by simp; omega⟩
        simp only [Prod.mk.injEq, and_true]
        omega
      · refine ⟨?_, by simp; omega⟩
        simp only [Prod.mk.injEq, and_true, Nat.add_zero]
        congr 1
        omega
/-- A state's step in rows and columns. -/
theorem Gr.nx_step {i k d : Nat} (hi : i < g.n) (hk : k < g.m) (hd : d < 4) :
    let D := bend (g.lt i k) d
    (∃ i' k', stI i D = (i' : Nat) ∧ stK k D = (k' : Nat) ∧ i' < g.n ∧ k' < g.m ∧ g.nx (i * g.m + k, d) = some (i' * g.m + k', D) ∧ lv g.n g.m (stI i D) (stK k D) = -1) ∨
    (g.nx (i * g.m + k, d) = none ∧ lv g.n g.m (stI i D) (stK k D) = (g.out (i * g.m + k, d) : Nat)) := by
  intro D
  have hD : D < 4 := bend_lt _ hd
  have h1 := Gr.div_of hg (i := i) hk
  have h2 := Gr.mod_of hg (i := i) hk
  have hdir : g.dir (i * g.m + k, d) = D := by simp only [Gr.dir, h1, h2]; rfl
  have hn := hg.n1
  have hm := hg.m1
  unfold Gr.nx Gr.out
  simp only [hdir, h1, h2]
  have hD2 : D = 0 ∨ D = 1 ∨ D = 2 ∨ D = 3 := by omega
  rcases hD2 with h | h | h | h <;> simp only [h, stI, stK]
  · by_cases c : i = 0
    · right
      subst c
      exact ⟨by simp, by simp [lv]⟩
    · left
      have : 1 * g.m ≤ i * g.m := Nat.mul_le_mul_right _ (Nat.pos_of_ne_zero c)
      refine ⟨i - 1, k, by simp; omega, by simp, by omega, hk, by simp [c, Nat.sub_mul]; omega, ?_⟩
      simp [lv]; omega
  · by_cases c : k = g.m - 1
    · right
      refine ⟨by simp [c], ?_⟩
      simp [lv]; omega
    · left
      refine ⟨i, k + 1, by simp, by simp, by omega, by omega, by simp [c]; omega, ?_⟩
      simp [lv]; omega
  · by_cases c : i = g.n - 1
    · right
      refine ⟨by simp [c], ?_⟩
      simp [lv]; omega
    · left
      refine ⟨i + 1, k, by simp, by simp, by omega, by omega, by simp [c, Nat.succ_mul]; omega, ?_⟩
      simp [lv]; omega
  · by_cases c : k = 0
    · right
      subst c
      refine ⟨by simp, ?_⟩
      simp [lv]; omega
    · left
      refine ⟨i, k - 1, by simp, by simp; omega, by omega, by omega, by simp [c]; omega, ?_⟩
      simp [lv]; omega
end

theorem turned_any (c : Int) (d : Nat) (w : World) (hd : d < 4) :
    Calls Try.prog 44 #[.int .u8 c, .int .i64 d] w fun e w' => e = .returned (.int .i64 (bend c d)) ∧ Below w.heap.size w w' := by
  by_cases h1 : c = 114
  · subst h1
    have hd2 : d = 0 ∨ d = 1 ∨ d = 2 ∨ d = 3 := by omega
    rcases hd2 with rfl | rfl | rfl | rfl
    all_goals
      go_enter Try.func44, Try.ntmps44
      go_wp2
      go_ret
      exact ⟨rfl, by go_grown⟩
  · by_cases h2 : c = 102
    · subst h2
      have hd2 : d = 0 ∨ d = 1 ∨ d = 2 ∨ d = 3 := by omega
      rcases hd2 with rfl | rfl | rfl | rfl
      all_goals
        go_enter Try.func44, Try.ntmps44
        go_wp2
        go_ret
        exact ⟨rfl, by go_grown⟩
    · have HB := Lib.hid (show bend c d = d by simp [bend, h1, h2])
      have g1 : (c == 114) = false := by simp [h1]
      have g2 : (c == 102) = false := by simp [h2]
      clear h1 h2
      go_enter Try.func44, Try.ntmps44
      go_wp2
      go_ret
      exact ⟨by rw [HB.out]; rfl, by go_grown⟩

theorem enter_any (ao : Option Addr) (cap : Nat) (ss : List ByteArray) (p : Nat) (w : World) (hx : CellsS w ao ss) (hg : gridB ss = true) (hp : p < (gr ss).ports) :
    Calls Try.prog 42 #[.slice ao ss.length cap, .int .i64 p] w fun e w' => e = .returned (.agg #[.int .i64 ((gr ss).ent p).1, .int .i64 ((gr ss).ent p).2]) ∧ Below w.heap.size w w' := by
  have hok := gr_ok hg
  have hn1 : 1 ≤ ss.length := hok.n1
  have hn5 : ss.length ≤ 5 := hok.n5
  have hm1 : 1 ≤ (rowOf ss 0).size := hok.m1
  have hm5 : (rowOf ss 0).size ≤ 5 := hok.m5
  obtain ⟨b, off, rfl, hc, hbb⟩ := hx.at (i := 0) (by omega)
  have hc0 := hc 0 (by omega)
  rw [Nat.add_zero] at hc0
  have hE : (gr ss).ent p = if p < (rowOf ss 0).size then (p, 2) else if p < (rowOf ss 0).size + ss.length then ((p - (rowOf ss 0).size) * (rowOf ss 0).size + (rowOf ss 0).size - 1, 3)
    else if p < 2 * (rowOf ss 0).size + ss.length then ((ss.length - 1) * (rowOf ss 0).size + (rowOf ss 0).size - 1 - (p - (rowOf ss 0).size - ss.length), 0)
    else ((ss.length - 1 - (p - 2 * (rowOf ss 0).size - ss.length)) * (rowOf ss 0).size, 1) := rfl
  have hp2 : p < 2 * ss.length + 2 * (rowOf ss 0).size := hp
  clear hc hx hok hp hg
  generalize (gr ss).ent p = E at hE ⊢
  generalize rowOf ss 0 = s0 at *
  have hm : s0.size = 1 ∨ s0.size = 2 ∨ s0.size = 3 ∨ s0.size = 4 ∨ s0.size = 5 := by omega
  by_cases p1 : p < s0.size
  · rw [if_pos p1] at hE
    subst hE
    go_enter Try.func42, Try.ntmps42
    go_wp2
    go_quiet (fail)
    go_wp2
    refine bodyPost_ret (v := .agg #[.int .i64 p, .int .i64 2]) (by simp [results, Try.results42, go_sem]) rfl ⟨rfl, ?_⟩
    go_grown
    exact below_dn ((Below.refl _ _).alloc (Nat.le_refl _) _) _
  · rw [if_neg p1] at hE
    by_cases p2 : p < s0.size + ss.length
    · rw [if_pos p2] at hE
      subst hE
      have q0 : (0 : Int) ≤ ((p : Int) - s0.size) * s0.size := Int.mul_nonneg (by omega) (by omega)
      have q1 : ((p : Int) - s0.size) * s0.size ≤ 5 * 5 := Int.mul_le_mul (by omega) (by omega) (by omega) (by omega)
      have e1 : (((p - s0.size) * s0.size + s0.size - 1 : Nat) : Int) = ((p : Int) - s0.size) * s0.size + s0.size - 1 := by
        have : ((p - s0.size : Nat) : Int) = (p : Int) - s0.size := by omega
        rw [← this, ← Int.natCast_mul]; omega
      have E1 := Lib.hid e1
      clear e1
      go_enter Try.func42, Try.ntmps42
      go_wp2
      go_quiet (fail)
      go_wp2
      refine bodyPost_ret (v := .agg #[.int .i64 (((p : Int) - s0.size) * s0.size + s0.size - 1), .int .i64 3]) (by simp [results, Try.results42, go_sem]) rfl ⟨by rw [E1.out]; rfl, ?_⟩
      go_grown
      exact below_dn ((Below.refl _ _).alloc (Nat.le_refl _) _) _
    · rw [if_neg p2] at hE
      by_cases p3 : p < 2 * s0.size + ss.length
      · rw [if_pos p3] at hE
        subst hE
        have q0 : (0 : Int) ≤ ((ss.length : Int) - 1) * s0.size := Int.mul_nonneg (by omega) (by omega)
        have q1 : ((ss.length : Int) - 1) * s0.size ≤ 5 * 5 := Int.mul_le_mul (by omega) (by omega) (by omega) (by omega)
        have e1 : (((ss.length - 1) * s0.size + s0.size - 1 - (p - s0.size - ss.length) : Nat) : Int) = ((ss.length : Int) - 1) * s0.size + s0.size - 1 - ((p : Int) - s0.size - ss.length) := by
          have : ((ss.length - 1 : Nat) : Int) = (ss.length : Int) - 1 := by omega
          rw [← this, ← Int.natCast_mul]; omega
        have E1 := Lib.hid e1
        clear e1
        go_enter Try.func42, Try.ntmps42
        go_wp2
        go_quiet (fail)
        go_wp2
        refine bodyPost_ret (v := .agg #[.int .i64 (((ss.length : Int) - 1) * s0.size + s0.size - 1 - ((p : Int) - s0.size - ss.length)), .int .i64 0]) (by simp [results, Try.results42, go_sem]) rfl ⟨by rw [E1.out]; rfl, ?_⟩
        go_grown
        exact below_dn ((Below.refl _ _).alloc (Nat.le_refl _) _) _
      · rw [if_neg p3] at hE
        subst hE
        have q0 : (0 : Int) ≤ ((ss.length : Int) - 1 - ((p : Int) - 2 * s0.size - ss.length)) * s0.size := Int.mul_nonneg (by omega) (by omega)
        have q1 : ((ss.length : Int) - 1 - ((p : Int) - 2 * s0.size - ss.length)) * s0.size ≤ 5 * 5 := Int.mul_le_mul (by omega) (by omega) (by omega) (by omega)
        have e1 : (((ss.length - 1 - (p - 2 * s0.size - ss.length)) * s0.size : Nat) : Int) = ((ss.length : Int) - 1 - ((p : Int) - 2 * s0.size - ss.length)) * s0.size := by
          have : ((ss.length - 1 - (p - 2 * s0.size - ss.length) : Nat) : Int) = (ss.length : Int) - 1 - ((p : Int) - 2 * s0.size - ss.length) := by omega
          rw [← this, ← Int.natCast_mul]
        have E1 := Lib.hid e1
        clear e1
        go_enter Try.func42, Try.ntmps42
        go_wp2
        go_quiet (fail)
        go_wp2
        refine bodyPost_ret (v := .agg #[.int .i64 (((ss.length : Int) - 1 - ((p : Int) - 2 * s0.size - ss.length)) * s0.size), .int .i64 1]) (by simp [results, Try.results42, go_sem]) rfl ⟨by rw [E1.out]; rfl, ?_⟩
        go_grown
        exact below_dn ((Below.refl _ _).alloc (Nat.le_refl _) _) _

end Go.Proofs.Ytmlenaelijchjaa
