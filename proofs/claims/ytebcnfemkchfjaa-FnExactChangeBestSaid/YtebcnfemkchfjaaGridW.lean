/- Contracts: which lists are grids (GridIn, both). -/
import Derived.Test.YtebcnfemkchfjaaGridL
namespace Go.Proofs.Ytebcnfemkchfjaa
open Go.RowKit
set_option linter.unusedVariables false

theorem letterOk_any (c : Int) (w : World) : Calls Try.prog 77 #[.int .u8 c] w fun e w' => e = .returned (.bool (letB c)) ∧ w = w' := by
  have hd : letB c = (c == 46 || c == 114 || c == 102) := rfl
  cases h1 : c == 46 <;> cases h2 : c == 114 <;> cases h3 : c == 102
  all_goals
    rw [h1, h2, h3] at hd
    have H := Lib.hid hd
    clear hd
    go_enter Try.func77, Try.ntmps77
    go_wp2
    go_ret
    exact ⟨ret_bool (by rw [H.out]; rfl), rfl⟩
theorem l1Letter_any (c : Int) (w : World) : Calls Try.prog 97 #[.int .u8 c] w fun e w' => e = .returned (.bool (letB c)) ∧ w = w' := by
  have hd : letB c = (c == 46 || c == 114 || c == 102) := rfl
  cases h1 : c == 46 <;> cases h2 : c == 114 <;> cases h3 : c == 102
  all_goals
    rw [h1, h2, h3] at hd
    have H := Lib.hid hd
    clear hd
    go_enter Try.func97, Try.ntmps97
    go_wp2
    go_ret
    exact ⟨ret_bool (by rw [H.out]; rfl), rfl⟩

theorem iGridIn_any (ao : Option Addr) (cap : Nat) (ss : List ByteArray) (w : World) (hx : CellsS w ao ss) (hm : ss.length ≤ maxLen) (hsz : ∀ s ∈ ss, s.size ≤ maxLen) :
    Calls Try.prog 63 #[.slice ao ss.length cap] w fun e w' => e = .returned (.bool (gridB ss)) ∧ w = w' := by
  unfold maxLen at hm
  cases h0 : inB ss.length 1 5
  · have H := Lib.hid (gridB_len h0)
    go_enter Try.func63, Try.ntmps63
    go_wp2_with (go_at_call 76; refine (within_any _ _ _ _).mono ?_; rintro e w' ⟨rfl, rfl⟩)
    go_ret
    exact ⟨ret_bool (by rw [H.out]), rfl⟩
  · have hb := inB_iff.1 h0
    have HSZ := Lib.hid hsz
    clear hsz
    obtain ⟨b, off, rfl, hc, hbb⟩ := hx.at (i := 0) (by omega)
    have hc0 := hc 0 (by omega)
    rw [Nat.add_zero] at hc0
    have HC := Lib.hid hc
    clear hc hx
    go_enter Try.func63, Try.ntmps63
    go_wp2_with (go_at_call 76; refine (within_any _ _ _ _).mono ?_; rintro e w' ⟨rfl, rfl⟩)
    go_loop [12] (fun i => ∃ k : Nat, k ≤ ss.length ∧ i = .int .i64 k ∧ Hid (∀ i, i < k → rowB (rowOf ss 0).size (rowOf ss i) = true)) (fun i => ss.length - (intOf i).toNat)
    case atStart => exact ⟨0, Nat.zero_le _, rfl, fun i h => by omega⟩
    case round =>
      obtain ⟨k, hk, rfl, ho⟩ := hrel
      by_cases hlt : k < ss.length
      · have hck := HC.out k hlt
        have hs1 : (rowOf ss k).size ≤ maxLen := HSZ.out _ (by simp [rowOf, hlt])
        have hs0 : (rowOf ss 0).size ≤ maxLen := HSZ.out _ (by simp [rowOf, show 0 < ss.length by omega])
        have hno : rowB (rowOf ss 0).size (rowOf ss k) = false → gridB ss = false := gridB_row hlt
        have hyes : rowB (rowOf ss 0).size (rowOf ss k) = true → ∀ i, i < k + 1 → rowB (rowOf ss 0).size (rowOf ss i) = true := fun h i hi => by
          by_cases e : i = k
          · rw [e]; exact h
          · exact ho i (by omega)
        unfold maxLen at hs0 hs1
        generalize rowOf ss k = s at hck hs1 hno hyes
        generalize rowOf ss 0 = s0 at hc0 hs0 hno hyes ho
        by_cases hl : s.size = s0.size
        · have hl' : ((s.size : Int) != (s0.size : Int)) = false := by simp [hl]
          have HN := Lib.hid hno
          have HY := Lib.hid hyes
          have HL := Lib.hid hl
          clear hno hyes hl
          go_wp2_with fail
          go_loop [25] (fun i => ∃ j : Nat, j ≤ s.size ∧ i = .int .i64 j ∧ Hid (∀ i, i < j → letB (sgn s i) = true)) (fun i => s.size - (intOf i).toNat)
          case atStart => exact ⟨0, Nat.zero_le _, rfl, fun i h => by omega⟩
          case round =>
            obtain ⟨j, hj, rfl, ho2⟩ := hrel
            by_cases hlt2 : j < s.size
            · have hsg := sgn_eq s j hlt2
              cases hlb : letB (sgn s j)
              · have HF := Lib.hid (HN.out (rowB_sign (by rw [← HL.out]; exact hlt2) hlb))
                have HS := Lib.hid hsg
                have HLB := Lib.hid hlb
                clear ho2 hsg hlb
                go_wp2_with fail
                refine (letterOk_any _ _).mono ?_
                rintro e w' ⟨rfl, rfl⟩
                rw [HS.out, HLB.out]
                go_wp2_with fail
                go_ret
                exact ⟨ret_bool (by rw [HF.out]), rfl⟩
              · have HY2 : Hid (∀ i, i < j + 1 → letB (sgn s i) = true) := fun i hi => by
                  by_cases e : i = j
                  · rw [e]; exact hlb
                  · exact ho2 i (by omega)
                have HS := Lib.hid hsg
                have HLB := Lib.hid hlb
                clear ho2 hsg hlb
                go_wp2_with fail
                refine (letterOk_any _ _).mono ?_
                rintro e w' ⟨rfl, rfl⟩
                rw [HS.out, HLB.out]
                go_wp2_with fail
                go_round
                case rel => exact ⟨j + 1, by omega, by go_num, HY2⟩
                case measure => simp [intOf]; omega
            · obtain rfl : j = s.size := by omega
              have HO := Lib.hid (HY.out (rowB_iff.2 ⟨HL.out, fun i hi => ho2 i (by rw [HL.out]; exact hi)⟩))
              clear ho2
              go_wp2_with fail
              go_round
              case rel => exact ⟨k + 1, by omega, by go_num, HO.out⟩
              case measure => simp [intOf]; omega
        · have hl' : ((s.size : Int) != (s0.size : Int)) = true := by rw [bne_iff_ne]; omega
          have HF := Lib.hid (hno (rowB_size hl))
          clear hno hyes hl
          go_wp2_with fail
          go_ret
          exact ⟨ret_bool (by rw [HF.out]), rfl⟩
      · obtain rfl : k = ss.length := by omega
        have HF := Lib.hid (gridB_end h0 ho)
        clear ho
        go_wp2_with (go_at_call 76; refine (within_any _ _ _ _).mono ?_; rintro e w' ⟨rfl, rfl⟩)
        go_ret
        exact ⟨ret_bool (by rw [HF.out]), rfl⟩

theorem sGridIn_any (ao : Option Addr) (cap : Nat) (ss : List ByteArray) (w : World) (hx : CellsS w ao ss) (hm : ss.length ≤ maxLen) (hsz : ∀ s ∈ ss, s.size ≤ maxLen) :
    Calls Try.prog 72 #[.slice ao ss.length cap] w fun e w' => e = .returned (.bool (gridB ss)) ∧ Dr w w' := by
  unfold maxLen at hm
  have HSZ := Lib.hid hsz
  clear hsz
  go_enter Try.func72, Try.ntmps72
  go_wp2_with fail
  go_loopw [3] (fun i wr => ∃ k : Nat, k ≤ ss.length ∧ i = .int .i64 k ∧ Hid (∀ i, i < k → rowB (rowOf ss 0).size (rowOf ss i) = true ∧ inB (rowOf ss i).size 1 5 = true) ∧ Dr w wr) (fun i _ => ss.length - (intOf i).toNat)
  case atStart => exact ⟨0, Nat.zero_le _, rfl, (fun i h => by omega), Dr.refl _⟩
  case round =>
    obtain ⟨k, hk, rfl, ho, hdr⟩ := hrel
    by_cases hlt : k < ss.length
    · obtain ⟨b, off, rfl, hc, hbb⟩ := (hx.dr hdr).at (i := 0) (by omega)
      have hc0 := hc 0 (by omega)
      rw [Nat.add_zero] at hc0
      have hck := hc k hlt
      have hpos : 0 < ss.length := by omega
      have hs1 : (rowOf ss k).size ≤ maxLen := HSZ.out _ (by simp [rowOf, hlt])
      have hs0 : (rowOf ss 0).size ≤ maxLen := HSZ.out _ (by simp [rowOf, show 0 < ss.length by omega])
      have hno : rowB (rowOf ss 0).size (rowOf ss k) = false → gridB ss = false := gridB_row hlt
      have hno2 : (rowOf ss k).size = (rowOf ss 0).size → inB (rowOf ss k).size 1 5 = false → gridB ss = false := gridB_row2 hlt
      have hyes : rowB (rowOf ss 0).size (rowOf ss k) = true → inB (rowOf ss k).size 1 5 = true → ∀ i, i < k + 1 → rowB (rowOf ss 0).size (rowOf ss i) = true ∧ inB (rowOf ss i).size 1 5 = true := fun h h2 i hi => by
        by_cases e : i = k
        · rw [e]; exact ⟨h, h2⟩
        · exact ho i (by omega)
      clear hc
      unfold maxLen at hs0 hs1
      have hckw : ∀ W, Dr w W → W.cell? ⟨b, off + k, none⟩ = some (.string (rowOf ss k)) := fun W h => by
        obtain ⟨b', off', he, hc', _⟩ := (hx.dr h).at hlt
        cases he
        exact hc' k hlt
      generalize hss : rowOf ss k = s at hckw hck hs1 hno hyes hno2
      generalize rowOf ss 0 = s0 at hc0 hs0 hno hyes hno2 ho
      have HCK := Lib.hid hckw
      clear hss hckw
      by_cases hl : s.size = s0.size
      · have hl' : ((s.size : Int) != (s0.size : Int)) = false := by simp [hl]
        have hl2 : (s.size != s0.size) = false := by simp [hl]
        have HN := Lib.hid hno
        have HN2 := Lib.hid (hno2 hl)
        have HY := Lib.hid hyes
        have HL := Lib.hid hl
        clear hno hno2 hyes hl
        cases hin : inB s.size 1 5
        · have HF := Lib.hid (HN2.out hin)
          go_wp2_with fail
          go_quiet ((go_at_call 80; exact quiet_eq (l6In_any _ _ _ _)))
          go_wp2_with fail
          go_ret
          exact ⟨ret_bool (by rw [HF.out]), hdr.trans ⟨_, rfl⟩⟩
        · have hc6 : ∀ W, Calls Try.prog 80 #[.int .i64 s.size, .int .i64 1, .int .i64 5] W fun e w' => e = .returned (.bool true) ∧ W = w' := fun W => by
            have := l6In_any s.size 1 5 W
            rwa [hin] at this
          have HC6 := Lib.hid hc6
          have HIN := Lib.hid hin
          clear hc6 hin
          go_wp2_with fail
          go_quiet ((go_at_call 80; exact quiet_eq (HC6.out _)))
          go_wp2_with fail
          go_loopw [4] (fun i wr => ∃ j : Nat, j ≤ s.size ∧ i = .int .i64 j ∧ Hid (∀ i, i < j → letB (sgn s i) = true) ∧ Dr w wr) (fun i _ => s.size - (intOf i).toNat)
          case atStart => exact ⟨0, Nat.zero_le _, rfl, (fun i h => by omega), hdr.trans ⟨_, rfl⟩⟩
          case round =>
            obtain ⟨j, hj, rfl, ho2, hdr2⟩ := hrel
            by_cases hlt2 : j < s.size
            · have hck2 : wr.cell? ⟨b, off + k, none⟩ = some (.string s) := HCK.out wr hdr2
              have hsg := sgn_eq s j hlt2
              cases hlb : letB (sgn s j)
              · have HF := Lib.hid (HN.out (rowB_sign (by rw [← HL.out]; exact hlt2) hlb))
                have HS := Lib.hid hsg
                have HLB := Lib.hid hlb
                clear ho2 hsg hlb
                go_wp2_with fail
                refine (l1Letter_any _ _).mono ?_
                rintro e w' ⟨rfl, rfl⟩
                rw [HS.out, HLB.out]
                go_wp2_with fail
                go_ret
                exact ⟨ret_bool (by rw [HF.out]), hdr2⟩
              · have HY2 : Hid (∀ i, i < j + 1 → letB (sgn s i) = true) := fun i hi => by
                  by_cases e : i = j
                  · rw [e]; exact hlb
                  · exact ho2 i (by omega)
                have HS := Lib.hid hsg
                have HLB := Lib.hid hlb
                clear ho2 hsg hlb
                go_wp2_with fail
                refine (l1Letter_any _ _).mono ?_
                rintro e w' ⟨rfl, rfl⟩
                rw [HS.out, HLB.out]
                go_wp2_with fail
                go_roundw
                case rel => first | exact ⟨j + 1, by omega, by go_num, HY2, hdr2⟩ | ((repeat apply Exists.intro); exact ⟨⟨j + 1, by omega, by go_num, HY2, hdr2⟩, rfl⟩)
                case measure => simp [intOf]; omega
            · obtain rfl : j = s.size := by omega
              have hck2 : wr.cell? ⟨b, off + k, none⟩ = some (.string s) := HCK.out wr hdr2
              have HO := Lib.hid (HY.out (rowB_iff.2 ⟨HL.out, fun i hi => ho2 i (by rw [HL.out]; exact hi)⟩) HIN.out)
              clear ho2
              go_wp2_with fail
              go_roundw
              case rel => exact ⟨k + 1, by omega, by go_num, HO.out, hdr2⟩
              case measure => simp [intOf]; omega
      · have hl' : ((s.size : Int) != (s0.size : Int)) = true := by rw [bne_iff_ne]; omega
        have hl2 : (s.size != s0.size) = true := by rw [bne_iff_ne]; omega
        have HF := Lib.hid (hno (rowB_size hl))
        clear hno hyes hl hno2
        go_wp2_with fail
        go_quiet ((go_at_call 80; exact quiet_eq (l6In_any _ _ _ _)))
        go_wp2_with fail
        go_ret
        exact ⟨ret_bool (by rw [HF.out]), hdr.trans ⟨_, rfl⟩⟩
    · obtain rfl : k = ss.length := by omega
      have HF := Lib.hid (gridB_end2 ho)
      clear ho hx
      go_wp2_with (go_at_call 80; refine (l6In_any _ _ _ _).mono ?_; rintro e w' ⟨rfl, rfl⟩)
      go_ret
      exact ⟨ret_bool (by rw [HF.out]), hdr⟩
end Go.Proofs.Ytebcnfemkchfjaa
