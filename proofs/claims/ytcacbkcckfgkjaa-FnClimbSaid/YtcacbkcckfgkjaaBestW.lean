/- Contracts: the best exchange (ChangeBest of both programs, l4Best). -/
import Derived.Test.YtcacbkcckfgkjaaChangeW
namespace Go.Proofs.Ytcacbkcckfgkjaa
open Go.RowKit
set_option linter.unusedVariables false
set_option linter.unusedSimpArgs false

/-- What an exchange of a cell leads to. -/
noncomputable def exP (ss : List ByteArray) (c : Nat) : Nat := (gr (putS ss c (exch ((gr ss).sig c)))).pmany
/-- The best cell among the first k, and its number of paths. -/
noncomputable def bestTo (ss : List ByteArray) : Nat → Int × Int
  | 0 => (-1, 0)
  | k + 1 => if (gr ss).sig k = 46 then bestTo ss k else if (bestTo ss k).1 < 0 ∨ (bestTo ss k).2 < exP ss k then ((k : Int), (exP ss k : Int)) else bestTo ss k
noncomputable def bestP (ss : List ByteArray) : Int × Int := bestTo ss ((gr ss).n * (gr ss).m)
noncomputable def bestB (ss : List ByteArray) : Bool := gridB ss && decide (0 ≤ (bestP ss).1)
noncomputable def bestC (ss : List ByteArray) : Int := if bestB ss = true then (bestP ss).1 else 0
noncomputable def bestM (ss : List ByteArray) : Int := if bestB ss = true then (bestP ss).2 else 0
theorem exP_le {ss : List ByteArray} (hg : gridB ss = true) {q : Nat} (hq : q < (gr ss).n * (gr ss).m) : gridB (putS ss q (exch ((gr ss).sig q))) = true ∧ exP ss q ≤ 200 := by
  have hok := gr_ok hg
  have hg2 : gridB (putS ss q (exch ((gr ss).sig q))) = true := putS_ok hg q (exch_let (hok.let' _ _ (Gr.row_lt hok hq) (Gr.col_lt hok q)))
  exact ⟨hg2, pmany_le hg2⟩
theorem bestTo_le {ss : List ByteArray} (hg : gridB ss = true) : ∀ k, k ≤ (gr ss).n * (gr ss).m → (-1 ≤ (bestTo ss k).1 ∧ (bestTo ss k).1 < k) ∧ 0 ≤ (bestTo ss k).2 ∧ (bestTo ss k).2 ≤ 200
  | 0, _ => ⟨⟨Int.le_refl _, by show (-1 : Int) < 0; omega⟩, Int.le_refl _, by show (0 : Int) ≤ 200; omega⟩
  | k + 1, h => by
    obtain ⟨⟨h1, h2⟩, h3, h4⟩ := bestTo_le hg k (by omega)
    have h5 := (exP_le hg (q := k) (by omega)).2
    rw [bestTo]
    split
    · exact ⟨⟨h1, by omega⟩, h3, h4⟩
    · split
      · exact ⟨⟨by show (-1 : Int) ≤ (k : Int); omega, by show (k : Int) < _; omega⟩, by show (0 : Int) ≤ (exP ss k : Int); omega, by show (exP ss k : Int) ≤ 200; omega⟩
      · exact ⟨⟨h1, by omega⟩, h3, h4⟩
theorem bestTo_dot {ss : List ByteArray} {k : Nat} (h : (gr ss).sig k = 46) : bestTo ss (k + 1) = bestTo ss k := by rw [bestTo, if_pos h]
theorem bestTo_new {ss : List ByteArray} {k : Nat} (h : (gr ss).sig k ≠ 46) (h2 : (bestTo ss k).1 < 0 ∨ (bestTo ss k).2 < exP ss k) : bestTo ss (k + 1) = ((k : Int), (exP ss k : Int)) := by rw [bestTo, if_neg h, if_pos h2]
theorem bestTo_old {ss : List ByteArray} {k : Nat} (h : (gr ss).sig k ≠ 46) (h2 : ¬ ((bestTo ss k).1 < 0 ∨ (bestTo ss k).2 < exP ss k)) : bestTo ss (k + 1) = bestTo ss k := by rw [bestTo, if_neg h, if_neg h2]

set_option maxRecDepth 100000 in
set_option maxHeartbeats 4000000 in
theorem iChangeBest_any (ao : Option Addr) (cap : Nat) (ss : List ByteArray) (w : World) (hx : CellsS w ao ss) (hm : ss.length ≤ maxLen) (hsz : ∀ s ∈ ss, s.size ≤ maxLen) :
    Calls Try.prog 41 #[.slice ao ss.length cap] w fun e w' => e = .returned (.tuple #[.int .i64 (bestC ss), .int .i64 (bestM ss), .bool (bestB ss)]) ∧ Below w.heap.size w w' := by
  have HGI := Lib.hid (iGridIn_any ao cap ss w hx hm hsz)
  clear hsz
  cases hg : gridB ss
  · have HG := Lib.hid hg
    have HL : Hid (bestC ss = 0 ∧ bestM ss = 0 ∧ bestB ss = false) := by
      have : bestB ss = false := by simp [bestB, hg]
      exact ⟨by simp [bestC, this], by simp [bestM, this], this⟩
    clear hg
    go_enter Try.func41, Try.ntmps41
    go_wp2_with fail
    refine HGI.out.mono ?_
    rintro e w2 ⟨rfl, hd⟩
    rw [HG.out]
    go_wp2
    go_ret3
    exact ⟨by rw [HL.out.1, HL.out.2.1, HL.out.2.2] <;> rfl, by first | exact hd.below _ | (subst hd; exact Below.refl _ _)⟩
  have HG := Lib.hid hg
  have hok := gr_ok hg
  have h25 : (gr ss).n * (gr ss).m ≤ 25 := Gr.size_le hok
  have HX := Lib.hid hx
  have HCE := Lib.hid fun W (h : CellsS W ao ss) => cells_any ao cap ss W h hg
  have HBT := Lib.hid (bestTo_le hg)
  have HP : Hid (bestP ss = bestTo ss ((gr ss).n * (gr ss).m)) := rfl
  have HBB : Hid (bestB ss = decide (0 ≤ (bestP ss).1)) := by show _ = _; simp [bestB, hg]
  generalize hNM : (gr ss).n * (gr ss).m = N at *
  have HN := Lib.hid hNM
  clear hNM hok hx hg
  go_enter Try.func41, Try.ntmps41
  go_wp2_with fail
  refine HGI.out.mono ?_
  rintro e w2 ⟨rfl, hd⟩
  rw [HG.out]
  have b2 : Below w.heap.size w w2 := by first | exact hd.below _ | (subst hd; exact Below.refl _ _)
  have HB0 := Lib.hid b2
  clear b2 hd
  go_wp2_with fail
  refine (HCE.out _ (HX.out.below HB0.out (Nat.le_refl _))).mono ?_
  rintro e w3 ⟨rfl, rfl⟩
  go_wp2_with fail
  go_loopw [5, 6, 14] (fun v5 v6 v14 wr => ∃ k : Nat, k ≤ N ∧ v14 = .int .i64 k ∧ v5 = .int .i64 (bestTo ss k).1 ∧ v6 = .int .i64 (bestTo ss k).2 ∧ Hid (Below w.heap.size w wr)) (fun _ _ v14 _ => N - (intOf v14).toNat)
  case atStart => exact ⟨0, Nat.zero_le _, rfl, rfl, rfl, HB0⟩
  case round =>
    clear HB0
    obtain ⟨k, hk, rfl, rfl, rfl, hbw⟩ := hrel
    have hbd := HBT.out k hk
    by_cases hlt : k < N
    · have hq : k < (gr ss).n * (gr ss).m := by rw [HN.out]; exact hlt
      obtain ⟨hg2, hp2⟩ := exP_le HG.out hq
      have HLA := Lib.hid (letterAt_any _ cap ss k wr (HX.out.below hbw.out (Nat.le_refl _)) HG.out hq)
      have HEX := Lib.hid fun W (h : CellsS W ao ss) => other_any ao cap ss k W h HG.out hq
      have HPM := Lib.hid fun a' c' W (h : CellsS W a' (putS ss k (exch ((gr ss).sig k)))) => pathMany_any a' c' _ W h hg2
      have HD := Lib.hid (bestTo_dot (ss := ss) (k := k))
      have HNW := Lib.hid (bestTo_new (ss := ss) (k := k))
      have HO := Lib.hid (bestTo_old (ss := ss) (k := k))
      have HEP : Hid ((gr (putS ss k (exch ((gr ss).sig k)))).pmany = exP ss k) := rfl
      clear hq hg2
      go_wp2_with fail
      refine HLA.out.mono ?_
      rintro e w3 ⟨rfl, hd⟩
      have b3 := hbw.out.trans ((hd.below wr.heap.size).mono hbw.out.size)
      by_cases h46 : (gr ss).sig k = 46
      · rw [h46]
        have hd' := HD.out h46
        have HD' := Lib.hid hd'
        have B3 := Lib.hid b3
        clear hd' h46 b3 hd
        generalize bestTo ss k = T at *
        obtain ⟨t1, t2⟩ := T
        dsimp only at *
        go_wp2_with fail
        go_roundw
        case rel => exact ⟨k + 1, by omega, by go_num, by rw [HD'.out] <;> rfl, by rw [HD'.out] <;> rfl, B3⟩
        case measure => simp [intOf]; omega
      · have h46b : ((gr ss).sig k == 46) = false := beq_eq_false_iff_ne.2 h46
        have B3 := Lib.hid b3
        have HNW2 := Lib.hid (HNW.out h46)
        have HO2 := Lib.hid (HO.out h46)
        clear b3 hd HNW HO
        generalize hsg : (gr ss).sig k = sg at *
        have HSG := Lib.hid hsg
        clear hsg
        go_wp2_with fail
        refine (HEX.out _ (HX.out.below B3.out (Nat.le_refl _))).mono ?_
        rintro e w4 ⟨v4, rfl, s4⟩
        obtain ⟨a4, c4, rfl⟩ := s4.shapeS 0 rfl
        go_wp2_with fail
        refine (HPM.out _ _ _ (s4.texts 0 rfl)).mono ?_
        rintro e w5 ⟨rfl, b5⟩
        have B5 := Lib.hid ((B3.out.trans (s4.below.mono B3.out.size)).trans (b5.mono (Nat.le_trans B3.out.size s4.size)))
        rw [HEP.out]
        clear s4 b5 HPM HEX
        by_cases hbt : (bestTo ss k).1 < 0 ∨ (bestTo ss k).2 < exP ss k
        · have hn := HNW2.out hbt
          have HN2 := Lib.hid hn
          clear hn HNW2 HO2 HD
          generalize exP ss k = E at *
          generalize bestTo ss k = T at *
          obtain ⟨t1, t2⟩ := T
          dsimp only at *
          rcases Int.lt_or_le t1 0 with hbt1 | hbt1
          · clear hbt
            go_wp2_with fail
            go_roundw
            case rel => exact ⟨k + 1, by omega, by go_num, by rw [HN2.out] <;> rfl, by rw [HN2.out] <;> rfl, B5⟩
            case measure => simp [intOf]; omega
          · have hbt2 : t2 < (E : Int) := by omega
            have hbt3 : ¬ t1 < 0 := by omega
            clear hbt
            go_wp2_with fail
            go_roundw
            case rel => exact ⟨k + 1, by omega, by go_num, by rw [HN2.out] <;> rfl, by rw [HN2.out] <;> rfl, B5⟩
            case measure => simp [intOf]; omega
        · have hn := HO2.out hbt
          have HN2 := Lib.hid hn
          clear hn HNW2 HO2 HD
          generalize exP ss k = E at *
          generalize bestTo ss k = T at *
          obtain ⟨t1, t2⟩ := T
          dsimp only at *
          have hbt2 : ¬ t2 < (E : Int) := by omega
          have hbt3 : ¬ t1 < 0 := by omega
          clear hbt
          go_wp2_with fail
          go_roundw
          case rel => exact ⟨k + 1, by omega, by go_num, by rw [HN2.out] <;> rfl, by rw [HN2.out] <;> rfl, B5⟩
          case measure => simp [intOf]; omega
    · obtain rfl : k = N := by omega
      have hP := HP.out
      by_cases h0 : (bestTo ss k).1 < 0
      · have hB : bestB ss = false := by rw [HBB.out, hP]; simp; omega
        have HL : Hid (bestC ss = 0 ∧ bestM ss = 0) := ⟨by simp [bestC, hB], by simp [bestM, hB]⟩
        have HB := Lib.hid hB
        clear hB hP
        generalize bestTo ss k = T at *
        obtain ⟨t1, t2⟩ := T
        dsimp only at *
        go_wp2_with fail
        go_ret3
        exact ⟨by rw [HL.out.1, HL.out.2, HB.out] <;> rfl, hbw.out⟩
      · have hB : bestB ss = true := by rw [HBB.out, hP]; simp; omega
        have HL : Hid (bestC ss = (bestTo ss k).1 ∧ bestM ss = (bestTo ss k).2) := ⟨by simp [bestC, hB, hP], by simp [bestM, hB, hP]⟩
        have HB := Lib.hid hB
        clear hB hP
        generalize bestTo ss k = T at *
        obtain ⟨t1, t2⟩ := T
        dsimp only at *
        go_wp2_with fail
        go_ret3
        exact ⟨by rw [HL.out.1, HL.out.2, HB.out] <;> rfl, hbw.out⟩

set_option maxRecDepth 100000 in
set_option maxHeartbeats 4000000 in
theorem l4Best_any (ao : Option Addr) (cap : Nat) (ss : List ByteArray) (w : World) (hx : CellsS w ao ss) (hg : gridB ss = true) :
    Calls Try.prog 75 #[.slice ao ss.length cap] w fun e w' => e = .returned (.tuple #[.int .i64 (bestP ss).1, .int .i64 (bestP ss).2]) ∧ Below w.heap.size w w' := by
  have HG := Lib.hid hg
  have hok := gr_ok hg
  have hn1 : 1 ≤ ss.length := hok.n1
  have hn5 : ss.length ≤ 5 := hok.n5
  have hm1 : 1 ≤ (rowOf ss 0).size := hok.m1
  have hm5 : (rowOf ss 0).size ≤ 5 := hok.m5
  have h25 : (gr ss).n * (gr ss).m ≤ 25 := Gr.size_le hok
  have hx9 := hx
  obtain ⟨b, off, rfl, hc, hbb⟩ := hx.at (i := 0) (by omega)
  have HX := Lib.hid hx
  have HBT := Lib.hid (bestTo_le hg)
  have HP : Hid (bestP ss = bestTo ss ((gr ss).n * (gr ss).m)) := rfl
  have q2 : (ss.length : Int) * ((rowOf ss 0).size : Int) = (((gr ss).n * (gr ss).m : Nat) : Int) := by rw [Int.natCast_mul]; rfl
  generalize hNM : (gr ss).n * (gr ss).m = N at *
  have HN := Lib.hid hNM
  have HB0 := Lib.hid (Below.refl w.heap.size w)
  clear hNM hok hx hg hc hbb
  go_enter Try.func75, Try.ntmps75
  go_wp2_with fail
  go_loopw [4, 5, 6, 7] (fun v4 v5 v6 v7 wr => ∃ k : Nat, k ≤ N ∧ v6 = .int .i64 k ∧ v4 = .int .i64 (bestTo ss k).1 ∧ v5 = .int .i64 (bestTo ss k).2 ∧ Hid (Below w.heap.size w wr)) (fun _ _ v6 _ _ => N - (intOf v6).toNat)
  case atStart => exact ⟨0, Nat.zero_le _, rfl, rfl, rfl, HB0⟩
  case round =>
    clear HB0
    obtain ⟨k, hk, rfl, rfl, rfl, hbw⟩ := hrel
    have hbd := HBT.out k hk
    obtain ⟨b', off', he, hcr, _⟩ := (HX.out.below hbw.out (Nat.le_refl _)).at (i := 0) (by omega)
    cases he
    have hc1 := hcr 0 (by omega)
    rw [Nat.add_zero] at hc1
    clear hcr
    by_cases hlt : k < N
    · have hq : k < (gr ss).n * (gr ss).m := by rw [HN.out]; exact hlt
      obtain ⟨hg2, hp2⟩ := exP_le HG.out hq
      have HLA := Lib.hid (l2Cell_any _ cap ss k wr (HX.out.below hbw.out (Nat.le_refl _)) HG.out hq)
      have HEX := Lib.hid fun W (h : CellsS W (some ⟨b, off, none⟩) ss) => l4Exchange_any (some ⟨b, off, none⟩) cap ss k W h HG.out hq
      have HPM := Lib.hid fun a' c' W (h : CellsS W a' (putS ss k (exch ((gr ss).sig k)))) => l3Paths_any a' c' _ W h hg2
      have HD := Lib.hid (bestTo_dot (ss := ss) (k := k))
      have HNW := Lib.hid (bestTo_new (ss := ss) (k := k))
      have HO := Lib.hid (bestTo_old (ss := ss) (k := k))
      have HEP : Hid ((gr (putS ss k (exch ((gr ss).sig k)))).pmany = exP ss k) := rfl
      clear hq hg2
      go_wp2_with fail
      refine HLA.out.mono ?_
      rintro e w3 ⟨rfl, hd⟩
      have b3 := hbw.out.trans ((hd.below wr.heap.size).mono hbw.out.size)
      by_cases h46 : (gr ss).sig k = 46
      · rw [h46]
        have hd' := HD.out h46
        have HD' := Lib.hid hd'
        have B3 := Lib.hid b3
        clear hd' h46 b3 hd
        generalize bestTo ss k = T at *
        obtain ⟨t1, t2⟩ := T
        dsimp only at *
        go_wp2_with fail
        go_roundw
        case rel => exact ⟨k + 1, by omega, by go_num, by rw [HD'.out] <;> rfl, by rw [HD'.out] <;> rfl, B3⟩
        case measure => simp [intOf]; omega
      · have h46b : ((gr ss).sig k == 46) = false := beq_eq_false_iff_ne.2 h46
        have B3 := Lib.hid b3
        have HNW2 := Lib.hid (HNW.out h46)
        have HO2 := Lib.hid (HO.out h46)
        clear b3 hd HNW HO
        generalize hsg : (gr ss).sig k = sg at *
        have HSG := Lib.hid hsg
        clear hsg
        go_wp2_with fail
        refine (HEX.out _ (HX.out.below B3.out (Nat.le_refl _))).mono ?_
        rintro e w4 ⟨v4, rfl, s4⟩
        obtain ⟨a4, c4, rfl⟩ := s4.shapeS 0 rfl
        go_wp2_with fail
        refine (HPM.out _ _ _ (s4.texts 0 rfl)).mono ?_
        rintro e w5 ⟨rfl, b5⟩
        have B5 := Lib.hid ((B3.out.trans (s4.below.mono B3.out.size)).trans (b5.mono (Nat.le_trans B3.out.size s4.size)))
        rw [HEP.out]
        clear s4 b5 HPM HEX
        by_cases hbt : (bestTo ss k).1 < 0 ∨ (bestTo ss k).2 < exP ss k
        · have hn := HNW2.out hbt
          have HN2 := Lib.hid hn
          clear hn HNW2 HO2 HD
          generalize exP ss k = E at *
          generalize bestTo ss k = T at *
          obtain ⟨t1, t2⟩ := T
          dsimp only at *
          rcases Int.lt_or_le t1 0 with hbt1 | hbt1
          · clear hbt
            go_wp2_with fail
            go_roundw
            case rel => exact ⟨k + 1, by omega, by go_num, by rw [HN2.out] <;> rfl, by rw [HN2.out] <;> rfl, B5⟩
            case measure => simp [intOf]; omega
          · have hbt2 : t2 < (E : Int) := by omega
            have hbt3 : ¬ t1 < 0 := by omega
            clear hbt
            go_wp2_with fail
            go_roundw
            case rel => exact ⟨k + 1, by omega, by go_num, by rw [HN2.out] <;> rfl, by rw [HN2.out] <;> rfl, B5⟩
            case measure => simp [intOf]; omega
        · have hn := HO2.out hbt
          have HN2 := Lib.hid hn
          clear hn HNW2 HO2 HD
          generalize exP ss k = E at *
          generalize bestTo ss k = T at *
          obtain ⟨t1, t2⟩ := T
          dsimp only at *
          have hbt2 : ¬ t2 < (E : Int) := by omega
          have hbt3 : ¬ t1 < 0 := by omega
          clear hbt
          go_wp2_with fail
          go_roundw
          case rel => exact ⟨k + 1, by omega, by go_num, by rw [HN2.out] <;> rfl, by rw [HN2.out] <;> rfl, B5⟩
          case measure => simp [intOf]; omega
    · obtain rfl : k = N := by omega
      have hP := HP.out
      clear hc1
      generalize bestTo ss k = T at *
      obtain ⟨t1, t2⟩ := T
      have HP2 := Lib.hid hP
      clear hP
      dsimp only at *
      obtain ⟨b', off', he, hcr, _⟩ := (HX.out.below hbw.out (Nat.le_refl _)).at (i := 0) (by omega)
      cases he
      have hc1 := hcr 0 (by omega)
      rw [Nat.add_zero] at hc1
      clear hcr
      go_wp2_with fail
      go_ret2
      exact ⟨by rw [HP2.out] <;> rfl, hbw.out⟩

theorem sChangeBest_any (ao : Option Addr) (cap : Nat) (ss : List ByteArray) (w : World) (hx : CellsS w ao ss) (hm : ss.length ≤ maxLen) (hsz : ∀ s ∈ ss, s.size ≤ maxLen) :
    Calls Try.prog 42 #[.slice ao ss.length cap] w fun e w' => e = .returned (.tuple #[.int .i64 (bestC ss), .int .i64 (bestM ss), .bool (bestB ss)]) ∧ Below w.heap.size w w' := by
  have HGI := Lib.hid (sGridIn_any ao cap ss w hx hm hsz)
  clear hsz
  cases hg : gridB ss
  · have HG := Lib.hid hg
    have HL : Hid (bestC ss = 0 ∧ bestM ss = 0 ∧ bestB ss = false) := by
      have : bestB ss = false := by simp [bestB, hg]
      exact ⟨by simp [bestC, this], by simp [bestM, this], this⟩
    clear hg
    go_enter Try.func42, Try.ntmps42
    go_wp2_with fail
    refine HGI.out.mono ?_
    rintro e w2 ⟨rfl, hd⟩
    rw [HG.out]
    go_wp2
    go_ret3
    exact ⟨by rw [HL.out.1, HL.out.2.1, HL.out.2.2] <;> rfl, by first | exact hd.below _ | (subst hd; exact Below.refl _ _)⟩
  have HG := Lib.hid hg
  have HX := Lib.hid hx
  have HBB : Hid (bestB ss = decide (0 ≤ (bestP ss).1)) := by show _ = _; simp [bestB, hg]
  have hbd := (bestTo_le hg _ (Nat.le_refl _))
  have hbd : (-1 ≤ (bestP ss).1 ∧ (bestP ss).1 < ((gr ss).n * (gr ss).m : Nat)) ∧ 0 ≤ (bestP ss).2 ∧ (bestP ss).2 ≤ 200 := hbd
  have h25 : (gr ss).n * (gr ss).m ≤ 25 := Gr.size_le (gr_ok hg)
  have HLB := Lib.hid fun W (h : CellsS W ao ss) => l4Best_any ao cap ss W h hg
  clear hx hg
  go_enter Try.func42, Try.ntmps42
  go_wp2_with fail
  refine HGI.out.mono ?_
  rintro e w2 ⟨rfl, hd⟩
  rw [HG.out]
  have b2 : Below w.heap.size w w2 := by first | exact hd.below _ | (subst hd; exact Below.refl _ _)
  go_wp2_with fail
  refine (HLB.out _ (HX.out.below b2 (Nat.le_refl _))).mono ?_
  rintro e w3 ⟨rfl, b3⟩
  have hbw := Lib.hid (b2.trans (b3.mono b2.size))
  clear b2 b3 hd
  by_cases h0 : (bestP ss).1 < 0
  · have hB : bestB ss = false := by rw [HBB.out]; simp; omega
    have HL : Hid (bestC ss = 0 ∧ bestM ss = 0) := ⟨by simp [bestC, hB], by simp [bestM, hB]⟩
    have HB := Lib.hid hB
    clear hB
    generalize bestP ss = T at *
    obtain ⟨t1, t2⟩ := T
    dsimp only at *
    go_wp2_with fail
    go_ret3
    exact ⟨by rw [HL.out.1, HL.out.2, HB.out] <;> rfl, hbw.out⟩
  · have hB : bestB ss = true := by rw [HBB.out]; simp; omega
    have HL : Hid (bestC ss = (bestP ss).1 ∧ bestM ss = (bestP ss).2) := ⟨by simp [bestC, hB], by simp [bestM, hB]⟩
    have HB := Lib.hid hB
    clear hB
    generalize bestP ss = T at *
    obtain ⟨t1, t2⟩ := T
    dsimp only at *
    go_wp2_with fail
    go_ret3
    exact ⟨by rw [HL.out.1, HL.out.2, HB.out] <;> rfl, hbw.out⟩
end Go.Proofs.Ytcacbkcckfgkjaa
