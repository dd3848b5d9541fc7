/- The walk through the law FnSelf: Cells that one path goes through twice make no path less when exchanged. (P36) -/
import Derived.Test.YtmlenaelijchjaaDrawCellW
import Derived.Test.YtmlenaelijchjaaSelfLawL
import Derived.Test.YtmlenaelijchjaaSelfPS
import Derived.Test.YtmlenaelijchjaaChangeW
import Derived.Test.YtmlenaelijchjaaChange2W
import Derived.Test.YtmlenaelijchjaaStS
import Derived.StillTailTactics
namespace Go.Proofs.Ytmlenaelijchjaa.fnSelf
open Go.RowKit
set_option linter.unusedVariables false

attribute [local go_sem ↓] Go.wp_at_zero Go.wp_at_succ
set_option maxHeartbeats 40000000 in
theorem walk (a0 : Option Addr) (cap0 : Nat) (z0 : List Int) (w : World) (c0 : CellsY w a0 z0) (m0 : z0.length ≤ cap0 ∧ cap0 ≤ maxLen) :
    Calls Try.prog 3 #[.slice a0 z0.length cap0] w fun e w' => e = .returned (.bool true) ∧ Below w.heap.size w w' := by
  have m1 : z0.length ≤ maxLen := Nat.le_trans m0.1 m0.2
  by_cases h0 : 1048576 < z0.length
  · unfold maxLen at m1
    clear m0
    go_enter Try.func3, Try.ntmps3
    go_wp2
    go_ret
    exact ⟨rfl, Below.refl _ _⟩
  have l0 : z0.length ≤ 1048576 := by omega
  clear h0
  go_enter Try.func3, Try.ntmps3
  go_wp2_with fail
  refine (DrawChangeSelf_any a0 cap0 z0 w c0 m0.1 m0.2).mono ?_
  rintro e W1 ⟨v1, ss, c, rfl, l1, l4, sz, st⟩
  obtain ⟨o1, q1, rfl⟩ := st.shapeS 0 rfl
  have lm : ss.length ≤ maxLen := by unfold maxLen; omega
  have szm := sizes_max sz
  clear c0 m0 m1 sz
  cases hB : selfB ss c
  all_goals
    have HB := Lib.hid hB
    clear hB
    go_wp2_with fail
    have R := iChangeSelf_any o1 q1 ss c _ (st.texts 0 rfl) lm szm
    rw [HB.out] at R
    refine R.mono ?_
    rintro e W2 ⟨rfl, d⟩
    clear R
    replace st := st.step d
    clear d
    go_wp2_with fail
    have R := sChangeSelf_any o1 q1 ss c _ (st.texts 0 rfl) lm szm
    rw [HB.out] at R
    refine R.mono ?_
    rintro e W3 ⟨rfl, d⟩
    clear R
    replace st := st.step d
    clear d
  · go_wp2_with fail
    go_ret
    exact ⟨rfl, st.below⟩
  · have hcb : cellB ss c = true := by
      have := HB.out
      simp only [selfB, Bool.and_eq_true] at this
      exact this.1
    obtain ⟨hg, q, rfl, hq⟩ := cellB_nat hcb
    have hok := gr_ok hg
    obtain ⟨hgt, hst⟩ := self_turn hg hq HB.out
    have hi : q / (rowOf ss 0).size < ss.length := Gr.row_lt hok hq
    have hm1 : 1 ≤ (rowOf ss 0).size := hok.m1
    have hm5 : (rowOf ss 0).size ≤ 5 := hok.m5
    have hk : q % (rowOf ss 0).size < (rowOf ss 0).size := Gr.col_lt hok q
    have hTC : turnC ss q = q % (rowOf ss 0).size * ss.length + (ss.length - 1 - q / (rowOf ss 0).size) := rfl
    have i1 : (q : Int) / ((rowOf ss 0).size : Int) = ((q / (rowOf ss 0).size : Nat) : Int) := (Int.natCast_ediv _ _).symm
    have i2 : (q : Int) % ((rowOf ss 0).size : Int) = ((q % (rowOf ss 0).size : Nat) : Int) := (Int.natCast_emod _ _).symm
    have z0 : (((rowOf ss 0).size : Int) == 0) = false := beq_eq_false_iff_ne.2 (by omega)
    have z0' : ((rowOf ss 0).size == 0) = false := beq_eq_false_iff_ne.2 (by omega)
    have HDE : Hid (mirB ss q = true → 0 ≤ deltaL ss q) := fun h => self_delta hg hq HB.out h
    have hlt : (turnS ss).length ≤ maxLen := by
      have h1 : (gr (turnS ss)).n = (gr ss).m := (turnS_turned hg).n
      have h2 : (turnS ss).length = (rowOf ss 0).size := h1
      rw [h2]
      unfold maxLen
      omega
    have hzt : ∀ s ∈ turnS ss, s.size ≤ maxLen := gridB_sizes hgt
    obtain ⟨P, hP⟩ : ∃ P, P = q % (rowOf ss 0).size * ss.length := ⟨_, rfl⟩
    have hP2 : P ≤ 20 := by
      rw [hP]
      exact Nat.le_trans (Nat.mul_le_mul (show q % (rowOf ss 0).size ≤ 5 by omega) l4) (by decide)
    have i3 : ((q % (rowOf ss 0).size : Nat) : Int) * (ss.length : Int) = (P : Nat) := by rw [hP, Int.natCast_mul]
    rw [← hP] at hTC
    have hq25 : q < 25 := by have := Gr.size_le hok; omega
    have HG := Lib.hid hg
    have HZT := Lib.hid hzt
    have HCT : Hid (selfB (turnS ss) ((P : Int) + (ss.length : Int) - 1 - ((q / (rowOf ss 0).size : Nat) : Int)) = true) := by
      show selfB (turnS ss) _ = true
      rw [show (P : Int) + (ss.length : Int) - 1 - ((q / (rowOf ss 0).size : Nat) : Int) = (turnC ss q : Nat) by rw [hTC]; omega]
      exact hst
    clear hok hg hq hgt hst hTC hcb hP hzt
    obtain ⟨D, hD⟩ : ∃ D : Int, D = deltaL ss q := ⟨_, rfl⟩
    rw [← hD] at HDE
    have HD := Lib.hid hD
    clear hD
    obtain ⟨bb, off, rfl, hc0⟩ := st.textAt 0 rfl (j := 0) (by omega)
    rw [Nat.add_zero] at hc0
    generalize rowOf ss 0 = s0 at *
    generalize q / s0.size = qi at *
    generalize q % s0.size = qk at *
    go_wp2_with fail
    have R := iGridTurn_any _ q1 ss _ (st.texts 0 rfl) lm szm
    rw [HG.out] at R
    refine R.mono ?_
    rintro e W4 ⟨v4, rfl, s2⟩
    clear R
    replace st := st.join s2
    clear s2
    obtain ⟨o4, q4, rfl⟩ := st.shapeS 0 rfl
    clear hc0
    cases hM : mirB ss q
    all_goals
      have HM := Lib.hid hM
      have hde := HDE.out
      rw [hM] at hde
      clear hM
      go_wp2_with fail
      have R := iChangeDelta_any _ q1 ss q _ (st.texts 1 rfl) lm szm
      rw [HM.out, ← HD.out] at R
      refine R.mono ?_
      rintro e W5 ⟨rfl, b⟩
      clear R
      replace st := st.step b
      clear b
      have HCS : Hid (∀ k, Calls Try.prog 5 #[.slice o4 (turnS ss).length q4, .int .i64 ((P : Int) + (ss.length : Int) - 1 - (qi : Int))] (W5.drewN k) fun e w' => e = .returned (.bool true) ∧ Below W5.heap.size W5 w') := fun k => by
        have := iChangeSelf_any o4 q4 (turnS ss) ((P : Int) + (ss.length : Int) - 1 - (qi : Int)) (W5.drewN k) ((st.dr ⟨k, rfl⟩).texts 0 rfl) hlt HZT.out
        rw [HCT.out] at this
        refine this.mono ?_
        rintro e w' ⟨h1, h2⟩
        exact ⟨h1, (below_dn (Below.refl _ _) k).trans h2⟩
      have HST := Lib.hid st
      clear st
    · clear hde
      go_wp2_with fail
      have t1 : (q : Int).tmod (s0.size : Int) = (qk : Int) := by rw [Int.tmod_eq_emod_of_nonneg (by omega), i2]
      have t2 : (q : Int).tdiv (s0.size : Int) = (qi : Int) := by rw [Int.tdiv_eq_ediv_of_nonneg (by omega), i1]
      have hM0 : ¬ s0.size = 0 := by omega
      generalize s0.size = M at *
      go_still_tail 23, (by kernel_rfl)
      change wpList _ _ _ _ _ W5.drew
      go_wp2_with fail
      refine (HCS.out 1).mono ?_
      rintro e w9 ⟨rfl, b9⟩
      have B9 := Lib.hid b9
      clear b9
      go_wp2_with fail
      go_ret
      exact ⟨rfl, (HST.out.step B9.out).below⟩
    · have hd0 := hde (by simp)
      have e0 : decide (D ≥ 0) = true := decide_eq_true hd0
      clear hde
      go_wp2_with fail
      have t1 : (q : Int).tmod (s0.size : Int) = (qk : Int) := by rw [Int.tmod_eq_emod_of_nonneg (by omega), i2]
      have t2 : (q : Int).tdiv (s0.size : Int) = (qi : Int) := by rw [Int.tdiv_eq_ediv_of_nonneg (by omega), i1]
      have hM0 : ¬ s0.size = 0 := by omega
      generalize s0.size = M at *
      go_still_tail 23, (by kernel_rfl)
      change wpList _ _ _ _ _ W5.drew
      go_wp2_with fail
      refine (HCS.out 1).mono ?_
      rintro e w9 ⟨rfl, b9⟩
      have B9 := Lib.hid b9
      clear b9
      go_wp2_with fail
      go_ret
      exact ⟨rfl, (HST.out.step B9.out).below⟩

end Go.Proofs.Ytmlenaelijchjaa.fnSelf
