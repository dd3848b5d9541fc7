/- The walk through the law FnCrossTurn: Pairings turned all round are themselves. (P48) -/
import Derived.Test.YtgfkimhkkoopcaaDrawTurnW
import Derived.Test.YtgfkimhkkoopcaaTurnW
import Derived.Test.YtgfkimhkkoopcaaRen
import Derived.Test.YtgfkimhkkoopcaaSameW
import Derived.Test.YtgfkimhkkoopcaaState
namespace Go.Proofs.Ytgfkimhkkoopcaa.fnCrossTurn
open Go.RowKit
set_option linter.unusedVariables false

theorem walk (a0 : Option Addr) (cap0 : Nat) (z0 : List Int) (w : World) (c0 : CellsY w a0 z0) (m0 : z0.length ≤ cap0 ∧ cap0 ≤ maxLen) :
    Calls Try.prog 9 #[.slice a0 z0.length cap0] w fun e w' => e = .returned (.bool true) ∧ Below w.heap.size w w' := by
  have m1 : z0.length ≤ maxLen := Nat.le_trans m0.1 m0.2
  by_cases h0 : 1048576 < z0.length
  · unfold maxLen at m1
    clear m0
    go_enter Try.func9, Try.ntmps9
    go_wp2
    go_ret
    exact ⟨rfl, Below.refl _ _⟩
  have l0 : z0.length ≤ 1048576 := by omega
  clear h0
  have st := St.init w
  go_enter Try.func9, Try.ntmps9
  go_wp2_with fail
  refine (DrawCrossTurn_any a0 cap0 z0 w c0 m0.1 m0.2).mono ?_
  rintro e W1 ⟨v1, xs, k, rfl, k0, k1, lx, o, b⟩
  replace st := st.add o b
  obtain ⟨o1, q1, rfl⟩ := o.shape2
  obtain ⟨k, rfl⟩ := Int.eq_ofNat_of_zero_le k0
  clear o b c0 m0 m1
  cases hB : turnB xs k
  all_goals
    have HB := Lib.hid hB
    clear hB
    go_wp2_with fail
    have R := iCrossTurn_any _ q1 _ k _ (st.cells 0 rfl) (st.len 0 rfl)
    rw [HB.out] at R
    refine R.mono ?_
    rintro e W2 ⟨v2, rfl, o, b⟩
    clear R
    replace st := st.add o b
    obtain ⟨o2, q2, rfl⟩ := o.shape2
    clear o b
    go_wp2_with fail
    have R := sCrossTurn_any _ q1 _ k _ (st.cells 1 rfl) (st.len 1 rfl)
    rw [HB.out] at R
    refine R.mono ?_
    rintro e W3 ⟨v3, rfl, o, b⟩
    clear R
    replace st := st.add o b
    obtain ⟨o3, q3, rfl⟩ := o.shape2
    clear o b
    go_wp2_with fail
    refine (sameInts_any _ _ _ _ _ _ _ (st.cells 1 rfl) (st.cells 0 rfl) (st.len 1 rfl) (st.len 0 rfl)).mono ?_
    rintro e W4 ⟨rfl, d⟩
    replace st := st.dr d
    clear d
    rw [eqL_true rfl]
  · go_wp2_with fail
    refine (sameInts_any _ _ _ _ _ _ _ (st.cells 1 rfl) (st.cells 0 rfl) (st.len 1 rfl) (st.len 0 rfl)).mono ?_
    rintro e W5 ⟨rfl, d⟩
    replace st := st.dr d
    clear d
    rw [eqL_true rfl]
    go_wp2_with fail
    go_ret
    exact ⟨rfl, st.below⟩
  · obtain ⟨hT, hX⟩ := turn_back HB.out
    have hlen := inB_iff.1 (pairsB_iff.1 (show pairsB xs = true by have := HB.out; simp only [turnB, Bool.and_eq_true] at this; exact this.1)).2
    have i0 : 0 ≤ (k : Int) % xs.length := Int.emod_nonneg _ (by omega)
    have i1 : (k : Int) % xs.length < xs.length := Int.emod_lt_of_pos _ (by omega)
    go_wp2_with fail
    have hE : -((k : Int) % xs.length) % xs.length = ((xs.length : Int) - (k : Int) % xs.length) % xs.length := by rw [Int.sub_eq_add_neg, Int.add_comm, Int.add_emod_right]
    rw [← hE] at hT hX
    have R := iCrossTurn_any o2 q2 (turnL xs k) (-((k : Int) % xs.length) % xs.length) W4 (st.cells 1 rfl) (st.len 1 rfl)
    rw [hT, hX] at R
    clear hT hX hE
    refine R.mono ?_
    rintro e W5 ⟨v5, rfl, o, b⟩
    clear R
    replace st := st.add o b
    obtain ⟨o5, q5, rfl⟩ := o.shape2
    clear o b
    go_wp2_with fail
    refine (sameInts_any _ _ _ _ _ _ _ (st.cells 0 rfl) (st.cells 3 rfl) (st.len 0 rfl) (st.len 3 rfl)).mono ?_
    rintro e W6 ⟨rfl, d⟩
    replace st := st.dr d
    clear d
    rw [eqL_true rfl]
    go_wp2_with fail
    go_ret
    exact ⟨rfl, st.below⟩

end Go.Proofs.Ytgfkimhkkoopcaa.fnCrossTurn
