/- The walk through the law FnChords: Pairs that cross stay when ports are turned. (P45) -/
import Derived.Test.YtgbfhpjdhacfmaaDrawChordsW
import Derived.Test.YtgbfhpjdhacfmaaTurnW
import Derived.Test.YtgbfhpjdhacfmaaChordsW
import Derived.Test.YtgbfhpjdhacfmaaChordsTL
namespace Go.Proofs.Ytgbfhpjdhacfmaa.fnChords
open Go.RowKit
set_option linter.unusedVariables false

theorem walk (a0 : Option Addr) (cap0 : Nat) (z0 : List Int) (w : World) (c0 : CellsY w a0 z0) (m0 : z0.length ≤ cap0 ∧ cap0 ≤ maxLen) :
    Calls Try.prog 7 #[.slice a0 z0.length cap0] w fun e w' => e = .returned (.bool true) ∧ Below w.heap.size w w' := by
  have m1 : z0.length ≤ maxLen := Nat.le_trans m0.1 m0.2
  by_cases h0 : 1048576 < z0.length
  · unfold maxLen at m1
    clear m0
    go_enter Try.func7, Try.ntmps7
    go_wp2
    go_ret
    exact ⟨rfl, Below.refl _ _⟩
  have l0 : z0.length ≤ 1048576 := by omega
  clear h0
  go_enter Try.func7, Try.ntmps7
  go_wp2_with fail
  refine (DrawCrossChords_any a0 cap0 z0 w c0 m0.1 m0.2).mono ?_
  rintro e W1 ⟨v1, xs, rfl, lx, st⟩
  obtain ⟨o1, q1, rfl⟩ := st.shapeI0
  clear c0 m0 m1
  obtain ⟨L, hL⟩ : ∃ L : Int, L = chordsN xs := ⟨_, rfl⟩
  have HL := Lib.hid hL
  have nL : (L != L) = false := bne_self_eq_false _
  have bL : (L == L) = true := beq_self_eq_true _
  clear hL
  cases hp : pairsB xs
  all_goals
    have HP := Lib.hid hp
    clear hp
    go_wp2_with fail
    have R := iCrossChords_any o1 q1 xs _ (st.cells 0 rfl) (st.len 0 rfl)
    rw [HP.out, ← HL.out] at R
    refine R.mono ?_
    rintro e w' ⟨rfl, rfl⟩
    clear R
    go_wp2_with fail
    have R := sCrossChords_any o1 q1 xs _ (st.cells 0 rfl) (st.len 0 rfl)
    rw [HP.out, ← HL.out] at R
    refine R.mono ?_
    rintro e W2 ⟨rfl, d⟩
    clear R
    replace st := st.dr d
    clear d
  · go_wp2_with fail
    go_ret
    exact ⟨rfl, st.below⟩
  · have hT : turnB xs 3 = true := by simp only [turnB, HP.out, Bool.true_and]; rfl
    have hl4 := (inB_iff.1 (pairsB_iff.1 HP.out).2).1
    have hch := chordsN_turn (k := 3) HP.out (by omega) (by omega)
    rw [← HL.out] at hch
    obtain ⟨hb0, hb1⟩ := chordsN_bound HP.out
    rw [← HL.out] at hb0 hb1
    have HQ := Lib.hid (turnL_pairs hT).1
    have HT := Lib.hid hT
    have HCH : Hid (chordsN (turnL xs 3) = L) := hch
    obtain ⟨k, hk⟩ : ∃ k : Nat, k = xs.length / 2 := ⟨_, rfl⟩
    rw [← hk] at hb1
    have hk10 : 2 ≤ k ∧ k ≤ 10 := by omega
    have hk2 : (xs.length : Int) / 2 = (k : Int) := by omega
    have hsq : ((k * (k - 1) : Nat) : Int) = (k : Int) * ((k : Int) - 1) := by
      rw [Int.natCast_mul]
      congr 1
      omega
    rw [hsq] at hb1
    have q0 : (0 : Int) ≤ (k : Int) * ((k : Int) - 1) := Int.mul_nonneg (by omega) (by omega)
    have q1' : (k : Int) * ((k : Int) - 1) ≤ 10 * 9 := Int.mul_le_mul (by omega) (by omega) (by omega) (by omega)
    have hle : L ≤ (k : Int) * ((k : Int) - 1) / 2 := by omega
    clear hT hch hk hsq hb1
    go_wp2_with fail
    have R := iCrossTurn_any o1 q1 xs 3 _ (st.cells 0 rfl) (st.len 0 rfl)
    rw [HT.out] at R
    refine R.mono ?_
    rintro e W3 ⟨v3, rfl, o, b⟩
    clear R
    replace st := st.add o b
    obtain ⟨o3, q3, rfl⟩ := o.shape2
    clear o b
    go_wp2_with fail
    have R := iCrossChords_any o3 q3 _ _ (st.cells 0 rfl) (st.len 0 rfl)
    rw [HQ.out, HCH.out] at R
    refine R.mono ?_
    rintro e w' ⟨rfl, rfl⟩
    clear R
    go_wp2_with fail
    go_ret
    exact ⟨rfl, st.below⟩

end Go.Proofs.Ytgbfhpjdhacfmaa.fnChords
