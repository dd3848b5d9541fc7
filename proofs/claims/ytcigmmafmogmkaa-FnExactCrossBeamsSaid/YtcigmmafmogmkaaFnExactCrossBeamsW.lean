/- The walk through the law FnExactCrossBeams: The program's CrossBeams returns what the reference's returns, for all arguments. -/
import Derived.Test.YtcigmmafmogmkaaCrossBmW
import Derived.Test.YtcigmmafmogmkaaCrossS2W
import Derived.Test.YtcigmmafmogmkaaStS
namespace Go.Proofs.Ytcigmmafmogmkaa.fnExactCrossBeams
open Go.RowKit
set_option linter.unusedVariables false

theorem walk (a0 : Option Addr) (cap0 : Nat) (z0 : List ByteArray) (w : World) (c0 : CellsS w a0 z0) (m0 : z0.length ≤ maxLen) (s0 : ∀ s ∈ z0, s.size ≤ maxLen) :
    Calls Try.prog 4 #[.slice a0 z0.length cap0] w fun e w' => e = .returned (.bool true) ∧ Below w.heap.size w w' := by
  have st := St.init w
  obtain ⟨L, hL⟩ : ∃ L : Int, L = crL z0 (gr z0).bmB := ⟨_, rfl⟩
  have HL := Lib.hid hL
  have nL : (L != L) = false := bne_self_eq_false _
  clear hL
  obtain ⟨B, hB⟩ : ∃ B : Bool, B = gridB z0 := ⟨_, rfl⟩
  have HB := Lib.hid hB
  have nB : (B != B) = false := bne_self_eq_false _
  clear hB
  go_enter Try.func4, Try.ntmps4
  go_wp2_with fail
  refine (szStringS_any a0 cap0 z0 _ w c0 m0 s0 (by omega) (by omega)).mono ?_
  rintro e w' ⟨r, rfl, rfl, hr⟩
  rcases hr with rfl | ⟨r0, _, n0, _⟩
  · go_wp2
    go_ret
    exact ⟨rfl, Below.refl _ _⟩
  have n0 : z0.length ≤ 1048576 := by omega
  go_wp2_with fail
  refine (toStringS_any a0 cap0 z0 _ (st.oldS c0) n0).mono ?_
  rintro e W1 ⟨v1, rfl, o, b⟩
  replace st := st.addSeg (s := SS _ _) o b
  obtain ⟨o1, k1, rfl⟩ := st.shapeS 0 rfl
  clear o b
  go_wp2_with fail
  have R := sCrossBeams_any o1 k1 z0 _ (st.texts 0 rfl) m0 s0
  rw [← HL.out, ← HB.out] at R
  refine R.mono ?_
  rintro e W2 ⟨rfl, d⟩
  clear R
  replace st := st.step d
  clear d
  go_wp2_with fail
  refine (toStringS_any a0 cap0 z0 _ (st.oldS c0) n0).mono ?_
  rintro e W3 ⟨v3, rfl, o, b⟩
  replace st := st.addSeg (s := SS _ _) o b
  obtain ⟨o3, k3, rfl⟩ := st.shapeS 0 rfl
  clear o b
  go_wp2_with fail
  have R := iCrossBeams_any o3 k3 z0 _ (st.texts 0 rfl) m0 s0
  rw [← HL.out, ← HB.out] at R
  refine R.mono ?_
  rintro e W4 ⟨rfl, d⟩
  clear R
  replace st := st.step d
  clear d
  go_wp2_with fail
  refine (toStringS_any a0 cap0 z0 _ (st.oldS c0) n0).mono ?_
  rintro e W5 ⟨v5, rfl, o, b⟩
  replace st := st.addSeg (s := SS _ _) o b
  obtain ⟨o5, k5, rfl⟩ := st.shapeS 0 rfl
  clear o b
  go_wp2_with fail
  refine (eqStringS_any _ _ _ _ _ _ (st.texts 1 rfl) (st.texts 0 rfl) m0).mono ?_
  rintro e W6 ⟨rfl, d⟩
  replace st := st.dr d
  clear d
  go_wp2_with fail
  go_ret
  exact ⟨rfl, st.below⟩

end Go.Proofs.Ytcigmmafmogmkaa.fnExactCrossBeams
