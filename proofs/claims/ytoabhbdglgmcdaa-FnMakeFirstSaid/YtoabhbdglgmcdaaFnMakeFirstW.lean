/- The walk through the law FnMakeFirst: First grids have their pairing. (P66) -/
import Derived.Test.YtoabhbdglgmcdaaDrawMakeW
import Derived.Test.YtoabhbdglgmcdaaMadeLawL
import Derived.Test.YtoabhbdglgmcdaaMakeSW
import Derived.Test.YtoabhbdglgmcdaaSameTW
import Derived.Test.YtoabhbdglgmcdaaSameW
import Derived.Test.YtoabhbdglgmcdaaStS
namespace Go.Proofs.Ytoabhbdglgmcdaa.fnMakeFirst
open Go.RowKit
set_option linter.unusedVariables false

theorem walk (a0 : Option Addr) (cap0 : Nat) (z0 : List Int) (w : World) (c0 : CellsY w a0 z0) (m0 : z0.length ≤ cap0 ∧ cap0 ≤ maxLen) :
    Calls Try.prog 9 #[.slice a0 z0.length cap0] w fun e w' => e = .returned (.bool true) ∧ Below w.heap.size w w' := by
  have m1 : z0.length ≤ maxLen := Nat.le_trans m0.1 m0.2
  by_cases h0 : 1048576 < z0.length
  · unfold maxLen at m1
    clear m0
    go_enter Try.func9, Try.ntmps9
    go_wp2
    go_ret
    exact ⟨rfl, Below.refl _ _⟩
  have l0 : z0.length ≤ 1048576 := by omega
  clear h0
  have st := St.init w
  go_enter Try.func9, Try.ntmps9
  go_wp2_with fail
  refine (DrawMakeFirst_any a0 cap0 z0 w c0 m0.1 m0.2).mono ?_
  rintro e W1 ⟨v1, xs, n, m, rfl, n0, n1, mm0, mm1, lx, o, b⟩
  replace st := st.add o b
  obtain ⟨o1, q1, rfl⟩ := o.shape2
  clear o b c0 m0 m1
  obtain ⟨L, hL⟩ : ∃ L : List ByteArray, L = firstL n m xs := ⟨_, rfl⟩
  have lmL : L.length ≤ maxLen := by rw [hL]; exact Nat.le_trans (firstL_le n m xs) (by decide)
  have HL := Lib.hid hL
  clear hL
  cases hF : firstB n m xs
  all_goals
    have HF := Lib.hid hF
    clear hF
    go_wp2_with fail
    have R := iMakeFirst_any n m _ q1 _ _ (st.cells 0 rfl) (st.len 0 rfl)
    rw [HF.out, ← HL.out] at R
    refine R.mono ?_
    rintro e W2 ⟨v2, rfl, s2⟩
    clear R
    replace st := st.join s2
    clear s2
    obtain ⟨o2, q2, rfl⟩ := st.shapeS 0 rfl
    go_wp2_with fail
    have R := sMakeFirst_any n m _ q1 _ _ (st.cells 1 rfl) (st.len 1 rfl)
    rw [HF.out, ← HL.out] at R
    refine R.mono ?_
    rintro e W3 ⟨v3, rfl, s2⟩
    clear R
    replace st := st.join s2
    clear s2
    obtain ⟨o3, q3, rfl⟩ := st.shapeS 0 rfl
    go_wp2_with fail
    refine (sameTexts_any _ _ _ _ _ _ (st.texts 1 rfl) (st.texts 0 rfl) lmL).mono ?_
    rintro e W4 ⟨rfl, d⟩
    replace st := st.dr d
    clear d
  · go_wp2_with fail
    refine (sameTexts_any _ _ _ _ _ _ (st.texts 1 rfl) (st.texts 0 rfl) lmL).mono ?_
    rintro e W5 ⟨rfl, d⟩
    replace st := st.dr d
    clear d
    go_wp2_with fail
    go_ret
    exact ⟨rfl, st.below⟩
  · have hW := first_law HF.out
    rw [← HL.out] at hW
    obtain ⟨hG, hl5, hs5, hbe, c, hc, hcf, hc25⟩ := hW
    obtain ⟨W, hW⟩ : ∃ W, W = fewL n m xs := ⟨_, rfl⟩
    have HW := Lib.hid hW
    have HG := Lib.hid hG
    have HBE := Lib.hid hbe
    have HC := Lib.hid hc
    have SZ : Hid (∀ s ∈ L, s.size ≤ maxLen) := fun s hs => by have := hs5 s hs; unfold maxLen; omega
    have hcw : decide (W ≤ c) = true := by rw [hW]; exact decide_eq_true hcf
    clear hW hG hbe hc hcf hs5 hl5
    go_wp2_with fail
    have R := iBeamPairs_any _ q2 L _ (st.texts 1 rfl) lmL SZ.out
    rw [HG.out, HBE.out] at R
    refine R.mono ?_
    rintro e W5 ⟨v5, rfl, s2⟩
    clear R
    replace st := st.join s2
    clear s2
    obtain ⟨o5, q5, rfl⟩ := st.shapeI0
    go_wp2_with fail
    have R := iGridCount_any _ q2 L _ (st.texts 2 rfl) lmL SZ.out
    rw [HG.out, HC.out] at R
    refine R.mono ?_
    rintro e W6 ⟨rfl, rfl⟩
    clear R
    go_wp2_with fail
    have R := iMakeFewest_any n m _ q1 _ _ (st.cells 3 rfl) (st.len 3 rfl)
    rw [HF.out, ← HW.out] at R
    refine R.mono ?_
    rintro e W7 ⟨rfl, d⟩
    clear R
    replace st := st.step d
    clear d
    go_wp2_with fail
    refine (sameInts_any _ _ _ _ _ _ _ (st.cells 0 rfl) (st.cells 3 rfl) (st.len 0 rfl) (st.len 3 rfl)).mono ?_
    rintro e W8 ⟨rfl, d⟩
    replace st := st.dr d
    clear d
    rw [eqL_true rfl]
    go_wp2_with fail
    go_ret
    exact ⟨rfl, st.below⟩

end Go.Proofs.Ytoabhbdglgmcdaa.fnMakeFirst
