/- The walk through the law FnMakeSum: All grids have some pairing. (P69) -/
import Derived.Test.YtoabhbdglgmcdaaDrawMakeW
import Derived.Test.YtoabhbdglgmcdaaMadeSumL
import Derived.Test.YtoabhbdglgmcdaaMakeSW
import Derived.Test.YtoabhbdglgmcdaaSameW
import Derived.Test.YtoabhbdglgmcdaaStS
namespace Go.Proofs.Ytoabhbdglgmcdaa.fnMakeSum
open Go.RowKit
set_option linter.unusedVariables false

theorem walk (a0 : Option Addr) (cap0 : Nat) (z0 : List Int) (w : World) (c0 : CellsY w a0 z0) (m0 : z0.length ≤ cap0 ∧ cap0 ≤ maxLen) :
    Calls Try.prog 7 #[.slice a0 z0.length cap0] w fun e w' => e = .returned (.bool true) ∧ Below w.heap.size w w' := by
  have m1 : z0.length ≤ maxLen := Nat.le_trans m0.1 m0.2
  by_cases h0 : 1048576 < z0.length
  · unfold maxLen at m1
    clear m0
    go_enter Try.func7, Try.ntmps7
    go_wp2
    go_ret
    exact ⟨rfl, Below.refl _ _⟩
  have l0 : z0.length ≤ 1048576 := by omega
  clear h0
  have st := St.init w
  go_enter Try.func7, Try.ntmps7
  go_wp2_with fail
  refine (DrawMakeMany_any a0 cap0 z0 w c0 m0.1 m0.2).mono ?_
  rintro e W1 ⟨v1, xs, n, m, rfl, n0, n1, mm0, mm1, lx, o, b⟩
  replace st := st.add o b
  obtain ⟨o1, q1, rfl⟩ := o.shape2
  clear o b c0 m0 m1
  cases hB : givenB n m xs
  all_goals
    have HB := Lib.hid hB
    clear hB
    obtain ⟨X, hX⟩ : ∃ X, X = (madeR n m xs).length := ⟨_, rfl⟩
    have HX := Lib.hid hX
    clear hX
    have neX : ((X : Int) != X) = false := bne_self_eq_false _
    have eqX : ((X : Int) == X) = true := beq_self_eq_true _
    go_wp2_with fail
    have R := iMakeMany_any n m _ q1 _ _ (st.cells 0 rfl) (st.len 0 rfl)
    rw [HB.out, ← HX.out] at R
    refine R.mono ?_
    rintro e W2 ⟨rfl, d⟩
    clear R
    replace st := st.step d
    clear d
    go_wp2_with fail
    have R := sMakeMany_any n m _ q1 _ _ (st.cells 0 rfl) (st.len 0 rfl)
    rw [HB.out, ← HX.out] at R
    refine R.mono ?_
    rintro e W3 ⟨rfl, d⟩
    clear R
    replace st := st.step d
    clear d
  · go_wp2_with fail
    go_ret
    exact ⟨rfl, st.below⟩
  · have hf := first_len n m xs
    rw [← HX.out] at hf
    obtain ⟨L, hL⟩ : ∃ L : List ByteArray, L = firstL n m xs := ⟨_, rfl⟩
    have lmL : L.length ≤ maxLen := by rw [hL]; exact Nat.le_trans (firstL_le n m xs) (by decide)
    have HL := Lib.hid hL
    clear hL
    cases hF : firstB n m xs
    · rw [hF] at hf
      have hx0 : X = 0 := by have := of_decide_eq_false hf; omega
      have HF := Lib.hid hF
      clear hF hf
      subst hx0
      go_wp2_with fail
      have R := iMakeFirst_any n m _ q1 _ _ (st.cells 0 rfl) (st.len 0 rfl)
      rw [HF.out, ← HL.out] at R
      refine R.mono ?_
      rintro e W4 ⟨v4, rfl, s2⟩
      clear R
      replace st := st.join s2
      clear s2
      obtain ⟨o4, q4, rfl⟩ := st.shapeS 0 rfl
      go_wp2_with fail
      go_ret
      exact ⟨rfl, st.below⟩
    · have hW := sum_law hF
      have hV := first_law hF
      rw [← HL.out] at hV hW
      rw [← HX.out] at hW
      obtain ⟨hG, hl5, hs5, hbe, c, hc, hcf, hc25⟩ := hV
      obtain ⟨hx1, hgo, hlo, hso, h2⟩ := hW
      rw [hc] at h2
      have ge1 : decide ((X : Int) ≥ 1) = true := decide_eq_true (by omega)
      obtain ⟨O, hO⟩ : ∃ O : List ByteArray, O = otherS L := ⟨_, rfl⟩
      rw [← hO] at hgo hlo hso h2
      have HO := Lib.hid hO
      have HF := Lib.hid hF
      have HG := Lib.hid hG
      have HGO := Lib.hid hgo
      have HC := Lib.hid hc
      have H2 := Lib.hid h2
      have SZ : Hid (∀ s ∈ L, s.size ≤ maxLen) := fun s hs => by have := hs5 s hs; unfold maxLen; omega
      have SZO : Hid (∀ s ∈ O, s.size ≤ maxLen) := fun s hs => by have := hso s hs; unfold maxLen; omega
      have lmO : O.length ≤ maxLen := by unfold maxLen; omega
      have ge1' : decide (1 ≤ X) = true := decide_eq_true hx1
      clear hG hbe hc hcf hs5 hl5 hF hf hgo hlo hso h2 hO
      go_wp2_with fail
      have R := iMakeFirst_any n m _ q1 _ _ (st.cells 0 rfl) (st.len 0 rfl)
      rw [HF.out, ← HL.out] at R
      refine R.mono ?_
      rintro e W4 ⟨v4, rfl, s2⟩
      clear R
      replace st := st.join s2
      clear s2
      obtain ⟨o4, q4, rfl⟩ := st.shapeS 0 rfl
      go_wp2_with fail
      have R := iGridOther_any _ q4 L _ (st.texts 0 rfl) lmL SZ.out
      rw [HG.out, ← HO.out] at R
      refine R.mono ?_
      rintro e W5 ⟨v5, rfl, s2⟩
      clear R
      replace st := st.join s2
      clear s2
      obtain ⟨o5, q5, rfl⟩ := st.shapeS 0 rfl
      go_wp2_with fail
      have R := iBeamPairs_any _ q5 O _ (st.texts 0 rfl) lmO SZO.out
      rw [HGO.out] at R
      refine R.mono ?_
      rintro e W6 ⟨v6, rfl, s2⟩
      clear R
      replace st := st.join s2
      clear s2
      obtain ⟨o6, q6, rfl⟩ := st.shapeI0
      go_wp2_with fail
      have R := iGridCount_any _ q4 L _ (st.texts 2 rfl) lmL SZ.out
      rw [HG.out, HC.out] at R
      refine R.mono ?_
      rintro e W7 ⟨rfl, rfl⟩
      clear R
      by_cases c0 : c = 0
      · subst c0
        go_wp2_with fail
        go_ret
        exact ⟨rfl, st.below⟩
      · have ec : ((c : Int) == 0) = false := by rw [beq_eq_false_iff_ne]; omega
        have ec' : (c == 0) = false := by rw [beq_eq_false_iff_ne]; omega
        go_wp2_with fail
        refine (sameInts_any _ _ _ _ _ _ _ (st.cells 0 rfl) (st.cells 3 rfl) (st.len 0 rfl) (st.len 3 rfl)).mono ?_
        rintro e W8 ⟨rfl, d⟩
        replace st := st.dr d
        clear d
        cases hS : eqL (beamsB O) xs
        · go_wp2_with fail
          go_ret
          exact ⟨rfl, st.below⟩
        · have hx2 := H2.out (by omega) (by simpa [eqL] using hS)
          have ge2 : decide ((X : Int) ≥ 2) = true := decide_eq_true (by omega)
          have ge2' : decide (2 ≤ X) = true := decide_eq_true hx2
          clear hS
          go_wp2_with fail
          go_ret
          exact ⟨rfl, st.below⟩

end Go.Proofs.Ytoabhbdglgmcdaa.fnMakeSum
