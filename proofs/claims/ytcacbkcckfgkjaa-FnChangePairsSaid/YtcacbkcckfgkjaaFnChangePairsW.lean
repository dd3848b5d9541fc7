/- The walk through the law FnChangePairs: Exchanges change four partners, or none. (P40) -/
import Derived.Test.YtcacbkcckfgkjaaDrawCellW
import Derived.Test.YtcacbkcckfgkjaaChgL
import Derived.Test.YtcacbkcckfgkjaaChangeW
import Derived.Test.YtcacbkcckfgkjaaChange2W
import Derived.Test.YtcacbkcckfgkjaaStS
namespace Go.Proofs.Ytcacbkcckfgkjaa.fnChangePairs
open Go.RowKit
set_option linter.unusedVariables false

theorem walk (a0 : Option Addr) (cap0 : Nat) (z0 : List Int) (w : World) (c0 : CellsY w a0 z0) (m0 : z0.length ≤ cap0 ∧ cap0 ≤ maxLen) :
    Calls Try.prog 6 #[.slice a0 z0.length cap0] w fun e w' => e = .returned (.bool true) ∧ Below w.heap.size w w' := by
  have m1 : z0.length ≤ maxLen := Nat.le_trans m0.1 m0.2
  by_cases h0 : 1048576 < z0.length
  · unfold maxLen at m1
    clear m0
    go_enter Try.func6, Try.ntmps6
    go_wp2
    go_ret
    exact ⟨rfl, Below.refl _ _⟩
  have l0 : z0.length ≤ 1048576 := by omega
  clear h0
  go_enter Try.func6, Try.ntmps6
  go_wp2_with fail
  refine (DrawChangePairs_any a0 cap0 z0 w c0 m0.1 m0.2).mono ?_
  rintro e W1 ⟨v1, ss, c, rfl, l1, l4, sz, st⟩
  obtain ⟨o1, q1, rfl⟩ := st.shapeS 0 rfl
  have lm : ss.length ≤ maxLen := by unfold maxLen; omega
  have szm := sizes_max sz
  clear c0 m0 m1 sz
  obtain ⟨L, hL⟩ : ∃ L : Int, L = chgL ss c := ⟨_, rfl⟩
  have HL := Lib.hid hL
  have nL : (L != L) = false := bne_self_eq_false _
  have bL : (L == L) = true := beq_self_eq_true _
  clear hL
  cases hb : mirB ss c
  all_goals
    have HB := Lib.hid hb
    clear hb
    go_wp2_with fail
    have R := iChangePairs_any o1 q1 ss c _ (st.texts 0 rfl) lm szm
    rw [HB.out, ← HL.out] at R
    refine R.mono ?_
    rintro e W2 ⟨rfl, d⟩
    clear R
    replace st := st.step d
    clear d
    go_wp2_with fail
    have R := sChangePairs_any o1 q1 ss c _ (st.texts 0 rfl) lm szm
    rw [HB.out, ← HL.out] at R
    refine R.mono ?_
    rintro e W3 ⟨rfl, d⟩
    clear R
    replace st := st.step d
    clear d
  · go_wp2_with fail
    go_ret
    exact ⟨rfl, st.below⟩
  · obtain ⟨hg, q, rfl, hq, hmir⟩ := mirB_nat HB.out
    have hf := chg_facts HB.out hg hq
    obtain ⟨D, hD⟩ : ∃ D : Int, D = deltaL ss q := ⟨_, rfl⟩
    rw [← HL.out, ← hD] at hf
    have HD := Lib.hid hD
    clear hD hg hq hmir
    rcases hf with rfl | ⟨rfl, rfl⟩
    all_goals
      go_wp2_with fail
      have R := iChangeDelta_any o1 q1 ss q _ (st.texts 0 rfl) lm szm
      rw [HB.out, ← HD.out] at R
      refine R.mono ?_
      rintro e W4 ⟨rfl, b⟩
      clear R
      replace st := st.step b
      clear b
      go_wp2_with fail
      go_ret
      exact ⟨rfl, st.below⟩

end Go.Proofs.Ytcacbkcckfgkjaa.fnChangePairs
