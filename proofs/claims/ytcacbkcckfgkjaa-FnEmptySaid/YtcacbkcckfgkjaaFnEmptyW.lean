/- The walk through the law FnEmpty: Cells made empty change paths by one at most. (P35) -/
import Derived.Test.YtcacbkcckfgkjaaDrawCellW
import Derived.Test.YtcacbkcckfgkjaaChangeL
import Derived.Test.YtcacbkcckfgkjaaChange2W
import Derived.Test.YtcacbkcckfgkjaaStS
namespace Go.Proofs.Ytcacbkcckfgkjaa.fnEmpty
open Go.RowKit
set_option linter.unusedVariables false

theorem walk (a0 : Option Addr) (cap0 : Nat) (z0 : List Int) (w : World) (c0 : CellsY w a0 z0) (m0 : z0.length ≤ cap0 ∧ cap0 ≤ maxLen) :
    Calls Try.prog 7 #[.slice a0 z0.length cap0] w fun e w' => e = .returned (.bool true) ∧ Below w.heap.size w w' := by
  have m1 : z0.length ≤ maxLen := Nat.le_trans m0.1 m0.2
  by_cases h0 : 1048576 < z0.length
  · unfold maxLen at m1
    clear m0
    go_enter Try.func7, Try.ntmps7
    go_wp2
    go_ret
    exact ⟨rfl, Below.refl _ _⟩
  have l0 : z0.length ≤ 1048576 := by omega
  clear h0
  go_enter Try.func7, Try.ntmps7
  go_wp2_with fail
  refine (DrawChangeEmpty_any a0 cap0 z0 w c0 m0.1 m0.2).mono ?_
  rintro e W1 ⟨v1, ss, c, rfl, l1, l4, sz, st⟩
  obtain ⟨o1, q1, rfl⟩ := st.shapeS 0 rfl
  have lm : ss.length ≤ maxLen := by unfold maxLen; omega
  have szm := sizes_max sz
  clear c0 m0 m1 sz
  obtain ⟨L, hL⟩ : ∃ L : Int, L = emptyL ss c := ⟨_, rfl⟩
  have HL := Lib.hid hL
  have nL : (L != L) = false := bne_self_eq_false _
  have bL : (L == L) = true := beq_self_eq_true _
  clear hL
  cases hb : mirB ss c
  all_goals
    have HB := Lib.hid hb
    clear hb
    go_wp2_with fail
    have R := iChangeEmpty_any o1 q1 ss c _ (st.texts 0 rfl) lm szm
    rw [HB.out, ← HL.out] at R
    refine R.mono ?_
    rintro e W2 ⟨rfl, b⟩
    clear R
    replace st := st.step b
    clear b
    go_wp2_with fail
    have R := sChangeEmpty_any o1 q1 ss c _ (st.texts 0 rfl) lm szm
    rw [HB.out, ← HL.out] at R
    refine R.mono ?_
    rintro e W3 ⟨rfl, b⟩
    clear R
    replace st := st.step b
    clear b
  · go_wp2_with fail
    go_ret
    exact ⟨rfl, st.below⟩
  · obtain ⟨hg, q, rfl, hq, hmir⟩ := mirB_nat HB.out
    have HG := Lib.hid hg
    have HQ := Lib.hid hq
    have h25 := Gr.size_le (gr_ok hg)
    obtain ⟨f1, f2, f3⟩ := empty_facts HB.out hg hq
    rw [← HL.out] at f1 f2 f3
    have hg2 := putS_ok hg q (show letB 46 = true from rfl)
    have hl2 : (putS ss q 46).length ≤ maxLen := by
      have : (putS ss q 46).length = ss.length := (putS_sides hg q 46).1
      omega
    have hs2 : ∀ s ∈ putS ss q 46, s.size ≤ maxLen := gridB_sizes hg2
    have hp1 := pmany_le hg
    have hp2 := pmany_le hg2
    have HG2 := Lib.hid hg2
    have HF := Lib.hid f1
    clear hg hq hmir hg2 f1
    go_wp2_with fail
    refine (GridPut_any o1 q1 ss q ⟨#[46]⟩ 46 _ (st.texts 0 rfl) lm szm HG.out HQ.out rfl rfl rfl).mono ?_
    rintro e W4 ⟨v4, rfl, s4⟩
    replace st := st.join s4
    clear s4
    obtain ⟨o4, q4, rfl⟩ := st.shapeS 0 rfl
    go_wp2_with fail
    refine (RoundPaths_any o1 q1 ss _ (st.texts 1 rfl) lm szm HG.out).mono ?_
    rintro e W5 ⟨rfl, b⟩
    replace st := st.step b
    clear b
    go_wp2_with fail
    refine (RoundPaths_any o4 q4 (putS ss q 46) _ (st.texts 0 rfl) hl2 hs2 HG2.out).mono ?_
    rintro e W6 ⟨rfl, b⟩
    replace st := st.step b
    clear b
    have HST := Lib.hid st
    have HF := HF.out
    clear st
    generalize (gr ss).pmany = A at *
    generalize (gr (putS ss q 46)).pmany = B at *
    have bq : ((B : Int) - (A : Int) == L) = true := by rw [beq_iff_eq]; omega
    clear HF
    go_wp2
    go_ret
    exact ⟨rfl, HST.out.below⟩

end Go.Proofs.Ytcacbkcckfgkjaa.fnEmpty
