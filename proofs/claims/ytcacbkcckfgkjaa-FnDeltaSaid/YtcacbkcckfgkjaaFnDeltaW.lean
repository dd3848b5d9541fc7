/- The walk through the law FnDelta: Exchanges change paths by one at most, and back. (P34) -/
import Derived.Test.YtcacbkcckfgkjaaDrawCellW
import Derived.Test.YtcacbkcckfgkjaaChangeL
import Derived.Test.YtcacbkcckfgkjaaChange2W
import Derived.Test.YtcacbkcckfgkjaaStS
namespace Go.Proofs.Ytcacbkcckfgkjaa.fnDelta
open Go.RowKit
set_option linter.unusedVariables false

theorem walk (a0 : Option Addr) (cap0 : Nat) (z0 : List Int) (w : World) (c0 : CellsY w a0 z0) (m0 : z0.length ≤ cap0 ∧ cap0 ≤ maxLen) :
    Calls Try.prog 9 #[.slice a0 z0.length cap0] w fun e w' => e = .returned (.bool true) ∧ Below w.heap.size w w' := by
  have m1 : z0.length ≤ maxLen := Nat.le_trans m0.1 m0.2
  by_cases h0 : 1048576 < z0.length
  · unfold maxLen at m1
    clear m0
    go_enter Try.func9, Try.ntmps9
    go_wp2
    go_ret
    exact ⟨rfl, Below.refl _ _⟩
  have l0 : z0.length ≤ 1048576 := by omega
  clear h0
  go_enter Try.func9, Try.ntmps9
  go_wp2_with fail
  refine (DrawChangeDelta_any a0 cap0 z0 w c0 m0.1 m0.2).mono ?_
  rintro e W1 ⟨v1, ss, c, rfl, l1, l4, sz, st⟩
  obtain ⟨o1, q1, rfl⟩ := st.shapeS 0 rfl
  have lm : ss.length ≤ maxLen := by unfold maxLen; omega
  have szm := sizes_max sz
  clear c0 m0 m1 sz
  obtain ⟨L, hL⟩ : ∃ L : Int, L = deltaL ss c := ⟨_, rfl⟩
  have HL := Lib.hid hL
  have nL : (L != L) = false := bne_self_eq_false _
  have bL : (L == L) = true := beq_self_eq_true _
  clear hL
  cases hb : mirB ss c
  all_goals
    have HB := Lib.hid hb
    clear hb
    go_wp2_with fail
    have R := iChangeDelta_any o1 q1 ss c _ (st.texts 0 rfl) lm szm
    rw [HB.out, ← HL.out] at R
    refine R.mono ?_
    rintro e W2 ⟨rfl, b⟩
    clear R
    replace st := st.step b
    clear b
    go_wp2_with fail
    have R := sChangeDelta_any o1 q1 ss c _ (st.texts 0 rfl) lm szm
    rw [HB.out, ← HL.out] at R
    refine R.mono ?_
    rintro e W3 ⟨rfl, b⟩
    clear R
    replace st := st.step b
    clear b
  · go_wp2_with fail
    go_ret
    exact ⟨rfl, st.below⟩
  · obtain ⟨hg, q, rfl, hq, hmir⟩ := mirB_nat HB.out
    have HG := Lib.hid hg
    have HQ := Lib.hid hq
    have h25 := Gr.size_le (gr_ok hg)
    obtain ⟨f1, f2, f3, f4⟩ := delta_facts HB.out hg hq
    rw [← HL.out] at f1 f2 f4
    have hs := sig_let hg hq
    have hok := gr_ok hg
    have hlt : (gr ss).lt (q / (rowOf ss 0).size) (q % (rowOf ss 0).size) = (gr ss).sig q := rfl
    have hi : q / (rowOf ss 0).size < ss.length := Gr.row_lt hok hq
    have hk : q % (rowOf ss 0).size < (rowOf ss 0).size := Gr.col_lt hok q
    have hm1 : 1 ≤ (rowOf ss 0).size := hok.m1
    have hm5 : (rowOf ss 0).size ≤ 5 := hok.m5
    have hrs : (rowOf ss (q / (rowOf ss 0).size)).size = (rowOf ss 0).size := gr_row hg hi
    have hlt2 : sgn (rowOf ss (q / (rowOf ss 0).size)) (q % (rowOf ss 0).size) = (gr ss).sig q := rfl
    have hg2 := putS_ok hg q (exch_let hs)
    have hl2 : (putS ss q (exch ((gr ss).sig q))).length ≤ maxLen := by
      have : (putS ss q (exch ((gr ss).sig q))).length = ss.length := (putS_sides hg q _).1
      omega
    have hs2 : ∀ s ∈ putS ss q (exch ((gr ss).sig q)), s.size ≤ maxLen := gridB_sizes hg2
    have i1 : (q : Int) / ((rowOf ss 0).size : Int) = ((q / (rowOf ss 0).size : Nat) : Int) := (Int.natCast_ediv _ _).symm
    have i2 : (q : Int) % ((rowOf ss 0).size : Int) = ((q % (rowOf ss 0).size : Nat) : Int) := (Int.natCast_emod _ _).symm
    have z0 : (((rowOf ss 0).size : Int) == 0) = false := beq_eq_false_iff_ne.2 (by omega)
    obtain ⟨bb, off, rfl, hc0⟩ := st.textAt 0 rfl (j := 0) (by omega)
    obtain ⟨bb', off', he, hc1⟩ := st.textAt 0 rfl hi
    cases he
    rw [Nat.add_zero] at hc0
    have hl : (gr ss).sig q = 114 ∨ (gr ss).sig q = 102 := by
      simp [letB] at hs
      omega
    have HB2 := Lib.hid f3
    have HD2 := Lib.hid f4
    have HG2 := Lib.hid hg2
    have HLT := Lib.hid hlt2
    clear f3 f4 hg hok hlt hlt2 hg2 hs hq hmir
    generalize (gr ss).sig q = sg at *
    generalize rowOf ss 0 = s0 at *
    generalize rowOf ss (q / s0.size) = sr at *
    generalize q / s0.size = qi at *
    generalize q % s0.size = qk at *
    have HSG := Lib.hid (sgn_eq sr qk (by omega))
    have bq : (-L == -L) = true := beq_self_eq_true _
    have HS0 := Lib.hid st
    have hqk : qk < sr.size := by omega
    clear st
    rcases hl with rfl | rfl
    · have hsq : (((sr[qk]'hqk).toNat : Int) == 114) = true := by rw [HSG.out, HLT.out]; rfl
      go_wp2_with fail
      go_region
      all_goals
        go_wp2_with fail
        refine (GridPut_any _ q1 ss q ⟨#[102]⟩ (exch 114) _ ((HS0.out.dr ⟨_, rfl⟩).texts 0 rfl) lm szm HG.out HQ.out rfl rfl rfl).mono ?_
        rintro e W4 ⟨v4, rfl, s4⟩
        have st := (HS0.out.dr ⟨_, rfl⟩).join s4
        clear s4
        obtain ⟨o4, q4, rfl⟩ := st.shapeS 0 rfl
        clear hc0 hc1
        go_wp2_with fail
        have R := iChangeDelta_any o4 q4 _ q _ (st.texts 0 rfl) hl2 hs2
        rw [HB2.out, HD2.out] at R
        refine R.mono ?_
        rintro e W5 ⟨rfl, b⟩
        clear R
        have HST := Lib.hid (st.step b)
        clear b st
        go_wp2
        go_ret
        exact ⟨rfl, HST.out.below⟩
    · have hsq : (((sr[qk]'hqk).toNat : Int) == 114) = false := by rw [HSG.out, HLT.out]; rfl
      go_wp2_with fail
      go_region
      all_goals
        go_wp2_with fail
        refine (GridPut_any _ q1 ss q ⟨#[114]⟩ (exch 102) _ ((HS0.out.dr ⟨_, rfl⟩).texts 0 rfl) lm szm HG.out HQ.out rfl rfl rfl).mono ?_
        rintro e W4 ⟨v4, rfl, s4⟩
        have st := (HS0.out.dr ⟨_, rfl⟩).join s4
        clear s4
        obtain ⟨o4, q4, rfl⟩ := st.shapeS 0 rfl
        clear hc0 hc1
        go_wp2_with fail
        have R := iChangeDelta_any o4 q4 _ q _ (st.texts 0 rfl) hl2 hs2
        rw [HB2.out, HD2.out] at R
        refine R.mono ?_
        rintro e W5 ⟨rfl, b⟩
        clear R
        have HST := Lib.hid (st.step b)
        clear b st
        go_wp2
        go_ret
        exact ⟨rfl, HST.out.below⟩

end Go.Proofs.Ytcacbkcckfgkjaa.fnDelta
