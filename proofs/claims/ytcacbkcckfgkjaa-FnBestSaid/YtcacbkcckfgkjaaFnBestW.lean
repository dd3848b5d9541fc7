/- The walk through the law FnBest: No exchange makes more paths than the best one. (P38) -/
import Derived.Test.YtcacbkcckfgkjaaDrawCellW
import Derived.Test.YtcacbkcckfgkjaaBestL
import Derived.Test.YtcacbkcckfgkjaaChange2W
import Derived.Test.YtcacbkcckfgkjaaStS
namespace Go.Proofs.Ytcacbkcckfgkjaa.fnBest
open Go.RowKit
set_option linter.unusedVariables false

theorem walk (a0 : Option Addr) (cap0 : Nat) (z0 : List Int) (w : World) (c0 : CellsY w a0 z0) (m0 : z0.length ≤ cap0 ∧ cap0 ≤ maxLen) :
    Calls Try.prog 10 #[.slice a0 z0.length cap0] w fun e w' => e = .returned (.bool true) ∧ Below w.heap.size w w' := by
  have m1 : z0.length ≤ maxLen := Nat.le_trans m0.1 m0.2
  by_cases h0 : 1048576 < z0.length
  · unfold maxLen at m1
    clear m0
    go_enter Try.func10, Try.ntmps10
    go_wp2
    go_ret
    exact ⟨rfl, Below.refl _ _⟩
  have l0 : z0.length ≤ 1048576 := by omega
  clear h0
  go_enter Try.func10, Try.ntmps10
  go_wp2_with fail
  refine (DrawChangeBest_any a0 cap0 z0 w c0 m0.1 m0.2).mono ?_
  rintro e W1 ⟨v1, ss, rfl, l1, l4, sz, st⟩
  obtain ⟨o1, q1, rfl⟩ := st.shapeS 0 rfl
  have lm : ss.length ≤ maxLen := by unfold maxLen; omega
  have szm := sizes_max sz
  clear c0 m0 m1 sz
  obtain ⟨L, hL⟩ : ∃ L : Int, L = bestC ss := ⟨_, rfl⟩
  have HL := Lib.hid hL
  have nL : (L != L) = false := bne_self_eq_false _
  have bL : (L == L) = true := beq_self_eq_true _
  clear hL
  obtain ⟨M, hM⟩ : ∃ M : Int, M = bestM ss := ⟨_, rfl⟩
  have HM := Lib.hid hM
  have nM : (M != M) = false := bne_self_eq_false _
  have bM : (M == M) = true := beq_self_eq_true _
  clear hM
  cases hb : bestB ss
  all_goals
    have HB := Lib.hid hb
    clear hb
    go_wp2_with fail
    have R := iChangeBest_any o1 q1 ss _ (st.texts 0 rfl) lm szm
    rw [HB.out, ← HL.out, ← HM.out] at R
    refine R.mono ?_
    rintro e W2 ⟨rfl, b⟩
    clear R
    replace st := st.step b
    clear b
    go_wp2_with fail
    have R := sChangeBest_any o1 q1 ss _ (st.texts 0 rfl) lm szm
    rw [HB.out, ← HL.out, ← HM.out] at R
    refine R.mono ?_
    rintro e W3 ⟨rfl, b⟩
    clear R
    replace st := st.step b
    clear b
  · go_wp2_with fail
    go_ret
    exact ⟨rfl, st.below⟩
  · have hg : gridB ss = true := by
      have := HB.out
      simp only [bestB, Bool.and_eq_true] at this
      exact this.1
    have hok := gr_ok hg
    have HG := Lib.hid hg
    have hp := pmany_le hg
    have hm1 : 1 ≤ (rowOf ss 0).size := hok.m1
    have hm5 : (rowOf ss 0).size ≤ 5 := hok.m5
    have h25 := Gr.size_le hok
    have hlaw := best_law hg HB.out
    rw [← HL.out, ← HM.out] at hlaw
    have HLAW := Lib.hid hlaw
    have hcb := (bestTo_le hg _ (Nat.le_refl _)).1
    have hcb2 : bestC ss = (bestTo ss ((gr ss).n * (gr ss).m)).1 := by simp [bestC, HB.out]; rfl
    have hmb := (bestTo_le hg _ (Nat.le_refl _)).2
    have hmb2 : bestM ss = (bestTo ss ((gr ss).n * (gr ss).m)).2 := by simp [bestM, HB.out]; rfl
    rw [← hcb2, ← HL.out] at hcb
    rw [← hmb2, ← HM.out] at hmb
    have hnm : (ss.length : Int) * ((rowOf ss 0).size : Int) = (((gr ss).n * (gr ss).m : Nat) : Int) := by rw [Int.natCast_mul]; rfl
    have hs0 : 0 < ss.length := by omega
    clear hlaw hg hok hcb2 hmb2
    go_wp2_with fail
    refine (RoundPaths_any o1 q1 ss _ (st.texts 0 rfl) lm szm HG.out).mono ?_
    rintro e W4 ⟨rfl, b⟩
    replace st := st.step b
    clear b
    generalize (gr ss).pmany = A at *
    obtain ⟨bb, off, rfl, _⟩ := st.textAt 0 rfl hs0
    generalize (gr ss).n * (gr ss).m = N at *
    generalize hms : (rowOf ss 0).size = m0 at *
    have HMS := Lib.hid hms
    clear hms
    go_wp2_with fail
    go_loopw [12, 13, 14] (fun v12 v13 v14 wr => ∃ k : Nat, k ≤ N ∧ v12 = .int .i64 k ∧ St w wr [SS (.slice (some ⟨bb, off, none⟩) ss.length q1) ss]) (fun v12 _ _ _ => N - (intOf v12).toNat)
    case atStart => exact ⟨0, Nat.zero_le _, rfl, st⟩
    case round =>
      clear st
      obtain ⟨k, hk, rfl, st⟩ := hrel
      obtain ⟨bb', off', he, hc⟩ := st.textAt 0 rfl hs0
      cases he
      rw [Nat.add_zero] at hc
      have hms := HMS.out
      generalize rowOf ss 0 = s0 at hc hms
      subst hms
      have HST := Lib.hid st
      by_cases hlt : k < N
      · have hat := HLAW.out k hlt
        have R := iChangeDelta_any (some ⟨bb, off, none⟩) q1 ss k _ (st.texts 0 rfl) lm szm
        have HR := Lib.hid R
        clear R st
        generalize mirB ss k = bk at *
        generalize deltaL ss k = x at *
        obtain ⟨x1, x2, x3, x4⟩ := hat
        go_wp2_with fail
        refine HR.out.mono ?_
        rintro e W5 ⟨rfl, b⟩
        have ST2 := Lib.hid (HST.out.step b)
        clear b HR HST hc
        cases bk
        · have hne : ((k : Int) == L) = false := beq_eq_false_iff_ne.2 fun e => by have := (x4 e).1; cases this
          clear x3 x4
          go_wp2_with fail
          go_roundw
          case rel => exact ⟨k + 1, by omega, by go_num, ST2.out⟩
          case measure => simp [intOf]; omega
        · have x3 := x3 rfl
          rcases Int.lt_trichotomy (k : Int) L with hkL | hkL | hkL
          · have x5 := x3.2 hkL
            have e1 : ((A : Int) + x == M) = false := beq_eq_false_iff_ne.2 (by omega)
            have e2 : ((k : Int) == L) = false := beq_eq_false_iff_ne.2 (by omega)
            clear x3 x4
            go_wp2_with fail
            go_roundw
            case rel => exact ⟨k + 1, by omega, by go_num, ST2.out⟩
            case measure => simp [intOf]; omega
          · have x5 := (x4 hkL).2
            have e1 : ((A : Int) + x != M) = false := by rw [x5]; exact bne_self_eq_false _
            have e2 : ((k : Int) == L) = true := beq_iff_eq.2 hkL
            clear x3 x4
            go_wp2_with fail
            go_roundw
            case rel => exact ⟨k + 1, by omega, by go_num, ST2.out⟩
            case measure => simp [intOf]; omega
          · have x5 := x3.1
            have e2 : ((k : Int) == L) = false := beq_eq_false_iff_ne.2 (by omega)
            clear x3 x4
            go_wp2_with fail
            go_roundw
            case rel => exact ⟨k + 1, by omega, by go_num, ST2.out⟩
            case measure => simp [intOf]; omega
      · obtain rfl : k = N := by omega
        clear st
        go_wp2
        go_ret
        exact ⟨rfl, HST.out.below⟩

end Go.Proofs.Ytcacbkcckfgkjaa.fnBest
