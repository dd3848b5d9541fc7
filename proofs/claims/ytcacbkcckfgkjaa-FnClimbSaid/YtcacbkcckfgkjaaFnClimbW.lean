/- The walk through the law FnClimb: Climbing ends where no exchange makes more. (P39) -/
import Derived.Test.YtcacbkcckfgkjaaDrawCellW
import Derived.Test.YtcacbkcckfgkjaaClimbW
import Derived.Test.YtcacbkcckfgkjaaChange2W
import Derived.Test.YtcacbkcckfgkjaaStS
import Derived.Test.YtcacbkcckfgkjaaSameTW
namespace Go.Proofs.Ytcacbkcckfgkjaa.fnClimb
open Go.RowKit
set_option linter.unusedVariables false

theorem walk (a0 : Option Addr) (cap0 : Nat) (z0 : List Int) (w : World) (c0 : CellsY w a0 z0) (m0 : z0.length ≤ cap0 ∧ cap0 ≤ maxLen) :
    Calls Try.prog 12 #[.slice a0 z0.length cap0] w fun e w' => e = .returned (.bool true) ∧ Below w.heap.size w w' := by
  have m1 : z0.length ≤ maxLen := Nat.le_trans m0.1 m0.2
  by_cases h0 : 1048576 < z0.length
  · unfold maxLen at m1
    clear m0
    go_enter Try.func12, Try.ntmps12
    go_wp2
    go_ret
    exact ⟨rfl, Below.refl _ _⟩
  have l0 : z0.length ≤ 1048576 := by omega
  clear h0
  go_enter Try.func12, Try.ntmps12
  go_wp2_with fail
  refine (DrawChangeClimb_any a0 cap0 z0 w c0 m0.1 m0.2).mono ?_
  rintro e W1 ⟨v1, ss, rfl, l1, l4, sz, st⟩
  obtain ⟨o1, q1, rfl⟩ := st.shapeS 0 rfl
  have lm : ss.length ≤ maxLen := by unfold maxLen; omega
  have szm := sizes_max sz
  clear c0 m0 m1 sz
  have lcm : (climbL ss).length ≤ maxLen := Nat.le_trans (climbL_le ss) (by decide)
  cases hb : gridB ss
  all_goals
    have HB := Lib.hid hb
    clear hb
    go_wp2_with fail
    have R := iChangeClimb_any o1 q1 ss _ (st.texts 0 rfl) lm szm
    rw [HB.out] at R
    refine R.mono ?_
    rintro e W2 ⟨v2, rfl, s2⟩
    clear R
    replace st := st.join s2
    clear s2
    obtain ⟨o2, q2, rfl⟩ := st.shapeS 0 rfl
    go_wp2_with fail
    have R := sChangeClimb_any o1 q1 ss _ (st.texts 1 rfl) lm szm
    rw [HB.out] at R
    refine R.mono ?_
    rintro e W3 ⟨v3, rfl, s3⟩
    clear R
    replace st := st.join s3
    clear s3
    obtain ⟨o3, q3, rfl⟩ := st.shapeS 0 rfl
    go_wp2_with fail
    refine (sameTexts_any _ _ _ _ _ _ (st.texts 1 rfl) (st.texts 0 rfl) lcm).mono ?_
    rintro e W4 ⟨rfl, d⟩
    replace st := st.dr d
    clear d
  · go_wp2_with fail
    refine (sameTexts_any _ _ _ _ _ _ (st.texts 1 rfl) (st.texts 0 rfl) lcm).mono ?_
    rintro e W5 ⟨rfl, d⟩
    replace st := st.dr d
    clear d
    go_wp2_with fail
    go_ret
    exact ⟨rfl, st.below⟩
  · obtain ⟨f1, f2, f3, f4, f5, f6⟩ := climbL_ok HB.out
    have hok := gr_ok HB.out
    have hm1 : 1 ≤ (rowOf ss 0).size := hok.m1
    have hm5 : (rowOf ss 0).size ≤ 5 := hok.m5
    have h25 := Gr.size_le hok
    have hp1 := pmany_le HB.out
    have hp2 := pmany_le f1
    have hnm : (ss.length : Int) * ((rowOf ss 0).size : Int) = (((gr ss).n * (gr ss).m : Nat) : Int) := by rw [Int.natCast_mul]; rfl
    have hs0 : 0 < ss.length := by omega
    have HNU : Hid (∀ k, k < (gr ss).n * (gr ss).m → -200 ≤ deltaL (climbL ss) k ∧ deltaL (climbL ss) k ≤ 0) := fun k hk => no_up f1 f2 (by rw [f4, f5]; exact hk)
    have HG := Lib.hid f1
    have HF6 := Lib.hid f6
    have szc := gridB_sizes f1
    have HSZC := Lib.hid szc
    clear f1 f2 f4 f5 f6 hok szc
    go_wp2_with fail
    refine (RoundPaths_any o1 q1 ss _ (st.texts 2 rfl) lm szm HB.out).mono ?_
    rintro e W5 ⟨rfl, b⟩
    replace st := st.step b
    clear b
    go_wp2_with fail
    refine (RoundPaths_any o2 q2 (climbL ss) _ (st.texts 1 rfl) lcm HSZC.out HG.out).mono ?_
    rintro e W6 ⟨rfl, b⟩
    replace st := st.step b
    clear b
    generalize (gr ss).pmany = A at *
    generalize (gr (climbL ss)).pmany = B at *
    go_wp2_with fail
    have R := iChangeClimb_any o2 q2 (climbL ss) _ (st.texts 1 rfl) lcm HSZC.out
    rw [HG.out, HF6.out] at R
    refine R.mono ?_
    rintro e W7 ⟨v7, rfl, s7⟩
    clear R
    replace st := st.join s7
    clear s7
    obtain ⟨o7, q7, rfl⟩ := st.shapeS 0 rfl
    obtain ⟨bb, off, rfl, _⟩ := st.textAt 3 rfl hs0
    generalize (gr ss).n * (gr ss).m = N at *
    generalize hms : (rowOf ss 0).size = m0 at *
    have HMS := Lib.hid hms
    clear hms
    go_wp2_with fail
    go_loopw [14, 15, 16] (fun v14 v15 v16 wr => ∃ k : Nat, k ≤ N ∧ v14 = .int .i64 k ∧ St w wr [SS (.slice o7 (climbL ss).length q7) (climbL ss), SS (.slice o3 (climbL ss).length q3) (climbL ss), SS (.slice o2 (climbL ss).length q2) (climbL ss), SS (.slice (some ⟨bb, off, none⟩) ss.length q1) ss]) (fun v14 _ _ _ => N - (intOf v14).toNat)
    case atStart => exact ⟨0, Nat.zero_le _, rfl, st⟩
    case round =>
      clear st
      obtain ⟨k, hk, rfl, st⟩ := hrel
      obtain ⟨bb', off', he, hc⟩ := st.textAt 3 rfl hs0
      cases he
      rw [Nat.add_zero] at hc
      have hms := HMS.out
      generalize rowOf ss 0 = s0 at hc hms
      subst hms
      have HST := Lib.hid st
      by_cases hlt : k < N
      · have hat := HNU.out k hlt
        have R := iChangeDelta_any o2 q2 (climbL ss) k _ (st.texts 2 rfl) lcm HSZC.out
        have HR := Lib.hid R
        clear R st
        generalize mirB (climbL ss) k = bk at *
        generalize deltaL (climbL ss) k = x at *
        obtain ⟨x1, x2⟩ := hat
        go_wp2_with fail
        refine HR.out.mono ?_
        rintro e W8 ⟨rfl, b⟩
        have ST2 := Lib.hid (HST.out.step b)
        clear b HR HST hc
        cases bk
        all_goals
          go_wp2_with fail
          go_roundw
          case rel => exact ⟨k + 1, by omega, by go_num, ST2.out⟩
          case measure => simp [intOf]; omega
      · obtain rfl : k = N := by omega
        have hss := Lib.hid (sameTexts_any o7 o2 q7 q2 _ _ (st.texts 0 rfl) (st.texts 2 rfl) lcm)
        clear st
        go_wp2_with fail
        refine hss.out.mono ?_
        rintro e W9 ⟨rfl, d⟩
        have hb := (HST.out.dr d).below
        clear d
        go_wp2
        go_ret
        exact ⟨rfl, hb⟩

end Go.Proofs.Ytcacbkcckfgkjaa.fnClimb
