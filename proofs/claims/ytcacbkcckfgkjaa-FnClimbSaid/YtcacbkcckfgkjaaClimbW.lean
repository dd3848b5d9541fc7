/- Contracts: climbing (ChangeClimb of both programs). -/
import Derived.Test.YtcacbkcckfgkjaaClimbL
import Derived.Test.YtcacbkcckfgkjaaStS
import Derived.Deep.LoopGhost
namespace Go.Proofs.Ytcacbkcckfgkjaa
open Go.RowKit
set_option linter.unusedVariables false
set_option linter.unusedSimpArgs false

/-- What holds in the loop. -/
def ClimbRel (ss : List ByteArray) (w : World) (k : Nat) (v : Value) (wr : World) : Prop :=
  ∃ (s' : List ByteArray) (a : Option Addr) (c : Nat), v = .slice a s'.length c ∧ gridB s' = true ∧ climbS 201 ss = climbS k s' ∧ 201 ≤ k + (gr s').pmany ∧ St w wr [SS (.slice a s'.length c) s']

set_option maxRecDepth 100000 in
set_option maxHeartbeats 4000000 in
theorem iChangeClimb_any (ao : Option Addr) (cap : Nat) (ss : List ByteArray) (w : World) (hx : CellsS w ao ss) (hm : ss.length ≤ maxLen) (hsz : ∀ s ∈ ss, s.size ≤ maxLen) :
    Calls Try.prog 44 #[.slice ao ss.length cap] w fun e w' => ∃ v, e = .returned (.tuple #[v, .bool (gridB ss)]) ∧ St w w' [SS v (climbL ss)] := by
  have HGI := Lib.hid (iGridIn_any ao cap ss w hx hm hsz)
  have HX := Lib.hid hx
  clear hx hsz
  cases hg : gridB ss
  · have HG := Lib.hid hg
    have HL := Lib.hid (show climbL ss = [] by simp [climbL, hg])
    have ST0 := Lib.hid (st_ss_nil w)
    clear hg
    go_enter Try.func44, Try.ntmps44
    go_wp2_with fail
    refine HGI.out.mono ?_
    rintro e w2 ⟨rfl, rfl⟩
    rw [HG.out]
    go_wp2
    go_ret2
    exact ⟨_, rfl, by rw [HL.out]; exact ST0.out⟩
  · have HG := Lib.hid hg
    have hn1 : 1 ≤ ss.length := (gr_ok hg).n1
    have hn5 : ss.length ≤ 5 := (gr_ok hg).n5
    have HL := Lib.hid (show climbL ss = climbS 201 ss by simp [climbL, hg])
    have ST0 := Lib.hid (st_ss_nil w)
    clear hg
    go_enter Try.func44, Try.ntmps44
    go_wp2_with fail
    refine HGI.out.mono ?_
    rintro e w2 ⟨rfl, rfl⟩
    rw [HG.out]
    go_wp2_with (at_builtin; refine wpAddS _ rfl _ _ rfl w.heap.size _ _ ss _ cap rfl (ST0.out.own _ List.mem_cons_self) rfl (ST0.out.oldS HX.out) (by omega) (by simp; omega) ?_; intro v' w4 hbec; have hst := ST0.out.became0 hbec; rw [List.nil_append] at hst; obtain ⟨g, c4, rfl⟩ := SS_blk (hst.own _ List.mem_cons_self) hn1; have HST4 := Lib.hid hst; clear hst hbec)
    go_loopg [4] 201 (fun k v4 wr => ClimbRel ss w k v4 wr)
    case atStart => exact ⟨ss, _, _, rfl, HG.out, rfl, by omega, HST4.out⟩
    case round =>
      clear HST4
      obtain ⟨s', a, c, rfl, hg, he, hp, st⟩ := hrel
      have HS5 := Lib.hid st
      have lm : s'.length ≤ maxLen := by
        have : s'.length ≤ 5 := (gr_ok hg).n5
        unfold maxLen; omega
      have HB := Lib.hid (iChangeBest_any a c s' wr (st.texts 0 rfl) lm (gridB_sizes hg))
      have HP := Lib.hid fun W (h : CellsS W a s') => pathMany_any a c s' W h hg
      have hp2 := pmany_le hg
      have HE := Lib.hid he
      have HG' := Lib.hid hg
      have hst := Lib.hid (climbS_stop (ss := s'))
      clear st hg he
      go_wp2_with fail
      refine HB.out.mono ?_
      rintro e w5 ⟨rfl, b5⟩
      have HS6 := Lib.hid (HS5.out.step b5)
      clear b5 HS5 HB
      cases hb : bestB s'
      · have HRE := Lib.hid (show climbL ss = s' by rw [HL.out, HE.out, hst.out (by simp [upB, hb])])
        clear hst hb
        generalize bestC s' = C at *
        generalize bestM s' = M at *
        go_wp2
        go_ret2
        exact ⟨_, rfl, by rw [HRE.out]; exact HS6.out⟩
      · obtain ⟨_, q, h1, h2, _, h4, _⟩ := best_nat hb
        have hMb : bestM s' ≤ 200 := by have := (exP_le HG'.out h2).2; omega
        by_cases hle : bestM s' ≤ ((gr s').pmany : Int)
        · have HRE := Lib.hid (show climbL ss = s' by rw [HL.out, HE.out, hst.out (by simp [upB, hb]; omega)])
          clear hst hb h2
          clear h4
          generalize bestC s' = C at *
          generalize bestM s' = M at *
          go_wp2_with fail
          refine (HP.out _ (HS6.out.texts 0 rfl)).mono ?_
          rintro e w7 ⟨rfl, b7⟩
          have HS7 := Lib.hid (HS6.out.step b7)
          clear b7 HS6 HP
          generalize (gr s').pmany = A at *
          go_wp2
          go_ret2
          exact ⟨_, rfl, by rw [HRE.out]; exact HS7.out⟩
        · have hu : upB s' = true := by simp [upB, hb]; omega
          have hup := up_facts hu
          obtain ⟨gk', rfl⟩ : ∃ k', gk = k' + 1 := ⟨gk - 1, by omega⟩
          have HUE := Lib.hid (show climbS 201 ss = climbS gk' (upS s') by rw [HE.out, climbS_step hu])
          have hus : upS s' = putS s' q (exch ((gr s').sig q)) := by unfold upS; rw [h1, Int.toNat_natCast]
          have HO := Lib.hid fun W (h : CellsS W a s') => other_any a c s' q W h HG'.out h2
          rw [← hus] at HO
          have HUP := Lib.hid hup
          have h25 := Gr.size_le (gr_ok HG'.out)
          have HPU : Hid (201 ≤ gk' + (gr (upS s')).pmany) := by have := hup.2.1; show _ ≤ _; omega
          clear hst hb h4 hu hup hus HE
          rw [h1]
          clear h1
          generalize bestM s' = M at *
          go_wp2_with fail
          refine (HP.out _ (HS6.out.texts 0 rfl)).mono ?_
          rintro e w7 ⟨rfl, b7⟩
          have HS7 := Lib.hid (HS6.out.step b7)
          clear b7 HS6 HP
          generalize (gr s').pmany = A at *
          go_wp2_with fail
          refine (HO.out _ (HS7.out.texts 0 rfl)).mono ?_
          rintro e w8 ⟨v8, rfl, s8⟩
          have s9 := (HS7.out.join s8).drop1
          obtain ⟨a8, c8, rfl⟩ := s9.shapeS 0 rfl
          have HS9 := Lib.hid s9
          clear s8 s9 HS7 HO
          go_wp2_with fail
          go_roundg gk'
          case rel => exact ⟨_, a8, c8, rfl, HUP.out.1, HUE.out, HPU.out, HS9.out⟩
          case measure => omega

theorem l1None_any (w : World) : Calls Try.prog 76 #[] w fun e w' => ∃ v, e = .returned (.tuple #[v, .bool false]) ∧ St w w' [SS v []] := by
  have ST0 := Lib.hid (st_ss_nil w)
  go_enter Try.func76, Try.ntmps76
  go_wp2
  go_ret2
  exact ⟨_, rfl, ST0.out⟩

set_option maxRecDepth 100000 in
set_option maxHeartbeats 4000000 in
theorem sChangeClimb_any (ao : Option Addr) (cap : Nat) (ss : List ByteArray) (w : World) (hx : CellsS w ao ss) (hm : ss.length ≤ maxLen) (hsz : ∀ s ∈ ss, s.size ≤ maxLen) :
    Calls Try.prog 43 #[.slice ao ss.length cap] w fun e w' => ∃ v, e = .returned (.tuple #[v, .bool (gridB ss)]) ∧ St w w' [SS v (climbL ss)] := by
  have HGI := Lib.hid (sGridIn_any ao cap ss w hx hm hsz)
  have HX := Lib.hid hx
  clear hx hsz
  cases hg : gridB ss
  · have HG := Lib.hid hg
    have HL := Lib.hid (show climbL ss = [] by simp [climbL, hg])
    clear hg
    go_enter Try.func43, Try.ntmps43
    go_wp2_with fail
    refine HGI.out.mono ?_
    rintro e w2 ⟨rfl, hd⟩
    rw [HG.out]
    have st := (St.init w).dr hd
    go_wp2_with fail
    refine (l1None_any _).mono ?_
    rintro e w3 ⟨v, rfl, s3⟩
    have ST := Lib.hid (st.join s3)
    clear s3 st hd
    go_wp2
    go_ret2
    exact ⟨_, rfl, by rw [HL.out]; exact ST.out⟩
  · have HG := Lib.hid hg
    have hn1 : 1 ≤ ss.length := (gr_ok hg).n1
    have hn5 : ss.length ≤ 5 := (gr_ok hg).n5
    have HL := Lib.hid (show climbL ss = climbS 201 ss by simp [climbL, hg])
    clear hg
    go_enter Try.func43, Try.ntmps43
    go_wp2_with fail
    refine HGI.out.mono ?_
    rintro e w2 ⟨rfl, hd⟩
    rw [HG.out]
    have ST0 := Lib.hid (((St.init w).dr hd).join (st_ss_nil w2))
    clear hd
    go_wp2_with (at_builtin; refine wpAddS _ rfl _ _ rfl w.heap.size _ _ ss _ cap rfl (ST0.out.own _ List.mem_cons_self) rfl (ST0.out.oldS HX.out) (by omega) (by simp; omega) ?_; intro v' w4 hbec; have hst := ST0.out.became0 hbec; rw [List.nil_append] at hst; obtain ⟨g, c4, rfl⟩ := SS_blk (hst.own _ List.mem_cons_self) hn1; have HST4 := Lib.hid hst; clear hst hbec)
    go_loopg [4] 201 (fun k v4 wr => ClimbRel ss w k v4 wr)
    case atStart => exact ⟨ss, _, _, rfl, HG.out, rfl, by omega, HST4.out⟩
    case round =>
      clear HST4
      obtain ⟨s', a, c, rfl, hg, he, hp, st⟩ := hrel
      have HS5 := Lib.hid st
      have lm : s'.length ≤ maxLen := by
        have : s'.length ≤ 5 := (gr_ok hg).n5
        unfold maxLen; omega
      have HB := Lib.hid (l4Best_any a c s' wr (st.texts 0 rfl) hg)
      have HP := Lib.hid fun W (h : CellsS W a s') => l3Paths_any a c s' W h hg
      have hp2 := pmany_le hg
      have HE := Lib.hid he
      have HG' := Lib.hid hg
      have hst := Lib.hid (climbS_stop (ss := s'))
      have hbb : bestB s' = decide (0 ≤ (bestP s').1) := by simp [bestB, hg]
      have hbd := (bestTo_le hg _ (Nat.le_refl _))
      have hbd : (-1 ≤ (bestP s').1 ∧ (bestP s').1 < ((gr s').n * (gr s').m : Nat)) ∧ 0 ≤ (bestP s').2 ∧ (bestP s').2 ≤ 200 := hbd
      have h25 := Gr.size_le (gr_ok hg)
      clear st hg he
      go_wp2_with fail
      refine HB.out.mono ?_
      rintro e w5 ⟨rfl, b5⟩
      have HS6 := Lib.hid (HS5.out.step b5)
      clear b5 HS5 HB
      cases hb : bestB s'
      · have HRE := Lib.hid (show climbL ss = s' by rw [HL.out, HE.out, hst.out (by simp [upB, hb])])
        have hneg : (bestP s').1 < 0 := by
          rw [hb] at hbb
          have := of_decide_eq_false hbb.symm
          omega
        clear hst hb hbb
        generalize (bestP s').1 = C at *
        generalize (bestP s').2 = M at *
        go_wp2
        go_ret2
        exact ⟨_, rfl, by rw [HRE.out]; exact HS6.out⟩
      · obtain ⟨_, q, h1, h2, _, h4, h5, h6, _⟩ := best_nat hb
        have hMb : bestM s' ≤ 200 := by have := (exP_le HG'.out h2).2; omega
        clear hbb hbd
        rw [h5, h6]
        by_cases hle : bestM s' ≤ ((gr s').pmany : Int)
        · have HRE := Lib.hid (show climbL ss = s' by rw [HL.out, HE.out, hst.out (by simp [upB, hb]; omega)])
          clear hst hb h2 h1 h4 h5 h6
          generalize bestM s' = M at *
          go_wp2_with fail
          refine (HP.out _ (HS6.out.texts 0 rfl)).mono ?_
          rintro e w7 ⟨rfl, b7⟩
          have HS7 := Lib.hid (HS6.out.step b7)
          clear b7 HS6 HP
          generalize (gr s').pmany = A at *
          go_wp2
          go_ret2
          exact ⟨_, rfl, by rw [HRE.out]; exact HS7.out⟩
        · have hu : upB s' = true := by simp [upB, hb]; omega
          have hup := up_facts hu
          obtain ⟨gk', rfl⟩ : ∃ k', gk = k' + 1 := ⟨gk - 1, by omega⟩
          have HUE := Lib.hid (show climbS 201 ss = climbS gk' (upS s') by rw [HE.out, climbS_step hu])
          have hus : upS s' = putS s' q (exch ((gr s').sig q)) := by unfold upS; rw [h1, Int.toNat_natCast]
          have HO := Lib.hid fun W (h : CellsS W a s') => l4Exchange_any a c s' q W h HG'.out h2
          rw [← hus] at HO
          have HUP := Lib.hid hup
          have HPU : Hid (201 ≤ gk' + (gr (upS s')).pmany) := by have := hup.2.1; show _ ≤ _; omega
          clear hst hb h4 hu hup hus HE h1 h5 h6
          generalize bestM s' = M at *
          go_wp2_with fail
          refine (HP.out _ (HS6.out.texts 0 rfl)).mono ?_
          rintro e w7 ⟨rfl, b7⟩
          have HS7 := Lib.hid (HS6.out.step b7)
          clear b7 HS6 HP
          generalize (gr s').pmany = A at *
          go_wp2_with fail
          refine (HO.out _ (HS7.out.texts 0 rfl)).mono ?_
          rintro e w8 ⟨v8, rfl, s8⟩
          have s9 := (HS7.out.join s8).drop1
          obtain ⟨a8, c8, rfl⟩ := s9.shapeS 0 rfl
          have HS9 := Lib.hid s9
          clear s8 s9 HS7 HO
          go_wp2_with fail
          go_roundg gk'
          case rel => exact ⟨_, a8, c8, rfl, HUP.out.1, HUE.out, HPU.out, HS9.out⟩
          case measure => omega
end Go.Proofs.Ytcacbkcckfgkjaa
