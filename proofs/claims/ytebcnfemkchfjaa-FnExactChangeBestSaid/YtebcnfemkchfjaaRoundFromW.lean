/- Contract: the steps of a round (roundFrom). -/
import Derived.Test.YtebcnfemkchfjaaRoundL
import Derived.Test.YtebcnfemkchfjaaStS
namespace Go.Proofs.Ytebcnfemkchfjaa
open Go.RowKit
set_option linter.unusedVariables false
set_option linter.unusedSimpArgs false

theorem SL_new (w : World) (x : Stt) : (SStt (.slice (some ⟨w.heap.size, 0, none⟩) 1 1) [x]).own (w.alloc (.cells #[.int .i64 x.1, .int .i64 x.2] 53)) w.heap.size :=
  World.ownsRow_lit w #[.int .i64 x.1, .int .i64 x.2] 1 (Nat.le_refl _) (by unfold maxLen; omega) rfl

theorem shapeStt1 {w0 W : World} {a : Seg} {v : Value} {L : List Stt} {post : List Seg} (h : St w0 W (a :: SStt v L :: post)) : ∃ ao cap, v = .slice ao L.length cap := by
  obtain ⟨a', c', he, _⟩ := SStt_shape (h.own _ (List.mem_cons_of_mem _ List.mem_cons_self))
  exact ⟨a', c', he⟩
theorem shapeStt0 {w0 W : World} {v : Value} {L : List Stt} {post : List Seg} (h : St w0 W (SStt v L :: post)) : ∃ ao cap, v = .slice ao L.length cap := by
  obtain ⟨a', c', he, _⟩ := SStt_shape (h.own _ List.mem_cons_self)
  exact ⟨a', c', he⟩

theorem roundFrom_any (ao : Option Addr) (cap : Nat) (ss : List ByteArray) (x : Stt) (w : World) (hx : CellsS w ao ss) (hg : gridB ss = true) (hv : (gr ss).val x) (hc : Cyc (gr ss).nx x) :
    Calls Try.prog 86 #[.slice ao ss.length cap, .agg #[.int .i64 x.1, .int .i64 x.2]] w fun e w' => ∃ v, e = .returned v ∧ St w w' [SStt v ((gr ss).roundOf x)] := by
  have hok := gr_ok hg
  obtain ⟨p1, p2, p3, p4⟩ := Gr.per_spec hok hv hc
  have HX := Lib.hid hx
  have HG := Lib.hid hg
  have HV := Lib.hid hv
  have HP3 := Lib.hid p3
  have HP4 := Lib.hid p4
  have HS := Lib.hid (Gr.steps hok)
  have HR : Hid ((gr ss).roundOf x = (gr ss).wayTo x ((gr ss).per x)) := rfl
  obtain ⟨y1, hy1⟩ := cyc_next hc
  have HY1 := Lib.hid hy1
  have st1 := (St.init w).addSeg (SB_new w x) ((Below.refl _ _).alloc (Nat.le_refl _) _)
  have st2 := st1.addSeg (SL_new _ x) ((Below.refl _ _).alloc (Nat.le_refl _) _)
  rw [World.size_alloc] at st2
  have hA : (gr ss).aft (x.1, x.2) = (y1, (-1 : Int)) := by
    show (match (gr ss).nx x with | some y => (y, (-1 : Int)) | none => (x, ((gr ss).out x : Int))) = _
    rw [hy1]
  have HA := Lib.hid hA
  have HAF := Lib.hid fun W (y : Stt) (h : CellsS W ao ss) (hv : (gr ss).val y) => after_any ao cap ss y.1 y.2 W h hg hv
  have ST2 := Lib.hid st2
  clear hx hg hv hc p3 p4 hok hy1 st1 st2 hA
  generalize (gr ss).per x = N at *
  obtain ⟨k0, k1, _, _, _, _⟩ := SB_cells (ST2.out.own _ (List.mem_cons_of_mem _ List.mem_cons_self))
  go_enter Try.func86, Try.ntmps86
  go_wp2_with fail
  have R := HAF.out _ x (ST2.out.oldS HX.out) HV.out
  rw [HA.out] at R
  refine R.mono ?_
  rintro e w3 ⟨rfl, b3⟩
  clear R
  have st3 := ST2.out.step b3
  have st4 := st3.addSeg (SB_new w3 y1) ((Below.refl _ _).alloc (Nat.le_refl _) _)
  have ST4 := Lib.hid st4
  have hw1 : (gr ss).wayTo x 1 = [x] := by simp [Gr.wayTo, List.range_succ, iter]
  have HW1 := Lib.hid hw1
  clear b3 st3 st4 hw1 k0 k1
  go_wp2_with fail
  go_loopw [5, 7] (fun v5 v7 wr => ∃ (j : Nat) (a c : _) (y : Stt), 1 ≤ j ∧ j ≤ N ∧ iter (gr ss).nx j x = some y ∧ v5 = .slice a j c ∧ v7 = .int .i64 (-1) ∧ St w wr [SB w3.heap.size y, SStt v5 ((gr ss).wayTo x j), SB w.heap.size x]) (fun v5 _ _ => N - lenV v5)
  case atStart => exact ⟨1, _, _, y1, Nat.le_refl _, p1, by show (some x).bind _ = _; exact HY1.out, rfl, rfl, by rw [HW1.out]; exact ST4.out⟩
  case round =>
    obtain ⟨j, a5, c5, y, hj1, hjN, hit, rfl, rfl, st⟩ := hrel
    have HIT := Lib.hid hit
    by_cases e : y = x
    · subst e
      have hjE : j = N := by
        apply Nat.le_antisymm hjN
        apply Nat.le_of_not_lt
        intro hlt
        exact HP4.out j (by omega) hlt HIT.out
      obtain ⟨k0, k1, k2, k3, k4, _⟩ := SB_cells (st.own _ List.mem_cons_self)
      obtain ⟨q0, q1, q2, q3, q4, _⟩ := SB_cells (st.own (SB w.heap.size y) (by simp))
      have ST := Lib.hid (st.drop0.drop1)
      have HJ := Lib.hid hjE
      clear st hit ST4 hjE
      go_wp2
      go_ret
      exact ⟨_, rfl, by rw [HR.out, ← HJ.out]; exact ST.out⟩
    · have hjlt : j < N := by
        by_cases e2 : j = N
        · have := HP3.out
          rw [← e2, HIT.out] at this
          exact absurd (Option.some.inj this) e
        · omega
      have hvy : (gr ss).val y := HS.out.iter_stay j x y HV.out hit
      obtain ⟨y', hy'⟩ : ∃ y', (gr ss).nx y = some y' := by
        obtain ⟨z, hz⟩ := iter_lt HP3.out (j + 1) (by omega)
        obtain ⟨z', hz', hzz⟩ := iter_pred hz
        rw [hit] at hz'
        cases hz'
        exact ⟨z, hzz⟩
      have hA2 : (gr ss).aft (y.1, y.2) = (y', (-1 : Int)) := by
        show (match (gr ss).nx y with | some y => (y, (-1 : Int)) | none => (y, ((gr ss).out y : Int))) = _
        rw [hy']
      have hit' : iter (gr ss).nx (j + 1) x = some y' := by
        show (iter (gr ss).nx j x).bind (gr ss).nx = _
        rw [hit]; exact hy'
      obtain ⟨k0, k1, k2, k3, k4, _⟩ := SB_cells (st.own _ List.mem_cons_self)
      obtain ⟨q0, q1, q2, q3, q4, _⟩ := SB_cells (st.own (SB w.heap.size x) (by simp))
      have HSA := Lib.hid (st.step ((Below.refl _ _).alloc (Nat.le_refl _) (.cells #[.int .i64 y.1, .int .i64 y.2] 53)))
      have HA2 := Lib.hid hA2
      have HIT2 := Lib.hid hit'
      have HVY := Lib.hid hvy
      have HWL := Lib.hid (Gr.wayTo_length (gr ss) x j)
      have HSU := Lib.hid (Gr.wayTo_succ hit)
      have hne : ¬ ((y.1 : Int) = x.1) ∨ (y.1 = x.1 ∧ ¬ ((y.2 : Int) = x.2)) := by
        by_cases e1 : y.1 = x.1
        · refine .inr ⟨e1, fun e2 => e (Prod.ext e1 (by omega))⟩
        · exact .inl (by omega)
      clear st hit ST4 hjN e hy' hA2 hit' hvy
      obtain ⟨yc, yd⟩ := y
      obtain ⟨xc, xd⟩ := x
      dsimp only at *
      rcases hne with hne | ⟨rfl, hne⟩
      all_goals
        go_wp2_with (at_builtin; refine wpPushStt _ rfl _ _ rfl w.heap.size _ _ (yc, yd) _ rfl (HSA.out.own _ (List.mem_cons_of_mem _ List.mem_cons_self)) rfl (two_new _ _ _ _) (by rw [HWL.out]; omega) ?_; intro v' w4 hbec; have HS4 := Lib.hid (HSA.out.became1 hbec); obtain ⟨q0', q1', q2', q3', q4', _⟩ := SB_cells (HS4.out.own _ List.mem_cons_self); clear hbec)
        have R := HAF.out w4 (yc, yd) (HS4.out.oldS HX.out) HVY.out
        rw [HA2.out] at R
        refine R.mono ?_
        rintro e w5 ⟨rfl, b5⟩
        clear R
        have st5 := HS4.out.step b5
        rw [HSU.out] at st5
        obtain ⟨p0, p1', p2', p3, p4, _⟩ := SB_cells (st5.own _ List.mem_cons_self)
        have hput := SB_put (st5.own _ List.mem_cons_self) y'
        have st6 := St.writeSeg [] _ _ (SB w3.heap.size y') st5 rfl hput.1 hput.2
        obtain ⟨a6, c6, hv6⟩ := shapeStt1 st6
        rw [Gr.wayTo_length] at hv6
        subst hv6
        have H6 := Lib.hid st6
        clear b5 st5 st6 hput q0 q1 q2 q3 q4 k0 k1 k2 k3 k4 q0' q1' q2' q3' q4'
        go_wp2
        go_roundw
        case rel => exact ⟨j + 1, a6, c6, y', by omega, hjlt, HIT2.out, rfl, rfl, H6.out⟩
        case measure => simp [lenV]; omega
end Go.Proofs.Ytebcnfemkchfjaa
