/- Contract: the numbers of all paths and the rounds (allPaths). -/
import Derived.Test.YtmlenaelijchjaaPathsL
import Derived.Test.YtmlenaelijchjaaReversedW
import Derived.Test.YtmlenaelijchjaaCellW
import Derived.Test.YtmlenaelijchjaaTimesW
import Derived.Test.YtmlenaelijchjaaRoundL
namespace Go.Proofs.Ytmlenaelijchjaa
open Go.RowKit Go.Maps
set_option linter.unusedVariables false
set_option linter.unusedSimpArgs false

/-- A slice of slices. -/
def RL (v : Value) (vals : List Value) : Seg := ⟨v, 53, 1, vals.length, vals⟩
theorem rlInfo : (Try.prog.info? 53).map (fun i => (i.zero, i.size, i.bytes)) = some (some (.slice none 0 0), 1, 24) := by kernel_rfl
theorem elemRL : Elem Try.prog 33 53 1 24 (.slice none 0 0) := ⟨Try.underlying33, rlInfo, rfl, by decide⟩
theorem wpPushRL (w : World) {ops : Array Oper} {rest : List Oper} {o : Oper} {a : Act} {Q : Exit → Act → World → Prop}
    (hg : o.guard = none) (sl x : Operand) (ho : o.op = .call { callee := .builtin .append, args := #[sl, x], argTypes := #[33, 33] }) (base : Nat) (v : Value) (vals : List Value) (y : Value) (ad : Addr)
    (hs : a.eval sl = v) (hown : (RL v vals).own w base) (hx : a.eval x = .slice (some ad) 1 1) (hc : ∀ (j : Nat) (u : Value), [y][j]? = some u → w.cell? (ad.add j) = some u) (hy : y.oneCell' = true) (hl : vals.length ≤ 4194304)
    (hK : ∀ v' w', Became w w' base (RL v vals) (RL v' (vals ++ [y])) → wpList Try.prog ops Q rest (a.put o.dst v') w') : wpList Try.prog ops Q (o :: rest) a w := by
  refine wpAppendSt elemRL w hg sl x ho base (RL v vals) rfl rfl hs hown ad 1 1 [y] hx rfl hc ?_ (by simp only [RL]; unfold maxLen; omega) (by simp only [RL]; omega) ?_
  · intro u hu
    simp at hu
    rw [hu]; exact hy
  · intro v' w' hb
    refine hK v' w' ?_
    have e : (⟨v', 53, 1, vals.length + 1, vals ++ [y]⟩ : Seg) = RL v' (vals ++ [y]) := by simp [RL]
    rw [← e]
    exact hb
theorem RL_shape {w : World} {base : Nat} {v : Value} {L : List Value} (h : (RL v L).own w base) : ∃ ao cap, v = .slice ao L.length cap := by
  rcases id h.2 with ⟨h1, h2⟩ | ⟨g, cap, cur, h1, _⟩
  · exact ⟨none, 0, by rw [show v = _ from h1, show L.length = 0 from h2]⟩
  · exact ⟨_, _, h1⟩
/-- The rounds' pieces, the newest first. -/
noncomputable def roundsS (g : Gr) (v : Value) (Z : List (Value × Stt)) : List Seg := RL v (Z.map (·.1)) :: (Z.map fun z => SStt z.1 (g.roundOf z.2)).reverse
theorem roundsS_snoc (g : Gr) (v : Value) (Z : List (Value × Stt)) (z : Value × Stt) : roundsS g v (Z ++ [z]) = RL v (Z.map (·.1) ++ [z.1]) :: SStt z.1 (g.roundOf z.2) :: (Z.map fun z => SStt z.1 (g.roundOf z.2)).reverse := by
  simp [roundsS]
theorem StM.swap {w0 W : World} {B n : Nat} {f : Stt → Option Int} {a s : Seg} {post : List Seg} (h : StM w0 W B n f (a :: s :: post)) : StM w0 W B n f (s :: a :: post) :=
  ⟨h.st.swap, h.ids, h.base, fun t ht => h.ne t (by simp only [List.mem_cons] at ht ⊢; rcases ht with h | h | h <;> simp [h])⟩
theorem Gr.bid_le {g : Gr} (p : Nat) : (g.bid p = (p : Int) ∧ ¬ ((g.endOf p : Int) < p)) ∨ (g.bid p = (g.endOf p : Int) ∧ ((g.endOf p : Int) < p)) := by
  unfold Gr.bid
  rcases Nat.lt_or_ge (g.endOf p) p with h | h
  · exact .inr ⟨by rw [Nat.min_eq_right (by omega)], by omega⟩
  · exact .inl ⟨by rw [Nat.min_eq_left h], by omega⟩

theorem storeId_run {w0 W : World} {B n : Nat} {f : Stt → Option Int} {segs : List Seg} (h : StM w0 W B n f segs) (hn : n ≤ 100000) (y : Stt) (val : Int) (hy : y.1 ≤ 1000 ∧ y.2 ≤ 1000) (hw : 0 ≤ val ∧ val ≤ 1000000) :
    ∃ W', Sem.run Try.prog (Instr.mapUpdate 32 (.map (some B)) (.agg #[.int .i64 y.1, .int .i64 y.2]) (.int .i64 val)) W = .ok () W' ∧ StM w0 W' B (n + 1) (updS f y val) segs := by
  obtain ⟨D, ho, hf⟩ := h.ids
  obtain ⟨l, hl⟩ := step_key W y hy.1 hy.2
  obtain ⟨w', hrun, r1, r2⟩ := ho.update stepKeyed Try.underlying32 (show n < maxLen by unfold maxLen; omega) hl (plainElem_int Try.underlying3 (WalkArith.wf_i64 (show -9223372036854775808 ≤ val ∧ val ≤ 9223372036854775807 by omega)))
  exact ⟨w', hrun, h.stored (IdMap.put hf ho.isMap hl r1) r2⟩
theorem Gr.reps_le (g : Gr) (k : Nat) : (g.repsTo k).length ≤ k := by
  unfold Gr.repsTo
  exact Nat.le_trans (List.length_filter_le _ _) (by simp)

set_option maxRecDepth 100000 in
set_option maxHeartbeats 8000000 in
theorem allPaths_any (ao : Option Addr) (cap : Nat) (ss : List ByteArray) (w : World) (hx : CellsS w ao ss) (hg : gridB ss = true) :
    Calls Try.prog 11 #[.slice ao ss.length cap] w fun e w' => ∃ B n f v Z, e = .returned (.tuple #[.map (some B), v]) ∧ StM w w' B n f (roundsS (gr ss) v Z) ∧ Z.map (·.2) = (gr ss).repsTo (4 * ((gr ss).n * (gr ss).m)) ∧ n ≤ 50000 ∧ (gr ss).RoundOk ((gr ss).repsTo (4 * ((gr ss).n * (gr ss).m))) [] f := by
  have hok := gr_ok hg
  have h25 : (gr ss).n * (gr ss).m ≤ 25 := Gr.size_le hok
  have hp20 : (gr ss).ports ≤ 20 := by
    have h1 := hok.n5; have h2 := hok.m5; unfold Gr.ports; omega
  have HX := Lib.hid hx
  have HG := Lib.hid hg
  have HOK := Lib.hid hok
  have HPM := Lib.hid fun W (h : CellsS W ao ss) => portMany_any ao cap ss W h hg
  have HCE := Lib.hid fun W (h : CellsS W ao ss) => cells_any ao cap ss W h hg
  have hmm := @run_makeMap Try.prog
  have stM : StM w (w.alloc (.map #[] 0)) w.heap.size 0 (fun _ => none) [] := ⟨(St.init w).step ((Below.refl _ _).alloc (Nat.le_refl _) _), IdMap.made w, Nat.le_refl _, by simp⟩
  have hb0 := Lib.hid (Gr.BeamOk.start hok)
  clear hx hg hok
  go_enter Try.func11, Try.ntmps11
  go_wp2_with fail
  refine (HPM.out _ (stM.st.oldS HX.out)).mono ?_
  rintro e w2 ⟨rfl, rfl⟩
  go_wp2_with fail
  go_loopw [21] (fun v21 wr => ∃ (j n : Nat) (f : _), j ≤ (gr ss).ports ∧ v21 = .int .i64 j ∧ n ≤ 100 * j ∧ StM w wr w.heap.size n f [] ∧ Hid ((gr ss).BeamOk j 0 f)) (fun v21 _ => (gr ss).ports - (intOf v21).toNat)
  case atStart => exact ⟨0, 0, _, Nat.zero_le _, rfl, Nat.zero_le _, stM, hb0⟩
  case round =>
    clear stM hb0
    obtain ⟨j, n, f, hj, rfl, hn, st, hb⟩ := hrel
    by_cases hlt : j < (gr ss).ports
    · obtain ⟨K, y, hB⟩ := Gr.beam_of HOK.out hlt
      have HBE := Lib.hid (beam_any ao cap ss j K y wr (st.st.oldS HX.out) HG.out hlt hB)
      have hL : (gr ss).wayTo ((gr ss).ent j) (K + 1) = (gr ss).wayOf j := by rw [Gr.wayOf, Gr.lenOf_eq hB]
      have hE : (gr ss).out y = (gr ss).endOf j := (Gr.endOf_eq hB).symm
      obtain ⟨N, hN⟩ : ∃ N, N = K + 1 := ⟨_, rfl⟩
      have hlen : ((gr ss).wayOf j).length = N := by rw [← hL, hN]; exact Gr.wayTo_length _ _ _
      have hK : N ≤ 100 := by have := hB.lt; omega
      rw [hL, hE] at HBE
      have HLN := Lib.hid hlen
      have HST := Lib.hid st
      have hep : (gr ss).endOf j < (gr ss).ports := (Gr.endOf_pair HOK.out hlt).1
      clear hB hL hE hlen st hN
      generalize hE : (gr ss).endOf j = E at *
      have HE := Lib.hid hE
      clear hE
      go_wp2_with fail
      refine HBE.out.mono ?_
      rintro e w3 ⟨v, rfl, o, b⟩
      have st2 := HST.out.addSeg o b
      obtain ⟨a2, c2, rfl, _⟩ := SStt_shape o
      rw [HLN.out] at st2 ⊢
      clear o b HBE HST
      go_wp2_with fail
      go_loopw [32] (fun v32 wq => ∃ (i n : Nat) (f : _), i ≤ N ∧ v32 = .int .i64 i ∧ n ≤ 100 * j + i ∧ StM w wq w.heap.size n f [SStt (.slice a2 (N) c2) ((gr ss).wayOf j)] ∧ Hid ((gr ss).BeamOk j i f)) (fun v32 _ => N - (intOf v32).toNat)
      case atStart => exact ⟨0, n, f, Nat.zero_le _, rfl, by omega, st2, hb⟩
      case round =>
        clear st2 hb hn
        obtain ⟨i, n', f', hi, rfl, hn', st, hb⟩ := hrel
        by_cases hil : i < N
        · have hil' : i < ((gr ss).wayOf j).length := by rw [HLN.out]; exact hil
          obtain ⟨bk, off, rfl, hc, hd⟩ := (SStt_cells (st.st.own _ List.mem_cons_self)) i hil'
          have hget : ((gr ss).wayOf j)[i]? = some (((gr ss).wayOf j).getD i (0, 0)) := by
            rw [List.getD_eq_getElem?_getD, List.getElem?_eq_getElem hil']; rfl
          generalize ((gr ss).wayOf j).getD i (0, 0) = y at hc hd hget
          have hyv := Gr.way_val HOK.out hlt (List.mem_of_getElem? hget)
          have hy1 : y.1 ≤ 1000 ∧ y.2 ≤ 1000 := ⟨by have := hyv.1; omega, by have := hyv.2; omega⟩
          have hb2 := Gr.BeamOk.next HOK.out hb.out hlt hget
          have HS2 := Lib.hid (st.step ((Below.refl _ _).alloc (Nat.le_refl _) (.cells #[.int .i64 y.1, .int .i64 y.2] 37)))
          have hbid := Gr.bid_le (g := gr ss) j
          rw [HE.out] at hbid
          clear hget hyv hb st hil'
          rcases hbid with ⟨hbid, hne⟩ | ⟨hbid, hne⟩
          all_goals
            rw [hbid] at hb2
            have HB2 := Lib.hid hb2
            clear hbid hb2
            go_wp2_with (at_mapUpdate; refine wpStoreId _ rfl _ _ _ rfl HS2.out (by omega) y _ rfl rfl rfl hy1 (by omega) ?_; intro w4 st4; have HS4 := Lib.hid st4; clear st4)
            go_roundw
            case rel => exact ⟨i + 1, n' + 1, _, by omega, by go_num, by omega, HS4.out, HB2.out⟩
            case measure => simp [intOf]; omega
        · obtain rfl : i = N := by omega
          have HS2 := Lib.hid st
          have hb2 := hb.out
          rw [← HLN.out] at hb2
          have HB2 := Lib.hid (Gr.BeamOk.done HOK.out hb2)
          clear hb hb2 st
          go_wp2
          go_roundw
          case rel => exact ⟨j + 1, n', f', by omega, by go_num, by omega, HS2.out.sub (List.nil_sublist _), HB2.out⟩
          case measure => simp [intOf]; omega
    · obtain rfl : j = (gr ss).ports := by omega
      have hn2 : n ≤ 2000 := by omega
      have HRO := Lib.hid (Gr.BeamOk.all HOK.out hb.out)
      have sta := st.addSeg (s := RL (.slice (some ⟨wr.heap.size, 0, none⟩) 0 0) []) (World.ownsRow_made wr #[] 0 (Nat.le_refl _) (Nat.zero_le _) rfl) ((Below.refl _ _).alloc (Nat.le_refl _) (.cells #[] 53))
      have STA := Lib.hid sta
      clear hb st sta hn
      generalize hNM : (gr ss).n * (gr ss).m = NM at *
      have HNM := Lib.hid hNM
      clear hNM
      go_wp2_with fail
      refine (HCE.out _ (STA.out.st.oldS HX.out)).mono ?_
      rintro e w5 ⟨rfl, rfl⟩
      go_wp2_with fail
      go_loopw [10, 46] (fun v10 v46 wr => ∃ (c n : Nat) (f : _) (a10 : _) (c10 : _) (Z : _), c ≤ NM ∧ v46 = .int .i64 c ∧ v10 = .slice a10 (List.length Z) c10 ∧ n ≤ 2000 + 800 * c ∧ StM w wr w.heap.size n f (roundsS (gr ss) (.slice a10 (List.length Z) c10) Z) ∧ Hid (Z.map (·.2) = (gr ss).repsTo (4 * c)) ∧ Hid ((gr ss).RoundOk ((gr ss).repsTo (4 * c)) [] f)) (fun _ v46 _ => NM - (intOf v46).toNat)
      case atStart => exact ⟨0, n, f, _, _, [], Nat.zero_le _, rfl, rfl, by omega, STA.out, Lib.hid rfl, HRO⟩
      case round =>
        clear STA HRO hn2 hj hlt
        obtain ⟨c, n, f, a10, c10, Z, hc, rfl, rfl, hn, st, hz, hr⟩ := hrel
        by_cases hcl : c < NM
        · have HST := Lib.hid st
          clear st
          go_wp2_with fail
          go_loopw [10, 49] (fun v10 v49 wr => ∃ (d n : Nat) (f : _) (a10 : _) (c10 : _) (Z : _), d ≤ 4 ∧ v49 = .int .i64 d ∧ v10 = .slice a10 (List.length Z) c10 ∧ n ≤ 2000 + 800 * c + 200 * d ∧ StM w wr w.heap.size n f (roundsS (gr ss) (.slice a10 (List.length Z) c10) Z) ∧ Hid (Z.map (·.2) = (gr ss).repsTo (4 * c + d)) ∧ Hid ((gr ss).RoundOk ((gr ss).repsTo (4 * c + d)) [] f)) (fun _ v49 _ => 4 - (intOf v49).toNat)
          case atStart => exact ⟨0, n, f, _, _, Z, Nat.zero_le _, rfl, rfl, by omega, HST.out, hz, hr⟩
          case round =>
            clear HST hz hr hn
            obtain ⟨d, n, f, a10, c10, Z, hd, rfl, rfl, hn, st, hz, hr⟩ := hrel
            by_cases hdl : d < 4
            · have hdec : decS (4 * c + d) = (c, d) := by unfold decS; exact Prod.ext (by show (4 * c + d) / 4 = c; omega) (by show (4 * c + d) % 4 = d; omega)
              have hk : 4 * c + d < 4 * ((gr ss).n * (gr ss).m) := by rw [HNM.out]; omega
              have hv : (gr ss).val (c, d) := by rw [← hdec]; exact Gr.dec_val HOK.out hk
              have HST := Lib.hid st
              have htold := Gr.RoundOk.told HOK.out hr.out (x := (c, d)) hv
              by_cases hm : (gr ss).Marked (4 * c + d) (decS (4 * c + d))
              · have hs : (f (c, d)).isSome = true := htold.2 (by rw [← hdec]; exact hm)
                have hre := Gr.is_marked HOK.out hk hm
                have HR2 := Lib.hid (show Z.map (·.2) = (gr ss).repsTo (4 * c + (d + 1)) by rw [← Nat.add_assoc, hre]; exact hz.out)
                have HR3 := Lib.hid (show (gr ss).RoundOk ((gr ss).repsTo (4 * c + (d + 1))) [] f by rw [← Nat.add_assoc, hre]; exact hr.out)
                clear hm htold hre hv hk hdec hz hr st
                go_wp2_with (at_lookup; refine wpLookId2 _ rfl _ _ rfl HST.out (c, d) rfl rfl ⟨by show c ≤ 1000; omega, by show d ≤ 1000; omega⟩ ?_; rw [hs]; generalize (f (c, d)).getD 0 = q9)
                go_roundw
                case rel => exact ⟨d + 1, n, f, a10, c10, Z, by omega, by go_num, rfl, by omega, HST.out, HR2, HR3⟩
                case measure => simp [intOf]; omega
              · have hs : (f (c, d)).isSome = false := by
                  cases e : (f (c, d)).isSome
                  · rfl
                  · exact absurd (by rw [hdec]; exact htold.1 e) hm
                obtain ⟨hcy, hre⟩ := Gr.not_marked HOK.out hk hm
                have HRF := Lib.hid (roundFrom_any ao cap ss (c, d) _ (st.st.oldS HX.out) HG.out hv (by rw [← hdec]; exact hcy))
                have HFR := Lib.hid fun y (hy : y ∈ (gr ss).roundOf (decS (4 * c + d))) => Gr.round_free HOK.out hk hm hcy hy
                rw [hdec] at HFR hre hcy
                have hpe := Gr.per_spec HOK.out hv hcy
                have hlen : ((gr ss).roundOf (c, d)).length = (gr ss).per (c, d) := Gr.round_length HOK.out _
                have hzl : Z.length = ((gr ss).repsTo (4 * c + d)).length := by rw [← hz.out, List.length_map]
                have HRE := Lib.hid hre
                have HV := Lib.hid hv
                have HCY := Lib.hid hcy
                have hN : (gr ss).per (c, d) ≤ 100 := hpe.2.1
                generalize (gr ss).per (c, d) = N at *
                have HLN := Lib.hid hlen
                have hzl2 : Z.length ≤ 100 := by
                  rw [hzl]
                  have := Gr.reps_le (gr ss) (4 * c + d)
                  omega
                have HZL := Lib.hid hzl
                clear hm htold hv hk hre hcy hpe hlen hzl st
                go_wp2_with (at_lookup; refine wpLookId2 _ rfl _ _ rfl HST.out (c, d) rfl rfl ⟨by show c ≤ 1000; omega, by show d ≤ 1000; omega⟩ ?_; rw [hs]; generalize (f (c, d)).getD 0 = q9)
                refine HRF.out.mono ?_
                rintro e w7 ⟨v, rfl, s7⟩
                have st7 : StM w w7 w.heap.size n f (SStt v ((gr ss).roundOf (c, d)) :: roundsS (gr ss) (.slice a10 (List.length Z) c10) Z) := HST.out.join s7
                obtain ⟨a15, c15, rfl⟩ := shapeStt0 st7.st
                rw [HLN.out] at st7 ⊢
                clear s7 HST HRF
                go_wp2_with fail
                go_loopw [68] (fun v68 wq => ∃ (i n9 : Nat) (f : _), i ≤ N ∧ v68 = .int .i64 i ∧ n9 ≤ n + 2 * i ∧ StM w wq w.heap.size n9 f (SStt (.slice a15 N c15) ((gr ss).roundOf (c, d)) :: roundsS (gr ss) (.slice a10 (List.length Z) c10) Z) ∧ Hid ((gr ss).RoundOk ((gr ss).repsTo (4 * c + d)) (((gr ss).roundOf (c, d)).take i) f)) (fun v68 _ => N - (intOf v68).toNat)
                case atStart => exact ⟨0, n, f, Nat.zero_le _, rfl, by omega, st7, by rw [List.take_zero]; exact hr⟩
                case round =>
                  clear st7 hr hs
                  obtain ⟨i, n9, f9, hi, rfl, hn9, st, hr⟩ := hrel
                  by_cases hil : i < N
                  · have hil' : i < ((gr ss).roundOf (c, d)).length := by rw [HLN.out]; exact hil
                    obtain ⟨bk, off, rfl, hc8, hd8⟩ := (SStt_cells (st.st.own _ List.mem_cons_self)) i hil'
                    have hget : ((gr ss).roundOf (c, d))[i]? = some (((gr ss).roundOf (c, d)).getD i (0, 0)) := by
                      rw [List.getD_eq_getElem?_getD, List.getElem?_eq_getElem hil']; rfl
                    generalize ((gr ss).roundOf (c, d)).getD i (0, 0) = y at hc8 hd8 hget
                    have htk : ((gr ss).roundOf (c, d)).take (i + 1) = ((gr ss).roundOf (c, d)).take i ++ [y] := by
                      obtain ⟨h1, h2⟩ := List.getElem?_eq_some_iff.1 hget
                      rw [List.take_succ_eq_append_getElem h1, h2]
                    have hyf := HFR.out y (List.mem_of_getElem? hget)
                    have hyv := hyf.1
                    have hrv := Gr.rev_val HOK.out hyv
                    have hv1 := hyv.1
                    have hv2 := hyv.2
                    have hv3 := hrv.1
                    have hv4 := hrv.2
                    rw [HNM.out] at hv1 hv3
                    have hy1 : y.1 ≤ 1000 ∧ y.2 ≤ 1000 := by omega
                    have hy2 : ((gr ss).rev y).1 ≤ 1000 ∧ ((gr ss).rev y).2 ≤ 1000 := by omega
                    have hrn := Gr.RoundOk.next HOK.out hr.out hyv hyf.2.1 hyf.2.2.1 hyf.2.2.2.1 hyf.2.2.2.2
                    rw [← htk, ← HZL.out] at hrn
                    have HRN := Lib.hid hrn
                    have HYV := Lib.hid hyv
                    have st8 := st.addSeg (SB_new wr y) ((Below.refl _ _).alloc (Nat.le_refl _) _)
                    obtain ⟨k0, k1, _, _, _, _⟩ := SB_cells (st8.st.own _ List.mem_cons_self)
                    have ST8 := Lib.hid st8
                    have HP8 : Hid (∀ k, Calls Try.prog 28 #[.slice ao ss.length cap] ((wr.alloc (.cells #[.int .i64 y.1, .int .i64 y.2] 37)).drewN k) fun e w' => e = .returned (.int .i64 ((gr ss).ports : Nat)) ∧ (wr.alloc (.cells #[.int .i64 y.1, .int .i64 y.2] 37)).drewN k = w') := fun k => HPM.out _ ((st8.st.oldS HX.out).below (below_dn (Below.refl _ _) k) (Nat.le_refl _))
                    have HU := Lib.hid (storeId_run (st8.step (below_dn (Below.refl _ _) 1)) (by omega) y (((gr ss).ports + Z.length : Nat) : Int) hy1 (by omega))
                    have hwr : IntKind.i64.wrap (((gr ss).ports : Int) + (Z.length : Int)) = (((gr ss).ports + Z.length : Nat) : Int) := by rw [IntWalk.i64_in _ (by omega)]; omega
                    clear hget htk hyf hyv hrv hrn st8 st hr hil' hv1 hv2 hv3 hv4
                    generalize hval : (gr ss).ports + Z.length = val at *
                    have hvb : val ≤ 200 := by omega
                    clear hval
                    go_wp2_with fail
                    go_region_with (first | (go_at_call 28; refine (HP8.out _).mono ?_; rintro e w9 ⟨rfl, rfl⟩) | (obtain ⟨w9, hrun, st9⟩ := HU.out; rw [hrun]; have ST9 := Lib.hid st9; clear hrun st9))
                    all_goals
                      obtain ⟨k0, k1, _, _, _, _⟩ := SB_cells (ST9.out.st.own _ List.mem_cons_self)
                      clear HU HP8 ST8
                      go_wp2_with fail
                      refine (reversed_any ao cap ss y _ (ST9.out.st.oldS HX.out) HG.out HYV.out).mono ?_
                      rintro e w10 ⟨rfl, b10⟩
                      have HS10 := Lib.hid (ST9.out.step b10)
                      clear b10 k0 k1
                      go_wp2_with fail
                      refine (HPM.out _ (HS10.out.st.oldS HX.out)).mono ?_
                      rintro e w11 ⟨rfl, rfl⟩
                      go_wp2_with (at_mapUpdate; refine wpStoreId _ rfl _ _ _ rfl HS10.out (by omega) ((gr ss).rev y) _ rfl rfl rfl hy2 (by omega) ?_; intro w12 st12; have HS12 := Lib.hid (st12.sub (List.sublist_cons_self _ _)); clear st12)
                      go_roundw
                      case rel => exact ⟨i + 1, n9 + 1 + 1, _, by omega, by go_num, by omega, HS12.out, HRN.out⟩
                      case measure => simp [intOf]; omega
                  · obtain rfl : i = N := by omega
                    have HRO := hr.out
                    rw [← HLN.out, List.take_length] at HRO
                    have HR3 := Lib.hid (show (gr ss).RoundOk ((gr ss).repsTo (4 * c + (d + 1))) [] f9 by rw [← Nat.add_assoc, HRE.out]; exact Gr.RoundOk.done HOK.out HV.out HCY.out HRO)
                    have HR2 : Hid (∀ v : Value, (Z ++ [(v, (c, d))]).map (·.2) = (gr ss).repsTo (4 * c + (d + 1))) := fun v => by rw [← Nat.add_assoc, HRE.out, List.map_append, hz.out]; rfl
                    have ST2 := Lib.hid (st.swap.step ((Below.refl _ _).alloc (Nat.le_refl _) (.cells #[.slice a15 i c15] 53)))
                    clear hr HRO st HFR HRE HV HCY
                    go_wp2_with (at_builtin; refine wpPushRL _ rfl _ _ rfl w.heap.size _ (Z.map (·.1)) (.slice a15 i c15) _ rfl (ST2.out.st.own _ List.mem_cons_self) rfl (cell_one_new _ _ _) rfl (by rw [List.length_map]; omega) ?_; intro v' w4 hbec; have st4 := ST2.out.became [] _ _ _ hbec; clear hbec)
                    have HR2' := Lib.hid (HR2.out (.slice a15 i c15))
                    have st5 : StM w w4 w.heap.size n9 f9 (roundsS (gr ss) v' (Z ++ [(.slice a15 i c15, (c, d))])) := by rw [roundsS_snoc]; exact st4
                    generalize Z ++ [((.slice a15 i c15 : Value), (c, d))] = Z' at *
                    obtain ⟨a11, c11, hv11⟩ := RL_shape (st5.st.own _ List.mem_cons_self)
                    rw [List.length_map] at hv11
                    subst hv11
                    have ST5 := Lib.hid st5
                    clear st4 st5
                    go_wp2
                    go_roundw
                    case rel => exact ⟨d + 1, n9, f9, a11, c11, Z', by omega, by go_num, rfl, by omega, ST5.out, HR2', HR3⟩
                    case measure => simp [intOf]; omega
            · obtain rfl : d = 4 := by omega
              have HST := Lib.hid st
              have HR2 := Lib.hid (show Z.map (·.2) = (gr ss).repsTo (4 * (c + 1)) from hz.out)
              have HR3 := Lib.hid (show (gr ss).RoundOk ((gr ss).repsTo (4 * (c + 1))) [] f from hr.out)
              clear st hz hr
              go_wp2
              go_roundw
              case rel => exact ⟨c + 1, n, f, a10, c10, Z, by omega, by go_num, rfl, by omega, HST.out, HR2, HR3⟩
              case measure => simp [intOf]; omega
        · obtain rfl : c = NM := by omega
          have HST := Lib.hid st
          clear st
          go_wp2
          go_ret2
          exact ⟨_, n, f, _, Z, rfl, HST.out, by rw [HNM.out]; exact hz.out, by omega, by rw [HNM.out]; exact hr.out⟩
end Go.Proofs.Ytmlenaelijchjaa
