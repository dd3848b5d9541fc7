/- Contracts: the lengths of the rounds, the number of paths (l3Rounds, l3Paths; roundMany, pathMany). -/
import Derived.Test.YtebcnfemkchfjaaMarks2W
namespace Go.Proofs.Ytebcnfemkchfjaa
open Go.RowKit
set_option linter.unusedVariables false
set_option linter.unusedSimpArgs false

/-- The lengths of the rounds found below the code k. -/
noncomputable def Gr.lens (g : Gr) (k : Nat) : List Int := (g.repsTo k).map fun r => (g.per r : Int)
noncomputable def Gr.rmany (g : Gr) : Nat := (g.repsTo (4 * (g.n * g.m))).length
theorem Gr.reps_le' (g : Gr) (k : Nat) : (g.repsTo k).length ≤ k := by
  unfold Gr.repsTo
  exact Nat.le_trans (List.length_filter_le _ _) (by simp)
theorem Gr.lens_length (g : Gr) (k : Nat) : (g.lens k).length = (g.repsTo k).length := List.length_map _
theorem Gr.lens_snoc {g : Gr} {k : Nat} {r : Stt} (h : g.repsTo (k + 1) = g.repsTo k ++ [r]) : g.lens k ++ [(g.per r : Int)] = g.lens (k + 1) := by
  unfold Gr.lens
  rw [h, List.map_append]; rfl
theorem Gr.round_val' {g : Gr} (hg : g.ok) {r y : Stt} (hr : g.val r) (hc : Cyc g.nx r) (hy : y ∈ g.roundOf r) : g.val y ∧ Cyc g.nx y := by
  have o := (Gr.mem_round hg hr hc).1 hy
  exact ⟨(Gr.rvs hg).on_val hr o, (hc.on o).2⟩
theorem Gr.closed_cyc {g : Gr} (hg : g.ok) {x : Stt} (hx : g.val x) (hc : Cyc g.nx x) : g.Closed x (g.per x) true := by
  obtain ⟨h1, h2, h3, h4⟩ := Gr.per_spec hg hx hc
  exact ⟨h1, h2, h4, .inl ⟨rfl, h3⟩⟩

theorem xor_opp {D : Nat} (h : D < 4) : bits BinOp.xor IntKind.i64 (D : Int) 2 = ((opp D : Nat) : Int) := by
  have h4 : D = 0 ∨ D = 1 ∨ D = 2 ∨ D = 3 := by omega
  rcases h4 with h | h | h | h <;> rw [h] <;> rfl

set_option maxRecDepth 100000 in
set_option maxHeartbeats 8000000 in
theorem l3Rounds_any (ao : Option Addr) (cap : Nat) (ss : List ByteArray) (w : World) (hx : CellsS w ao ss) (hg : gridB ss = true) :
    Calls Try.prog 88 #[.slice ao ss.length cap] w fun e w' => ∃ v, e = .returned v ∧ St w w' [SI v ((gr ss).lens (4 * ((gr ss).n * (gr ss).m)))] := by
  have hok := gr_ok hg
  have h25 : (gr ss).n * (gr ss).m ≤ 25 := Gr.size_le hok
  have HX := Lib.hid hx
  have HG := Lib.hid hg
  have HOK := Lib.hid hok
  have HMK := Lib.hid fun W (h : CellsS W ao ss) => l3Marks_any ao cap ss W h hg
  obtain ⟨N, hN⟩ : ∃ N, N = 4 * ((gr ss).n * (gr ss).m) := ⟨_, rfl⟩
  rw [← hN]
  have hN1 : N ≤ 100 := by omega
  have HN := Lib.hid hN
  have sta := ((St.init w).addSeg (s := SI (.slice (some ⟨w.heap.size, 0, none⟩) 0 0) []) (World.ownsRow_made w #[] 0 (Nat.le_refl _) (Nat.zero_le _) rfl) ((Below.refl _ _).alloc (Nat.le_refl _) (.cells #[] 3)))
  have STA := Lib.hid sta
  clear hx hg hN hok sta
  go_enter Try.func88, Try.ntmps88
  go_wp2_with fail
  refine (HMK.out _ (STA.out.oldS HX.out)).mono ?_
  rintro e w2 ⟨G, c, M, rfl, s2, hM⟩
  have st := STA.out.join s2
  rw [← HN.out] at st ⊢
  have HM := Lib.hid hM
  clear s2 hM STA HMK
  go_wp2_with fail
  go_loopw [3, 5] (fun v3 v5 wr => ∃ (x : Nat) (M : _) (a3 : _) (c3 : _), x ≤ N ∧ v5 = .int .i64 x ∧ v3 = .slice a3 ((gr ss).lens x).length c3 ∧ St w wr [MB (.slice (some ⟨G, 0, none⟩) N c) N M, SI (.slice a3 ((gr ss).lens x).length c3) ((gr ss).lens x)] ∧ Hid ((gr ss).RoundM ((gr ss).repsTo x) [] M)) (fun _ v5 _ => N - (intOf v5).toNat)
  case atStart => exact ⟨0, M, _, _, Nat.zero_le _, rfl, rfl, st, HM⟩
  case round =>
    clear st HM
    obtain ⟨x, M, a3, c3, hx, rfl, rfl, st, hM⟩ := hrel
    have hll : ((gr ss).lens x).length ≤ x := by rw [Gr.lens_length]; exact Gr.reps_le' _ _
    by_cases hlt : x < N
    · have hmx := MB_cell (st.own _ List.mem_cons_self) hlt
      have hxN : x < 4 * ((gr ss).n * (gr ss).m) := by rw [← HN.out]; exact hlt
      have htold := Gr.RoundM.told HOK.out hM.out hxN
      have HST := Lib.hid st
      clear st
      by_cases hm : (gr ss).Marked x (decS x)
      · have hs : M x = true := htold.2 hm
        have hre := Gr.is_marked HOK.out hxN hm
        have hle : (gr ss).lens (x + 1) = (gr ss).lens x := by unfold Gr.lens; rw [hre]
        rw [hs] at hmx
        have HR := Lib.hid (show (gr ss).RoundM ((gr ss).repsTo (x + 1)) [] M by rw [hre]; exact hM.out)
        have HL := Lib.hid hle
        clear hm htold hre hM hs hle
        generalize hLL : (gr ss).lens x = LL at *
        clear hLL
        go_wp2
        go_roundw
        case rel => exact ⟨x + 1, M, a3, c3, by omega, by go_num, by rw [HL.out], by rw [HL.out]; exact HST.out, HR⟩
        case measure => simp [intOf]; omega
      · have hs : M x = false := by
          cases e : M x
          · rfl
          · exact absurd (htold.1 e) hm
        rw [hs] at hmx
        obtain ⟨hcy, hre⟩ := Gr.not_marked HOK.out hxN hm
        have hv := Gr.dec_val HOK.out hxN
        have hdec : decS x = (x / 4, x % 4) := rfl
        have i1 : (x : Int) / 4 = ((x / 4 : Nat) : Int) := by omega
        have i2 : (x : Int) % 4 = ((x % 4 : Nat) : Int) := by omega
        have HLS := Lib.hid (Gr.lens_snoc hre)
        rw [hdec] at hv hcy hre HLS
        generalize x / 4 = q at *
        generalize x % 4 = d at *
        have hCl := Gr.closed_cyc HOK.out hv hcy
        have HCL := Lib.hid (l3Close_any ao cap ss q d _ true _ (HST.out.oldS HX.out) HG.out hv hCl)
        have hlen : ((gr ss).roundOf (q, d)).length = (gr ss).per (q, d) := Gr.round_length HOK.out _
        have hP := hCl.le
        have hL1 : (gr ss).cellsTo (q, d) ((gr ss).per (q, d)) = ((gr ss).roundOf (q, d)).map fun y => (y.1 : Int) := rfl
        have hL2 : (gr ss).dirsTo (q, d) ((gr ss).per (q, d)) = ((gr ss).roundOf (q, d)).map fun y => (y.2 : Int) := rfl
        rw [hL1, hL2] at HCL
        have HRE := Lib.hid hre
        have HV := Lib.hid hv
        have HCY := Lib.hid hcy
        generalize hP' : (gr ss).per (q, d) = P at *
        have HLN := Lib.hid hlen
        generalize hLL : (gr ss).lens x = LL at *
        have HLL := Lib.hid hLL
        clear hm htold hs hre hv hcy hdec hCl hL1 hL2 hlen hLL hP'
        go_wp2_with fail
        refine HCL.out.mono ?_
        rintro e w3 ⟨v1, v2, rfl, s3⟩
        have st := HST.out.join s3
        clear s3 HCL HST
        obtain ⟨a1, c1, rfl⟩ := st.shapeI 1 rfl
        obtain ⟨a2, c2, rfl⟩ := st.shapeI0
        simp only [List.length_map, HLN.out] at st ⊢
        clear hmx i1 i2
        go_wp2_with fail
        go_loopw [9, 10] (fun v9 v10 wr => ∃ (i : Nat) (M : _), i ≤ P ∧ v9 = .int .i64 i ∧ St w wr [SI (.slice a2 P c2) (((gr ss).roundOf (q, d)).map fun y => (y.2 : Int)), SI (.slice a1 P c1) (((gr ss).roundOf (q, d)).map fun y => (y.1 : Int)), MB (.slice (some ⟨G, 0, none⟩) N c) N M, SI (.slice a3 LL.length c3) LL] ∧ Hid ((gr ss).RoundM ((gr ss).repsTo x) (((gr ss).roundOf (q, d)).take i) M)) (fun v9 _ _ => P - (intOf v9).toNat)
        case atStart => exact ⟨0, M, Nat.zero_le _, rfl, st, by rw [List.take_zero]; exact hM⟩
        case round =>
          clear st hM
          obtain ⟨i, M, hi, rfl, st, hM⟩ := hrel
          by_cases hil : i < P
          · have hil' : i < ((gr ss).roundOf (q, d)).length := by rw [HLN.out]; exact hil
            have hget : ((gr ss).roundOf (q, d))[i]? = some ((gr ss).roundOf (q, d))[i] := List.getElem?_eq_getElem hil'
            have htk : ((gr ss).roundOf (q, d)).take (i + 1) = ((gr ss).roundOf (q, d)).take i ++ [((gr ss).roundOf (q, d))[i]] := List.take_succ_eq_append_getElem hil'
            generalize ((gr ss).roundOf (q, d))[i] = y at hget htk
            have hyv := (Gr.round_val' HOK.out HV.out HCY.out (List.mem_of_getElem? hget)).1
            have hcl := Gr.code_val HOK.out hyv
            have hrv := Gr.rev_val HOK.out hyv
            have hcl2 := Gr.code_val HOK.out hrv
            rw [← HN.out] at hcl hcl2
            obtain ⟨b1, o1, rfl, h1⟩ := cellStt (f := fun y => y.1) st 1 rfl hget
            obtain ⟨b2, o2, rfl, h2⟩ := cellStt (f := fun y => y.2) st 0 rfl hget
            have HB2 := Lib.hid (htk ▸ Gr.RoundM.next HOK.out hM.out hyv)
            obtain ⟨h3, h4, s5⟩ := St.mark [_, _] [_] st (codeS y) hcl
            have s5' : St w ((wr.setCell ⟨G, codeS y, none⟩ (.bool true)).drew) _ := s5.dr ⟨1, rfl⟩
            have HGET := Lib.hid hget
            have HS5 := Lib.hid s5'
            have hk : 4 * (y.1 : Int) + (y.2 : Int) = ((codeS y : Nat) : Int) := by unfold codeS; omega
            have hy25 : y.1 < 25 := by have := hyv.1; omega
            have hy4 := hyv.2
            have hk2 : 4 * (y.1 : Int) + ((opp (bend ((gr ss).sig y.1) y.2) : Nat) : Int) = ((codeS ((gr ss).rev y) : Nat) : Int) := by
              show 4 * (y.1 : Int) + ((opp (bend ((gr ss).sig y.1) y.2) : Nat) : Int) = ((4 * y.1 + opp (bend ((gr ss).sig y.1) y.2) : Nat) : Int)
              omega
            have hb4 := bend_lt ((gr ss).sig y.1) hy4
            have hLC : Hid (∀ W segs, St w W segs → ∀ k, Calls Try.prog 83 #[.slice ao ss.length cap, .int .i64 y.1] (W.drewN k) fun e w' => e = .returned (.int .u8 ((gr ss).sig y.1)) ∧ ∃ m, w' = W.drewN m) := fun W segs h k =>
              quiet_dr (l2Cell_any ao cap ss y.1 _ (((h.oldS HX.out)).below (below_dn (Below.refl _ _) k) (Nat.le_refl _)) HG.out hyv.1)
            clear hget htk hyv hrv s5 s5' st hM hil'
            generalize codeS y = k at *
            generalize codeS ((gr ss).rev y) = k2 at *
            generalize (gr ss).sig y.1 = sg at *
            try dsimp only at h1 h2
            go_wp2
            go_region
            all_goals
              generalize (wr.setCell ⟨G, k, none⟩ (.bool true)).drew = W5 at HS5 ⊢
              clear h1 h2 h3 h4
              obtain ⟨b', o', he, h1⟩ := cellStt (f := fun y => y.1) HS5.out 1 rfl HGET.out
              cases he
              obtain ⟨b', o', he, h2⟩ := cellStt (f := fun y => y.2) HS5.out 0 rfl HGET.out
              cases he
              try dsimp only at h1 h2
              go_wp2
              go_quiet (first | (go_at_call 83; exact hLC.out _ _ HS5.out _) | (go_at_call 82; exact quiet_eq (l2Bend_any sg y.2 _ hy4)))
              have s6 := HS5.out.step (below_dn (Below.refl _ _) nq)
              generalize W5.drewN nq = W6 at s6 ⊢
              have hxo := xor_opp hb4
              generalize bend sg y.2 = DD at *
              clear h1 h2 hLC
              obtain ⟨b', o', he, h1⟩ := cellStt (f := fun y => y.1) s6 1 rfl HGET.out
              cases he
              try dsimp only at h1
              obtain ⟨h3, h4, s7⟩ := St.mark [_, _] [_] s6 k2 hcl2
              have HS7 := Lib.hid s7
              clear s6 s7
              go_wp2
              go_roundw
              case rel => exact ⟨i + 1, _, by omega, by go_num, HS7.out, HB2.out⟩
              case measure => simp [intOf]; omega
          · obtain rfl : i = P := by omega
            have hb2 := hM.out
            rw [← HLN.out, List.take_length] at hb2
            have HR := Lib.hid (show (gr ss).RoundM ((gr ss).repsTo (x + 1)) [] M by rw [HRE.out]; exact Gr.RoundM.done HOK.out HV.out HCY.out hb2)
            have st8 := st.step ((Below.refl _ _).alloc (Nat.le_refl _) (.cells #[.int .i64 (i : Int)] 3))
            have HS8 := Lib.hid st8
            clear hM hb2 st st8
            go_wp2_with (at_builtin; refine wpPushI _ rfl _ _ rfl w.heap.size _ _ (i : Int) _ rfl (HS8.out.own (SI (.slice a3 LL.length c3) LL) (by simp)) rfl (cell_one_new _ _ _) (by omega) ?_; intro v' w4 hbec; have s9 : St w w4 [_, _, _, SI v' (LL ++ [(i : Int)])] := St.became [_, _, _] [] (SI (.slice a3 LL.length c3) LL) _ HS8.out hbec; clear hbec)
            rw [HLS.out] at s9
            obtain ⟨a9, c9, rfl⟩ := St.shapeI (v := v') s9 3 rfl
            have HS9 := Lib.hid s9.drop0.drop0
            clear s9
            go_wp2
            go_roundw
            case rel => exact ⟨x + 1, M, a9, c9, by omega, by go_num, rfl, HS9.out, HR⟩
            case measure => simp [intOf]; omega
    · obtain rfl : x = N := by omega
      have HST := Lib.hid st.drop0
      clear st
      go_wp2
      go_ret
      exact ⟨_, rfl, HST.out⟩
end Go.Proofs.Ytebcnfemkchfjaa
