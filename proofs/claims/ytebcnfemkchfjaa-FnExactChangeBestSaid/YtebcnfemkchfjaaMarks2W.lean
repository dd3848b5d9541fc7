/- Contract: the marks of the beams (l3Marks). -/
import Derived.Test.YtebcnfemkchfjaaMarksW
namespace Go.Proofs.Ytebcnfemkchfjaa
open Go.RowKit
set_option linter.unusedVariables false
set_option linter.unusedSimpArgs false

theorem cellStt {w0 W : World} {segs : List Seg} (h : St w0 W segs) {ao : Option Addr} {n cap : Nat} {L : List Stt} {f : Stt → Nat} (i : Nat) (hi : segs[i]? = some (SI (.slice ao n cap) (L.map fun y => (f y : Int)))) {j : Nat} {y : Stt} (hj : L[j]? = some y) :
    ∃ b off, ao = some ⟨b, off, none⟩ ∧ W.cell? ⟨b, off + j, none⟩ = some (.int .i64 (f y)) := by
  obtain ⟨h1, h2⟩ := List.getElem?_eq_some_iff.1 hj
  have := h.cellAt i hi (j := j) (by rw [List.length_map]; exact h1)
  rwa [List.getD_eq_getElem?_getD, List.getElem?_map, hj] at this

set_option maxRecDepth 100000 in
set_option maxHeartbeats 4000000 in
theorem l3Marks_any (ao : Option Addr) (cap : Nat) (ss : List ByteArray) (w : World) (hx : CellsS w ao ss) (hg : gridB ss = true) :
    Calls Try.prog 103 #[.slice ao ss.length cap] w fun e w' => ∃ G c M, e = .returned (.slice (some ⟨G, 0, none⟩) (4 * ((gr ss).n * (gr ss).m)) c) ∧ St w w' [MB (.slice (some ⟨G, 0, none⟩) (4 * ((gr ss).n * (gr ss).m)) c) (4 * ((gr ss).n * (gr ss).m)) M] ∧ (gr ss).RoundM [] [] M := by
  have hok := gr_ok hg
  have hn1 : 1 ≤ ss.length := hok.n1
  have hn5 : ss.length ≤ 5 := hok.n5
  have hm1 : 1 ≤ (rowOf ss 0).size := hok.m1
  have hm5 : (rowOf ss 0).size ≤ 5 := hok.m5
  have h25 : (gr ss).n * (gr ss).m ≤ 25 := Gr.size_le hok
  have hp20 : (gr ss).ports ≤ 20 := by
    have h1 := hok.n5; have h2 := hok.m5; unfold Gr.ports; omega
  have hpo : ((2 * ss.length + 2 * (rowOf ss 0).size : Nat) : Int) = ((gr ss).ports : Nat) := rfl
  have HX := Lib.hid hx
  have HG := Lib.hid hg
  have HOK := Lib.hid hok
  have HB0 := Lib.hid (fun (h : (gr ss).ok) => Gr.BeamM.start h)
  obtain ⟨b, off, rfl, hc, hbb⟩ := hx.at (i := 0) (by omega)
  have hc0 := hc 0 (by omega)
  rw [Nat.add_zero] at hc0
  obtain ⟨N, hN⟩ : ∃ N, N = 4 * ((gr ss).n * (gr ss).m) := ⟨_, rfl⟩
  have q2 : 4 * (ss.length : Int) * ((rowOf ss 0).size : Int) = (N : Int) := by
    rw [hN, Int.mul_assoc, Int.natCast_mul, Int.natCast_mul]; rfl
  rw [← hN]
  have hN1 : N ≤ 100 := by omega
  have HN := Lib.hid hN
  clear hx hg hc hN hok
  go_enter Try.func103, Try.ntmps103
  go_wp2_with (refine wpMakeB _ rfl _ _ rfl w.heap.size N _ _ _ _ rfl rfl rfl rfl (by omega) (Nat.le_refl _) ?_; intro w1 o g1)
  have st0 := (St.init w).addSeg o (Below.of_grown g1 (Nat.le_refl _) (by simp))
  clear o g1
  go_loopw [5] (fun v5 wr => ∃ (j : Nat) (M : _), j ≤ (gr ss).ports ∧ v5 = .int .i64 j ∧ St w wr [MB (.slice (some ⟨w.heap.size, 0, none⟩) N N) N M] ∧ Hid ((gr ss).BeamM j 0 M)) (fun v5 _ => (gr ss).ports - (intOf v5).toNat)
  case atStart => exact ⟨0, _, Nat.zero_le _, rfl, st0, Lib.hid (HB0.out HOK.out)⟩
  case round =>
    clear st0 HB0
    obtain ⟨j, M, hj, rfl, st, hM⟩ := hrel
    obtain ⟨b', off', he, hcr, _⟩ := (st.oldS HX.out).at (i := 0) (by omega)
    cases he
    have hc1 := hcr 0 (by omega)
    rw [Nat.add_zero] at hc1
    clear hcr
    have HST := Lib.hid st
    clear st
    have hpi : (2 : Int) * ((ss.length : Int) + ((rowOf ss 0).size : Int)) = (((gr ss).ports : Nat) : Int) := by rw [← hpo]; omega
    go_wp2_with fail
    refine (l2Ports_any ss.length (rowOf ss 0).size _ (by omega) (by omega) (by omega) (by omega)).mono ?_
    rintro e w2 ⟨rfl, rfl⟩
    rw [hpi]
    by_cases hlt : j < (gr ss).ports
    · obtain ⟨K, y, hB⟩ := Gr.beam_of HOK.out hlt
      have HBE := Lib.hid (l2Way_any _ cap ss j K y _ (HST.out.oldS HX.out) HG.out hlt hB)
      have hL : (gr ss).wayTo ((gr ss).ent j) (K + 1) = (gr ss).wayOf j := by rw [Gr.wayOf, Gr.lenOf_eq hB]
      have hL1 : (gr ss).cellsTo ((gr ss).ent j) (K + 1) = ((gr ss).wayOf j).map fun y => (y.1 : Int) := by rw [Gr.cellsTo, hL]
      have hL2 : (gr ss).dirsTo ((gr ss).ent j) (K + 1) = ((gr ss).wayOf j).map fun y => (y.2 : Int) := by rw [Gr.dirsTo, hL]
      have hlen : ((gr ss).wayOf j).length = K + 1 := by rw [← hL]; exact Gr.wayTo_length _ _ _
      have hK := hB.lt
      rw [hL1, hL2] at HBE
      clear hB hL hL1 hL2
      obtain ⟨D, hD⟩ : ∃ D, D = K + 1 := ⟨_, rfl⟩
      rw [← hD] at hlen
      have hD1 : D ≤ 100 := by omega
      have HLN := Lib.hid hlen
      clear hD hK hlen
      generalize (gr ss).out y = yo at *
      clear hc0 hc1
      go_wp2_with fail
      refine HBE.out.mono ?_
      rintro e w3 ⟨v1, v2, rfl, s3⟩
      have st := HST.out.join s3
      clear s3 HBE HST
      obtain ⟨a1, c1, rfl⟩ := st.shapeI 1 rfl
      obtain ⟨a2, c2, rfl⟩ := st.shapeI0
      simp only [List.length_map, HLN.out] at st ⊢
      go_wp2_with fail
      go_loopw [9] (fun v9 wr => ∃ (i : Nat) (M : _), i ≤ D ∧ v9 = .int .i64 i ∧ St w wr [SI (.slice a2 D c2) (((gr ss).wayOf j).map fun y => (y.2 : Int)), SI (.slice a1 D c1) (((gr ss).wayOf j).map fun y => (y.1 : Int)), MB (.slice (some ⟨w.heap.size, 0, none⟩) N N) N M] ∧ Hid ((gr ss).BeamM j i M)) (fun v9 _ => D - (intOf v9).toNat)
      case atStart => exact ⟨0, M, Nat.zero_le _, rfl, st, hM⟩
      case round =>
        clear st hM
        obtain ⟨i, M, hi, rfl, st, hM⟩ := hrel
        by_cases hil : i < D
        · have hil' : i < ((gr ss).wayOf j).length := by rw [HLN.out]; exact hil
          have hget : ((gr ss).wayOf j)[i]? = some ((gr ss).wayOf j)[i] := List.getElem?_eq_getElem hil'
          generalize ((gr ss).wayOf j)[i] = y at hget
          have hyv := Gr.way_val HOK.out hlt (List.mem_of_getElem? hget)
          have hcl := Gr.code_val HOK.out hyv
          rw [← HN.out] at hcl
          obtain ⟨b1, o1, rfl, h1⟩ := cellStt (f := fun y => y.1) st 1 rfl hget
          obtain ⟨b2, o2, rfl, h2⟩ := cellStt (f := fun y => y.2) st 0 rfl hget
          have HB2 := Lib.hid (Gr.BeamM.next HOK.out hM.out hlt hget)
          obtain ⟨h3, h4, s5⟩ := St.mark [_, _] [] st (codeS y) hcl
          have HS5 := Lib.hid s5
          have hk : 4 * (y.1 : Int) + (y.2 : Int) = ((codeS y : Nat) : Int) := by unfold codeS; omega
          have hy25 : y.1 < 25 := by have := hyv.1; omega
          have hy4 := hyv.2
          clear hget hyv s5 st hM hil'
          generalize codeS y = k at *
          try dsimp only at h1 h2
          go_wp2
          go_region
          all_goals
            go_wp2
            go_roundw
            case rel => exact ⟨i + 1, _, by omega, by go_num, HS5.out.dr ⟨1, rfl⟩, HB2.out⟩
            case measure => simp [intOf]; omega
        · obtain rfl : i = D := by omega
          have HS2 := Lib.hid st.drop0.drop0
          have hb2 := hM.out
          rw [← HLN.out] at hb2
          have HB2 := Lib.hid (Gr.BeamM.done HOK.out hb2)
          clear hM hb2 st
          go_wp2
          go_roundw
          case rel => exact ⟨j + 1, M, by omega, by go_num, HS2.out, HB2.out⟩
          case measure => simp [intOf]; omega
    · obtain rfl : j = (gr ss).ports := by omega
      go_wp2_with fail
      go_ret
      exact ⟨_, _, M, rfl, HST.out, Gr.BeamM.all HOK.out hM.out⟩
end Go.Proofs.Ytebcnfemkchfjaa
