/- Contracts: how often rounds go through cells (roundTimes, RoundTwice). -/
import Derived.Test.YtcigmmafmogmkaaAllPathsW
import Derived.Test.YtcigmmafmogmkaaTimesW
import Derived.Test.YtcigmmafmogmkaaCellW
import Derived.Test.YtcigmmafmogmkaaAfterW
import Derived.Test.YtcigmmafmogmkaaChordsTL
import Derived.Deep.LoopGhost
namespace Go.Proofs.Ytcigmmafmogmkaa
open Go.RowKit
set_option linter.unusedVariables false
set_option linter.unusedSimpArgs false

/-- How often states stand at the cells. -/
def cntL (n : Nat) (V : List Stt) : List Int := (List.range n).map fun (c : Nat) => (((V.map fun y => (y.1 : Int)).count (c : Int) : Nat) : Int)
theorem cntL_length (n : Nat) (V : List Stt) : (cntL n V).length = n := by simp [cntL]
theorem cntL_get {n : Nat} (V : List Stt) {c : Nat} (hc : c < n) : (cntL n V).getD c 0 = (((V.map fun y => (y.1 : Int)).count (c : Int) : Nat) : Int) := by
  simp [cntL, hc]
theorem cntL_nil (n : Nat) : cntL n [] = List.replicate n 0 := by
  apply List.ext_getElem
  · simp [cntL]
  · intro i h1 h2
    simp [cntL]
theorem cntL_snoc {n : Nat} (V : List Stt) {y : Stt} (hy : y.1 < n) : (cntL n V).set y.1 ((((V.map fun y => (y.1 : Int)).count (y.1 : Int) : Nat) : Int) + 1) = cntL n (V ++ [y]) := by
  apply List.ext_getElem
  · simp [cntL]
  · intro i h1 h2
    have hi : i < n := by simpa [cntL] using h2
    rw [List.getElem_set]
    by_cases e : y.1 = i
    · subst e
      rw [if_pos rfl]
      simp [cntL, List.count_append]
    · rw [if_neg e]
      have : ¬ (y.1 : Int) = (i : Int) := by omega
      simp [cntL, List.count_append, this]
theorem ApartT {s t : Seg} (h : Apart s t) : Apart t s := ⟨h.2, h.1⟩
theorem St.permT {w0 W : World} {a b : List Seg} (h : St w0 W a) (hp : a.Perm b) : St w0 W b :=
  ⟨h.below, fun s hs => h.own s (hp.mem_iff.2 hs), hp.pairwise h.apart ApartT⟩
theorem RL_cellsT {w : World} {base : Nat} {v : Value} {L : List Value} (h : (RL v L).own w base) (hne : L ≠ []) : ∃ g cap, v = .slice (some ⟨g, 0, none⟩) L.length cap ∧ ∀ j (hj : j < L.length), w.cell? ⟨g, j, none⟩ = some L[j] := by
  rcases id h.2 with ⟨h1, h2⟩ | ⟨g, cap, cur, h1, hb, hg, hnc, hcm, _⟩
  · exact absurd (List.eq_nil_of_length_eq_zero h2) hne
  · have h1 : v = .slice (some ⟨g, 0, none⟩) L.length cap := h1
    subst h1
    refine ⟨g, cap, rfl, fun j hj => ?_⟩
    have hc := World.ownsRow.cellAt h j (by show j < L.length * 1; omega)
    rw [hc]
    exact List.getElem?_eq_getElem hj
/-- The rounds' list and one of its lists. -/
theorem rounds_row {w0 W : World} {g : Gr} {a : Option Addr} {n c : Nat} {Z : List (Value × Stt)} {pre : List Seg} (st : St w0 W (pre ++ roundsS g (.slice a n c) Z)) {j : Nat} (hj : j < Z.length) :
    ∃ b, a = some ⟨b, 0, none⟩ ∧ W.cell? ⟨b, j, none⟩ = some Z[j].1 ∧ (SStt Z[j].1 (g.roundOf Z[j].2)).own W w0.heap.size := by
  have h1 := st.own (RL (.slice a n c) (Z.map (·.1))) (by simp [roundsS])
  obtain ⟨b, cap, hv, hc⟩ := RL_cellsT h1 (by intro e; rw [List.map_eq_nil_iff] at e; subst e; simp at hj)
  cases hv
  have h2 := st.own (SStt Z[j].1 (g.roundOf Z[j].2)) (by
    refine List.mem_append_right _ (List.mem_cons_of_mem _ ?_)
    rw [List.mem_reverse]
    exact List.mem_map.2 ⟨Z[j], List.getElem_mem _, rfl⟩)
  have h3 := hc j (by rw [List.length_map]; exact hj)
  rw [List.getElem_map] at h3
  exact ⟨b, rfl, h3, h2⟩
/-- The states of the first rounds. -/
noncomputable def Gr.sttTo (g : Gr) (Z : List (Value × Stt)) (i : Nat) : List Stt := (Z.take i).flatMap fun z => g.roundOf z.2
theorem Gr.sttTo_succ (g : Gr) (Z : List (Value × Stt)) {i : Nat} (hi : i < Z.length) : g.sttTo Z (i + 1) = g.sttTo Z i ++ g.roundOf Z[i].2 := by
  unfold Gr.sttTo
  rw [List.take_succ_eq_append_getElem hi, List.flatMap_append]
  simp

set_option maxRecDepth 100000 in
set_option maxHeartbeats 8000000 in
theorem roundTimes_any (ao : Option Addr) (cap : Nat) (ss : List ByteArray) (w : World) (hx : CellsS w ao ss) (hg : gridB ss = true) :
    Calls Try.prog 44 #[.slice ao ss.length cap] w fun e w' => ∃ v, e = .returned v ∧ St w w' [SI v (cntL ((gr ss).n * (gr ss).m) (((gr ss).repsTo (4 * ((gr ss).n * (gr ss).m))).flatMap (gr ss).roundOf))] := by
  have hok := gr_ok hg
  have h25 := Gr.size_le hok
  have HX := Lib.hid hx
  have HCE := Lib.hid (cells_any ao cap ss w hx hg)
  have HAP := Lib.hid fun W (h : CellsS W ao ss) => allPaths_any ao cap ss W h hg
  have HOK := Lib.hid hok
  have HTR := Lib.hid (Gr.reps_trv hok)
  have HRL : Hid (((gr ss).repsTo (4 * ((gr ss).n * (gr ss).m))).length ≤ 100) := by
    show _ ≤ _
    unfold Gr.repsTo
    refine Nat.le_trans (List.length_filter_le _ _) ?_
    rw [List.length_map, List.length_range]
    omega
  clear hx hg hok
  obtain ⟨R, hR⟩ : ∃ R, R = (gr ss).repsTo (4 * ((gr ss).n * (gr ss).m)) := ⟨_, rfl⟩
  rw [← hR] at HTR HRL HAP ⊢
  have HVV : Hid (∀ y, (gr ss).val y → y.1 < (gr ss).n * (gr ss).m ∧ y.2 < 4) := fun y hy => hy
  clear hR
  generalize (gr ss).n * (gr ss).m = NM at *
  go_enter Try.func44, Try.ntmps44
  go_wp2_with (first | (go_at_call 47; refine HCE.out.mono ?_; rintro e w' ⟨rfl, rfl⟩) | (at_make; refine wpMakeI _ rfl _ _ rfl w.heap.size NM _ _ _ _ rfl rfl rfl rfl (by omega) (Nat.le_refl _) ?_; intro w1 hown hgrow; have st1 := (St.init w).addSeg (s := SI _ _) hown (Below.of_grown hgrow (Nat.le_refl _) (by simp)); rw [← cntL_nil] at st1; have HST1 := Lib.hid st1; clear hown hgrow st1) | (go_at_call 52; refine (HAP.out _ (HST1.out.oldS HX.out)).mono ?_; rintro e w3 ⟨B, n, f, v, Z, rfl, stm, hz, -, -⟩; have HSM := Lib.hid stm; have HZ := Lib.hid hz; clear stm hz; obtain ⟨va, vc, hva⟩ := RL_shape (HSM.out.st.own _ List.mem_cons_self); subst hva))
  have hlz : (Z.map (·.1)).length = Z.length := List.length_map _
  have hzr : Z.length = R.length := by rw [← HZ.out, List.length_map]
  have hz100 : Z.length ≤ 100 := by rw [hzr]; exact HRL.out
  have st := (HST1.out.join HSM.out.st).permT List.perm_append_comm
  rw [hlz] at st
  have HALL : Hid ((gr ss).sttTo Z Z.length = R.flatMap (gr ss).roundOf) := by
    show _ = _
    unfold Gr.sttTo
    rw [List.take_length, ← HZ.out, List.flatMap_map]
  have HZM : Hid (∀ i (hi : i < Z.length), (gr ss).val Z[i].2 ∧ Cyc (gr ss).nx Z[i].2) := fun i hi => HTR.out.all _ (by rw [← HZ.out]; exact List.mem_map.2 ⟨Z[i], List.getElem_mem _, rfl⟩)
  have HST0 := Lib.hid st
  have H00 : Hid ((gr ss).sttTo Z 0 = []) := rfl
  clear st hlz hzr HSM HST1 HAP HCE HTR HRL
  have HBND : Hid (∀ i, i ≤ Z.length → ((gr ss).sttTo Z i).length ≤ 100 * i) := fun i => by
    induction i with
    | zero => intro _; exact Nat.le_refl _
    | succ i ih =>
      intro hi
      rw [Gr.sttTo_succ _ _ (by omega), List.length_append]
      have h1 := ih (by omega)
      have h2 := HZM.out i (by omega)
      have h3 := (Gr.per_spec HOK.out h2.1 h2.2).2.1
      rw [Gr.round_length HOK.out]
      omega
  go_loopg [20] Z.length (fun kk v20 wr => ∃ i : Nat, kk + i = Z.length ∧ v20 = .int .i64 i ∧ St w wr (SI (.slice (some ⟨w.heap.size, 0, none⟩) NM NM) (cntL NM ((gr ss).sttTo Z i)) :: roundsS (gr ss) (.slice va Z.length vc) Z))
  case atStart => exact ⟨0, by omega, rfl, by rw [H00.out]; exact HST0.out⟩
  case round =>
    clear HST0
    obtain ⟨i, hi, rfl, st⟩ := hrel
    generalize gk = ko at *
    by_cases hlt : i < Z.length
    · obtain ⟨b, rfl, hcell, hown⟩ := rounds_row (pre := [_]) st hlt
      obtain ⟨a', c', he, -, -⟩ := SStt_shape hown
      rw [he] at hcell
      have HROWC : Hid (∀ W xs, St w W (SI (.slice (some ⟨w.heap.size, 0, none⟩) NM NM) xs :: roundsS (gr ss) (.slice (some ⟨b, 0, none⟩) Z.length vc) Z) → CellsStt W a' ((gr ss).roundOf Z[i].2)) := fun W xs h => by
        obtain ⟨_, _, _, h2⟩ := rounds_row (pre := [_]) h hlt
        rw [he] at h2
        exact SStt_cells h2
      have hzi := HZM.out i hlt
      have hrl := Gr.round_length HOK.out Z[i].2
      have hp100 := (Gr.per_spec HOK.out hzi.1 hzi.2).2.1
      have HVY : Hid (∀ j, j < ((gr ss).roundOf Z[i].2).length → (((gr ss).roundOf Z[i].2).getD j (0, 0)).1 < NM ∧ ((gr ss).roundOf Z[i].2).take (j + 1) = ((gr ss).roundOf Z[i].2).take j ++ [((gr ss).roundOf Z[i].2).getD j (0, 0)]) := fun j hj => by
        have hm : ((gr ss).roundOf Z[i].2).getD j (0, 0) = ((gr ss).roundOf Z[i].2)[j] := by rw [List.getD_eq_getElem?_getD, List.getElem?_eq_getElem hj]; rfl
        rw [hm]
        obtain ⟨k, hk⟩ := (Gr.mem_round HOK.out hzi.1 hzi.2).1 (List.getElem_mem hj)
        exact ⟨(HVV.out _ ((Gr.steps HOK.out).iter_stay k _ _ hzi.1 hk)).1, List.take_succ_eq_append_getElem hj⟩
      have HNXT := Lib.hid (Gr.sttTo_succ (gr ss) Z hlt)
      have hbn := HBND.out i (by omega)
      have hr100 : ((gr ss).roundOf Z[i].2).length ≤ 100 := by rw [hrl]; exact hp100
      have HTKA : Hid (((gr ss).roundOf Z[i].2).take ((gr ss).roundOf Z[i].2).length = (gr ss).roundOf Z[i].2) := List.take_length
      have HST := Lib.hid st
      clear st hown he hzi hrl hp100
      generalize (gr ss).sttTo Z i = V at *
      generalize (gr ss).roundOf Z[i].2 = ROW at *
      generalize hRS : roundsS (gr ss) (.slice (some ⟨b, 0, none⟩) Z.length vc) Z = RS at *
      have HRS := Lib.hid hRS
      clear hRS
      go_wp2_with fail
      go_loopg [26] ROW.length (fun kk v26 wq => ∃ j : Nat, kk + j = ROW.length ∧ v26 = .int .i64 j ∧ St w wq (SI (.slice (some ⟨w.heap.size, 0, none⟩) NM NM) (cntL NM (V ++ ROW.take j)) :: RS))
      case atStart => exact ⟨0, by omega, rfl, by rw [List.take_zero, List.append_nil]; exact HST.out⟩
      case round =>
        clear HST hcell
        obtain ⟨j, hj, rfl, st⟩ := hrel
        by_cases hlt2 : j < ROW.length
        · obtain ⟨b2, o2, rfl, hc, hd⟩ := HROWC.out _ _ st j hlt2
          obtain ⟨hy1, htk⟩ := HVY.out j hlt2
          have HTK := Lib.hid htk
          generalize ROW.getD j (0, 0) = y at *
          have st2 := st.step ((Below.refl _ _).alloc (Nat.le_refl _) (.cells #[.int .i64 y.1, .int .i64 y.2] 63))
          obtain ⟨b3, o3, he3, hold⟩ := st2.cellAt 0 rfl (j := y.1) (by rw [cntL_length]; exact hy1)
          cases he3
          rw [cntL_get _ hy1, Nat.zero_add] at hold
          obtain ⟨-, hf, s3⟩ := st2.put0 y.1 (by rw [cntL_length]; exact hy1)
          have s3 := s3 ((((((V ++ ROW.take j).map fun y => (y.1 : Int)).count (y.1 : Int) : Nat)) : Int) + 1)
          rw [cntL_snoc _ hy1, List.append_assoc, ← htk] at s3
          have hcb : ((V ++ ROW.take j).map fun y => (y.1 : Int)).count (y.1 : Int) ≤ 20000 := by
            refine Nat.le_trans List.count_le_length ?_
            rw [List.length_map, List.length_append, List.length_take]
            omega
          have HS3 := Lib.hid s3
          clear s3 st st2 htk
          generalize ((V ++ ROW.take j).map fun y => (y.1 : Int)).count (y.1 : Int) = CN at *
          go_wp2
          go_roundg (gk - 1)
          case rel => exact ⟨j + 1, by omega, by go_num, HS3.out⟩
          case measure => omega
        · obtain rfl : j = ROW.length := by omega
          rw [HTKA.out, ← HNXT.out] at st
          have HST9 := Lib.hid st
          clear st
          go_wp2
          go_roundg (ko - 1)
          case rel => exact ⟨i + 1, by omega, by go_num, HST9.out⟩
          case measure => omega
    · obtain rfl : i = Z.length := by omega
      rw [HALL.out] at st
      have HST9 : Hid (St w _ [SI (.slice (some ⟨w.heap.size, 0, none⟩) NM NM) (cntL NM (R.flatMap (gr ss).roundOf))]) := (⟨st.below, fun s hs => st.own s (by rw [List.mem_singleton.1 hs]; exact List.mem_cons_self), List.pairwise_singleton _ _⟩ : St w _ [_])
      clear st
      go_wp2
      go_ret
      exact ⟨_, rfl, HST9.out⟩

/-- How many cells rounds go through twice. -/
noncomputable def Gr.rtwoN (g : Gr) : Nat := cntN (fun c => ((((g.repsTo (4 * (g.n * g.m))).flatMap g.roundOf).map fun y => (y.1 : Int)).count (c : Int)) == 2) (g.n * g.m)
set_option maxRecDepth 100000 in
set_option maxHeartbeats 4000000 in
theorem RoundTwice_any (ao : Option Addr) (cap : Nat) (ss : List ByteArray) (w : World) (hx : CellsS w ao ss) (hm : ss.length ≤ maxLen) (hsz : ∀ s ∈ ss, s.size ≤ maxLen) (hg : gridB ss = true) :
    Calls Try.prog 21 #[.slice ao ss.length cap] w fun e w' => e = .returned (.tuple #[.int .i64 ((gr ss).rtwoN : Nat), .bool true]) ∧ Below w.heap.size w w' := by
  have HGI := iGridIn_any ao cap ss w hx hm hsz
  rw [hg] at HGI
  have HGI := Lib.hid HGI
  have hok := gr_ok hg
  have h25 := Gr.size_le hok
  have HRT := Lib.hid (roundTimes_any ao cap ss w hx hg)
  have HN : Hid ((gr ss).rtwoN = cntN (fun c => (((((gr ss).repsTo (4 * ((gr ss).n * (gr ss).m))).flatMap (gr ss).roundOf).map fun y => (y.1 : Int)).count (c : Int)) == 2) ((gr ss).n * (gr ss).m)) := rfl
  have HLE : Hid (∀ i, i < (gr ss).n * (gr ss).m → ((((gr ss).repsTo (4 * ((gr ss).n * (gr ss).m))).flatMap (gr ss).roundOf).map fun y => (y.1 : Int)).count (i : Int) ≤ 100000 ∨ True) := fun _ _ => .inr trivial
  clear hx hsz hg hok HLE
  generalize ((gr ss).repsTo (4 * ((gr ss).n * (gr ss).m))).flatMap (gr ss).roundOf = V at *
  have HSU : Hid (∀ c, cntN (fun c => ((V.map fun y => (y.1 : Int)).count (c : Int)) == 2) (c + 1) = cntN (fun c => ((V.map fun y => (y.1 : Int)).count (c : Int)) == 2) c + if (((V.map fun y => (y.1 : Int)).count (c : Int)) == 2) = true then 1 else 0) := fun c => rfl
  have HCB : Hid (∀ c, cntN (fun c => ((V.map fun y => (y.1 : Int)).count (c : Int)) == 2) c ≤ c) := fun c => cntN_le _ _
  have H0 : Hid (cntN (fun c => ((V.map fun y => (y.1 : Int)).count (c : Int)) == 2) 0 = 0) := rfl
  generalize hcn : cntN (fun c => ((V.map fun y => (y.1 : Int)).count (c : Int)) == 2) = cn at *
  clear hcn
  generalize (gr ss).n * (gr ss).m = NM at *
  go_enter Try.func21, Try.ntmps21
  go_wp2_with fail
  refine HGI.out.mono ?_
  rintro e w2 ⟨rfl, rfl⟩
  go_wp2_with fail
  refine HRT.out.mono ?_
  rintro e w3 ⟨v, rfl, st⟩
  obtain ⟨a, c, rfl⟩ := st.shapeI0
  have HCL := Lib.hid (cntL_length NM V)
  rw [cntL_length] at st ⊢
  have HST := Lib.hid st
  clear st HRT HGI
  go_wp2_with fail
  go_loopg [4, 13] NM (fun kk v4 v13 wr => ∃ q : Nat, kk + q = NM ∧ v13 = .int .i64 q ∧ v4 = .int .i64 (cn q : Nat) ∧ wr = w3)
  case atStart => exact ⟨0, by omega, rfl, by rw [H0.out]; rfl, rfl⟩
  case round =>
    obtain ⟨q, hq, rfl, rfl, rfl⟩ := hrel
    have hcb := HCB.out q
    by_cases hlt : q < NM
    · obtain ⟨b, o, rfl, hc⟩ := HST.out.cellAt 0 rfl (j := q) (by rw [HCL.out]; exact hlt)
      rw [cntL_get _ hlt] at hc
      have hsu := HSU.out q
      generalize (V.map fun y => (y.1 : Int)).count (q : Int) = T at *
      have hT : ((T : Int) == 2) = (T == 2) := by rw [Bool.eq_iff_iff, beq_iff_eq, beq_iff_eq]; omega
      cases h2 : (T == 2)
      · rw [h2] at hsu hT
        have hn : cn (q + 1) = cn q := hsu
        have HN1 := Lib.hid hn
        clear hn hsu
        go_wp2
        go_roundg (gk - 1)
        case rel => exact ⟨q + 1, by omega, by go_num, by rw [HN1.out], by first | rfl | trivial⟩
        case measure => omega
      · rw [h2] at hsu hT
        have hn : cn (q + 1) = cn q + 1 := hsu
        have HN1 := Lib.hid hn
        clear hn hsu
        go_wp2
        go_roundg (gk - 1)
        case rel => exact ⟨q + 1, by omega, by go_num, by rw [HN1.out]; go_num, by first | rfl | trivial⟩
        case measure => omega
    · obtain rfl : q = NM := by omega
      go_wp2
      go_ret2
      exact ⟨by rw [HN.out]; rfl, HST.out.below⟩
end Go.Proofs.Ytcigmmafmogmkaa
