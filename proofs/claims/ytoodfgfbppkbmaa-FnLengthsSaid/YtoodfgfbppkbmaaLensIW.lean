/- Contract: the program's RoundLengths. -/
import Derived.Test.YtoodfgfbppkbmaaPdqW
import Derived.Test.YtoodfgfbppkbmaaLenL
import Derived.Test.YtoodfgfbppkbmaaAllPathsW
import Derived.Test.YtoodfgfbppkbmaaAfterW
namespace Go.Proofs.Ytoodfgfbppkbmaa
open Go.RowKit
set_option linter.unusedVariables false
set_option linter.unusedSimpArgs false

/-- The lengths of rounds, in order. -/
noncomputable def lensS (ss : List ByteArray) : List Int := if gridB ss = true then sortL ((gr ss).lens (4 * ((gr ss).n * (gr ss).m))) else []
theorem Apart.symm'' {s t : Seg} (h : Apart s t) : Apart t s := ⟨h.2, h.1⟩
theorem St.permL {w0 W : World} {a b : List Seg} (h : St w0 W a) (hp : a.Perm b) : St w0 W b :=
  ⟨h.below, fun s hs => h.own s (hp.mem_iff.2 hs), hp.pairwise h.apart Apart.symm''⟩
theorem St.subm' {w0 W : World} {a b : List Seg} (h : St w0 W a) (hs : List.Sublist b a) : St w0 W b :=
  ⟨h.below, fun s hs2 => h.own s (hs.subset hs2), h.apart.sublist hs⟩
theorem RL_cells {w : World} {base : Nat} {v : Value} {L : List Value} (h : (RL v L).own w base) (hne : L ≠ []) : ∃ g cap, v = .slice (some ⟨g, 0, none⟩) L.length cap ∧ ∀ j (hj : j < L.length), w.cell? ⟨g, j, none⟩ = some L[j] := by
  rcases id h.2 with ⟨h1, h2⟩ | ⟨g, cap, cur, h1, hb, hg, hnc, hcm, _⟩
  · exact absurd (List.eq_nil_of_length_eq_zero h2) hne
  · have h1 : v = .slice (some ⟨g, 0, none⟩) L.length cap := h1
    subst h1
    refine ⟨g, cap, rfl, fun j hj => ?_⟩
    have hc := World.ownsRow.cellAt h j (by show j < L.length * 1; omega)
    rw [hc]
    exact List.getElem?_eq_getElem hj
/-- The lengths of the rounds' lists. -/
theorem rounds_cells {w0 W : World} {g : Gr} {a : Option Addr} {n c : Nat} {Z : List (Value × Stt)} {pre : List Seg} (hg : g.ok) (st : St w0 W (pre ++ roundsS g (.slice a n c) Z)) {j : Nat} (hj : j < Z.length) :
    ∃ b, a = some ⟨b, 0, none⟩ ∧ ∃ a' c', W.cell? ⟨b, j, none⟩ = some (.slice a' (g.per Z[j].2) c') := by
  have h1 := st.own (RL (.slice a n c) (Z.map (·.1))) (by simp [roundsS])
  obtain ⟨b, cap, hv, hc⟩ := RL_cells h1 (by intro e; rw [List.map_eq_nil_iff] at e; subst e; simp at hj)
  cases hv
  have h2 := st.own (SStt Z[j].1 (g.roundOf Z[j].2)) (by
    refine List.mem_append_right _ (List.mem_cons_of_mem _ ?_)
    rw [List.mem_reverse]
    exact List.mem_map.2 ⟨Z[j], List.getElem_mem _, rfl⟩)
  obtain ⟨a', c', he, _⟩ := SStt_shape h2
  have h3 := hc j (by rw [List.length_map]; exact hj)
  rw [List.getElem_map, he, Gr.round_length hg] at h3
  exact ⟨b, rfl, a', c', h3⟩

set_option maxRecDepth 100000 in
set_option maxHeartbeats 4000000 in
theorem iRoundLengths_any (ao : Option Addr) (cap : Nat) (ss : List ByteArray) (w : World) (hx : CellsS w ao ss) (hm : ss.length ≤ maxLen) (hsz : ∀ s ∈ ss, s.size ≤ maxLen) :
    Calls Try.prog 20 #[.slice ao ss.length cap] w fun e w' => ∃ v, e = .returned (.tuple #[v, .bool (gridB ss)]) ∧ St w w' [SI v (lensS ss)] := by
  have STA := Lib.hid ((St.init w).addSeg (s := SI (.slice (some ⟨w.heap.size, 0, none⟩) 0 0) []) (World.ownsRow_made w #[] 0 (Nat.le_refl _) (Nat.zero_le _) rfl) ((Below.refl _ _).alloc (Nat.le_refl _) (.cells #[] 3)))
  have hx1 := STA.out.oldS hx
  have HGI := Lib.hid (iGridIn_any ao cap ss _ hx1 hm hsz)
  cases hg : gridB ss
  · have HG := Lib.hid hg
    have HP := Lib.hid (show lensS ss = [] by simp [lensS, hg])
    clear hg hx hx1 hsz
    go_enter Try.func20, Try.ntmps20
    go_wp2_with fail
    refine HGI.out.mono ?_
    rintro e w2 ⟨rfl, rfl⟩
    rw [HG.out]
    go_wp2
    go_ret2
    exact ⟨_, rfl, by rw [HP.out]; exact STA.out⟩
  · have hok := gr_ok hg
    have HG := Lib.hid hg
    have HOK := Lib.hid hok
    have hP : lensS ss = sortL ((gr ss).lens (4 * ((gr ss).n * (gr ss).m))) := by simp [lensS, hg]
    have HAP := Lib.hid (allPaths_any ao cap ss _ hx1 hg)
    have h12 := Gr.rmany_twelve hok
    have HLL := Lib.hid (Gr.lens_length (gr ss) (4 * ((gr ss).n * (gr ss).m)))
    clear hx hx1 hg hok hsz
    go_enter Try.func20, Try.ntmps20
    go_wp2_with fail
    refine HGI.out.mono ?_
    rintro e w2 ⟨rfl, rfl⟩
    rw [HG.out]
    go_wp2_with fail
    refine HAP.out.mono ?_
    rintro e w3 ⟨B, n, f, v, Z, rfl, stm, hz, -, -⟩
    obtain ⟨a, c, rfl⟩ := RL_shape (stm.st.own _ List.mem_cons_self)
    have st := (STA.out.join stm.st).permL List.perm_append_comm
    have hR : (Z.map (·.1)).length = Z.length := List.length_map _
    have hRl : Z.length = ((gr ss).lens (4 * ((gr ss).n * (gr ss).m))).length := by rw [HLL.out, ← hz, List.length_map]
    have HNX : Hid (∀ i (hi : i < Z.length), ((gr ss).lens (4 * ((gr ss).n * (gr ss).m))).take i ++ [((gr ss).per Z[i].2 : Int)] = ((gr ss).lens (4 * ((gr ss).n * (gr ss).m))).take (i + 1)) := fun i hi => by
      rw [List.take_succ_eq_append_getElem (by omega)]
      congr 2
      unfold Gr.lens
      simp only [← hz, List.getElem_map]
    have hRl2 : Z.length ≤ 12 := by
      rw [hRl, HLL.out]
      exact h12
    rw [hR] at st ⊢
    have HTK : Hid (∀ i, i ≤ Z.length → (((gr ss).lens (4 * ((gr ss).n * (gr ss).m))).take i).length = i) := fun i hi => by rw [List.length_take]; omega
    have HEND : Hid (((gr ss).lens (4 * ((gr ss).n * (gr ss).m))).take Z.length = (gr ss).lens (4 * ((gr ss).n * (gr ss).m))) := by show _ = _; rw [hRl, List.take_length]
    have HPL := Lib.hid hP
    have HRL := Lib.hid hRl
    clear hz stm hR hRl h12 hP HLL HAP HGI
    generalize (gr ss).lens (4 * ((gr ss).n * (gr ss).m)) = L at *
    have HST0 := Lib.hid st
    clear st STA
    go_wp2_with fail
    go_loopg [4, 21] Z.length (fun kk vo vi wr => ∃ (i : Nat) (g : Option Addr) (c' : Nat), kk + i = Z.length ∧ vi = .int .i64 i ∧ vo = .slice g i c' ∧ St w wr (SI (.slice g i c') (L.take i) :: roundsS (gr ss) (.slice a Z.length c) Z))
    case atStart => exact ⟨0, _, _, by omega, rfl, rfl, HST0.out⟩
    case round =>
      clear HST0
      obtain ⟨i, g, c', hi, rfl, rfl, st⟩ := hrel
      by_cases hlt : i < Z.length
      · obtain ⟨b, rfl, a', c2, hcell⟩ := rounds_cells (pre := [_]) HOK.out st hlt
        have HNX1 := Lib.hid (HNX.out i hlt)
        have HT0 := Lib.hid (HTK.out i (by omega))
        have HT1 := Lib.hid (HTK.out (i + 1) (by omega))
        generalize (gr ss).per Z[i].2 = P at *
        generalize (roundsS (gr ss) (.slice (some ⟨b, 0, none⟩) Z.length c) Z) = RS at *
        have HS8 := Lib.hid (st.step ((Below.refl _ _).alloc (Nat.le_refl _) (.cells #[.int .i64 (P : Int)] 3)))
        have HL9 : Hid ((L.take i).length ≤ 12) := by show _ ≤ _; rw [HT0.out]; omega
        clear st HNX
        generalize Z.length = R at *
        go_wp2_with (at_builtin; refine wpPushI _ rfl _ _ rfl w.heap.size _ _ (P : Int) _ rfl (HS8.out.own _ List.mem_cons_self) rfl (cell_one_new _ _ _) (by have := HL9.out; omega) ?_; intro v' w4 hbec; have s9 := HS8.out.became0 hbec; clear hbec)
        rw [HNX1.out] at s9
        obtain ⟨a9, c9, hv9⟩ := s9.shapeI 0 rfl
        rw [HT1.out] at hv9
        subst hv9
        have HS9 := Lib.hid s9
        clear s9 HS8
        go_wp2_with fail
        go_roundg (gk - 1)
        case rel => exact ⟨i + 1, a9, c9, by omega, by go_num, rfl, HS9.out⟩
        case measure => omega
      · obtain rfl : i = Z.length := by omega
        rw [HEND.out] at st
        have hL12 : L.length ≤ 12 := by rw [← HRL.out]; exact hRl2
        have st2 := st
        rw [HRL.out] at st2
        have HSO := Lib.hid (sort_any w wr _ g c' L st2 hL12)
        clear st st2 hL12
        clear HNX
        generalize hRS : (roundsS (gr ss) (.slice a Z.length c) Z) = RS at *
        rw [← HRL.out] at HSO
        clear hRS
        generalize Z.length = R at *
        go_wp2_with fail
        refine HSO.out.mono ?_
        rintro e w5 ⟨rfl, st5⟩
        have HS5 := Lib.hid (st5.subm' (List.singleton_sublist.2 List.mem_cons_self))
        clear st5 HSO
        go_wp2_with fail
        go_ret2
        exact ⟨_, rfl, by rw [HPL.out]; exact HS5.out⟩
end Go.Proofs.Ytoodfgfbppkbmaa
