/- Contract: what l91Pairs draws: some list of so many numbers. -/
import Derived.Test.YtoabhbdglgmcdaaDrawGridL
import Derived.Test.YtoabhbdglgmcdaaStS
import Derived.Test.YtoabhbdglgmcdaaFill
namespace Go.Proofs.Ytoabhbdglgmcdaa
open Go.RowKit
set_option linter.unusedVariables false

def idL (k : Nat) : List Int := fillN (fun i => (i : Int)) k
theorem idL_succ (k : Nat) : idL k ++ [(k : Int)] = idL (k + 1) := by simp [idL, fillN, List.range_succ]
theorem idL_length (k : Nat) : (idL k).length = k := fillN_length _ _
theorem idL_bd (k : Nat) : ∀ x ∈ idL k, 0 ≤ x ∧ x < k := by
  intro x hx
  simp only [idL, fillN, List.mem_map, List.mem_range] at hx
  obtain ⟨i, hi, rfl⟩ := hx
  omega

theorem cells0 {W : World} {gl : Nat} {L : List Int} (h : CellsI W (some ⟨gl, 0, none⟩) L) : ∀ k, k < L.length → W.cell? ⟨gl, k, none⟩ = some (.int .i64 (L.getD k 0)) := by
  intro k hk
  obtain ⟨b', off', hab, hc, _⟩ := h.at hk
  cases hab
  have := hc k hk
  rwa [Nat.zero_add] at this
theorem news_take {W : World} {gl r : Nat} {L : List Int} (h : CellsI W (some ⟨gl, 0, none⟩) L) (hr : 1 + r ≤ L.length) :
    ∀ i u, (((L.drop 1).take r).map (Value.int .i64))[i]? = some u → W.cell? ((⟨gl, 1, none⟩ : Addr).add i) = some u := by
  intro i u hu
  rw [List.getElem?_map] at hu
  have hi : i < r := by
    have := (List.getElem?_eq_some_iff.1 (Option.map_eq_some_iff.1 hu).choose_spec.1).1
    simp at this; omega
  rw [Go.WideShapes.add_plain, cells0 h (1 + i) (by omega)]
  rw [← hu]
  simp [hi, show i + 1 < L.length by omega, Nat.add_comm 1 i]
theorem news_drop {W : World} {gl k : Nat} {L : List Int} (h : CellsI W (some ⟨gl, 0, none⟩) L) (hk : k ≤ L.length) :
    ∀ i u, ((L.drop k).map (Value.int .i64))[i]? = some u → W.cell? ((⟨gl, k, none⟩ : Addr).add i) = some u := by
  intro i u hu
  rw [List.getElem?_map] at hu
  have hi : i < L.length - k := by
    have := (List.getElem?_eq_some_iff.1 (Option.map_eq_some_iff.1 hu).choose_spec.1).1
    simpa using this
  rw [Go.WideShapes.add_plain, cells0 h (k + i) (by omega)]
  rw [← hu]
  simp [show k + i < L.length by omega]
/-- 's[k:]' at k = cap keeps the array's own address: nothing lies there. -/
theorem news_tail {gl k c : Nat} {L : List Int} (hk : k ≤ L.length) (hL : L.length ≤ c) :
    ∃ A, (if c = k then some (⟨gl, 0, none⟩ : Addr) else some ⟨gl, k, none⟩) = some A ∧
      ∀ W, CellsI W (some ⟨gl, 0, none⟩) L → ∀ i u, ((L.drop k).map (Value.int .i64))[i]? = some u → W.cell? (A.add i) = some u := by
  by_cases e : c = k
  · refine ⟨⟨gl, 0, none⟩, by rw [if_pos e], fun W _ i u hu => ?_⟩
    have : L.drop k = [] := List.drop_eq_nil_of_le (by omega)
    rw [this] at hu
    simp at hu
  · exact ⟨⟨gl, k, none⟩, by rw [if_neg e], fun W h => news_drop h hk⟩

/-- The length of a slice in a slot: a loop's measure. -/
def lenOf : Value → Nat | .slice _ n _ => n | _ => 0

theorem l91Pairs_any (w0 w : World) (post : List Seg) (g : Nat) (ao : Option Addr) (zs : List Int) (cap p P : Nat) (hy : CellsY w0 ao zs) (h : St w0 w (SR g ao zs.length cap p :: post))
    (hp : p ≤ 900000) (hz : zs.length ≤ 1000000) (hP : P ≤ 1000) (hP1 : 1 ≤ P) :
    Calls Try.prog 59 #[.pointer (some ⟨g, 0, none⟩), .int .i64 P] w fun e w' => ∃ v xs p', e = .returned v ∧ xs.length = P ∧ p' ≤ p + P + 2 ∧ St w0 w' (SI v xs :: SR g ao zs.length cap p' :: post) := by
  have hs := h.size
  go_enter Try.func59, Try.ntmps59
  go_wp2_with (at_make; refine wpMakeI _ rfl _ _ rfl w.heap.size P _ _ _ _ rfl rfl rfl rfl (by omega) (by simp) ?_; intro w1 hown hgrow)
  have hb1 : Below w.heap.size w w1 := Below.of_grown hgrow (Nat.le_refl _) (by simp)
  have st := h.add hown hb1
  generalize hG : w.heap.size = G at *
  have HG := Lib.hid hG
  clear hown hb1 hgrow h hG
  have st2 : St w0 (w1.alloc (.cells #[] 3)) (SI (.slice (some ⟨w1.heap.size, 0, none⟩) 0 0) (idL 0) :: SI (.slice (some ⟨G, 0, none⟩) P P) (List.replicate P 0) :: SR g ao zs.length cap p :: post) :=
    st.add (World.ownsRow_made w1 #[] 0 (Nat.le_refl _) (Nat.zero_le _) rfl) ((Below.refl _ _).alloc (Nat.le_refl _) _)
  go_loopw [6, 7] (fun v i wr => ∃ j : Nat, j ≤ P ∧ i = .int .i64 j ∧ St w0 wr (SI v (idL j) :: SI (.slice (some ⟨G, 0, none⟩) P P) (List.replicate P 0) :: SR g ao zs.length cap p :: post))
    (fun _ i _ => P - (intOf i).toNat)
  case atStart => exact ⟨0, Nat.zero_le _, rfl, st2⟩
  case round =>
    obtain ⟨j, hj, rfl, st⟩ := hrel
    clear st2
    by_cases hlt : j < P
    · have sta := st.step ((Below.refl _ _).alloc (Nat.le_refl _) (.cells #[.int .i64 j] 3))
      have HS := Lib.hid sta
      have HL := Lib.hid (idL_length j)
      have HI := Lib.hid (idL_succ j)
      clear st sta
      go_wp2_with (at_builtin; refine wpPushI _ rfl _ _ rfl w0.heap.size _ _ j _ rfl (HS.out.own _ List.mem_cons_self) rfl (cell_one_new _ _ _) (by rw [HL.out]; omega) ?_; intro v' w2 hbec)
      have st2 := HS.out.became0 hbec
      rw [HI.out] at st2
      have HS2 := Lib.hid st2
      clear hbec st2
      go_wp2
      go_roundw
      case rel => exact ⟨j + 1, by omega, by go_num, HS2.out⟩
      case measure => simp [intOf]; omega
    · obtain rfl : j = P := by omega
      go_wp2_with fail
      go_loopw [6] (fun v wr => ∃ (L xs : List Int) (q : Nat) (ao' : Option Addr) (c' : Nat), v = .slice ao' L.length c' ∧ L.length ≤ c' ∧ L.length ≤ j ∧ xs.length = j ∧ (∀ x ∈ L, 0 ≤ x ∧ x < j) ∧ q + L.length ≤ p + j ∧ St w0 wr (SI v L :: SI (.slice (some ⟨G, 0, none⟩) j j) xs :: SR g ao zs.length cap q :: post))
        (fun v _ => lenOf v)
      case atStart =>
        obtain ⟨a', c', rfl, hc, _⟩ := (st.get 0 rfl).shape
        exact ⟨idL j, List.replicate j 0, p, a', c', rfl, hc, by rw [idL_length]; omega, by simp, idL_bd j, by rw [idL_length]; omega, st⟩
      case round =>
        obtain ⟨L, xs, q, ao', c', rfl, hc', hLj, hxj, hbd, hq, st⟩ := hrel
        by_cases h1 : 1 < L.length
        · have hown := st.get 0 rfl
          obtain ⟨a2, c2, he, _, _, hcL, hltL, hfr⟩ := hown.shape
          obtain ⟨rfl, rfl⟩ : a2 = ao' ∧ c2 = c' := by cases he; exact ⟨rfl, rfl⟩
          obtain ⟨b', off', hab, _⟩ := hcL 0 (by omega)
          rcases hfr with ⟨h0, _⟩ | ⟨gl, rfl, _⟩
          · rw [h0] at hab; cases hab
          · have HST := Lib.hid st
            have HBD := Lib.hid hbd
            have HX := Lib.hid hxj
            clear st hown hcL hltL hab he hbd hxj
            go_wp2_with fail
            refine (pick_st w0 wr [_, _] post g ao zs cap q _ hy HST.out (by omega) hz (by omega) (by omega)).mono ?_
            rintro e W2 ⟨r, rfl, r0, r1, _, st2⟩
            have r1 := r1 (by omega)
            obtain ⟨r, rfl⟩ := Int.eq_ofNat_of_zero_le r0
            have hown := st2.get 0 rfl
            have hcL := hown.cells
            obtain ⟨b', off', hab, hcL, _⟩ := hcL.at (i := 0) (by omega)
            cases hab
            have hr2 : 1 + r < L.length := by omega
            have c0 := hcL 0 (by omega)
            have ck := hcL (1 + r) hr2
            rw [Nat.zero_add] at c0 ck
            have ea : 0 ≤ L.getD 0 0 ∧ L.getD 0 0 < j := HBD.out _ (by rw [List.getD_eq_getElem?_getD, List.getElem?_eq_getElem (show 0 < L.length by omega)]; simp)
            have eb : 0 ≤ L.getD (1 + r) 0 ∧ L.getD (1 + r) 0 < j := HBD.out _ (by rw [List.getD_eq_getElem?_getD, List.getElem?_eq_getElem hr2]; simp)
            generalize L.getD 0 0 = A at c0 ea
            generalize L.getD (1 + r) 0 = Bb at ck eb
            obtain ⟨A, rfl⟩ := Int.eq_ofNat_of_zero_le ea.1
            obtain ⟨Bb, rfl⟩ := Int.eq_ofNat_of_zero_le eb.1
            have ea := ea.2
            have eb := eb.2
            have hglG : gl ≠ G := st2.ne01 rfl rfl
            obtain ⟨⟨u1, k1⟩, f1, s1⟩ := st2.put1 A (by have := HX.out; omega)
            have s1 := s1 Bb
            obtain ⟨⟨u2, k2⟩, f2, s2⟩ := s1.put1 Bb (by rw [List.length_set]; have := HX.out; omega)
            have s2 := s2 A
            have HS2 := Lib.hid s2
            clear s1 s2 st2 hown hcL
            go_wp2_with fail
            generalize hW3 : (W2.setCell ⟨G, A, none⟩ (.int .i64 Bb)).setCell ⟨G, Bb, none⟩ (.int .i64 A) = W3 at HS2 ⊢
            clear hW3 k1 f1 k2 f2 c0 ck
            have HL' : Hid (∀ x ∈ (L.drop 1).take r ++ L.drop (1 + r + 1), 0 ≤ x ∧ x < (j : Int)) := by
              intro x hx
              rcases List.mem_append.1 hx with hx | hx
              · exact HBD.out x (List.mem_of_mem_drop (List.mem_of_mem_take hx))
              · exact HBD.out x (List.mem_of_mem_drop hx)
            obtain ⟨AD2, hAD2, hn2⟩ := news_tail (gl := gl) (k := 1 + r + 1) (c := c2) (L := L) (by omega) hc'
            have HA := Lib.hid hAD2
            have HN := Lib.hid hn2
            have sta := (HS2.out.addSeg (s := SI (.slice (some ⟨W3.heap.size, 0, none⟩) 0 0) []) (World.ownsRow_made W3 #[] 0 (Nat.le_refl _) (Nat.zero_le _) rfl) ((Below.refl _ _).alloc (Nat.le_refl _) (.cells #[] 3))).dr ⟨1, rfl⟩
            have HSA := Lib.hid sta
            clear hAD2 hn2 sta
            have i1 : (1 : Int) ≤ 1 + (r : Int) := by omega
            have i2 : (1 : Int) + r ≤ L.length := by omega
            have i3 : (L.length : Int) ≤ c2 := by omega
            have i4 : (1 : Int) + r + 1 ≤ L.length := by omega
            have i5 : (1 : Int) + r ≤ c2 := by omega
            have e1 : IntKind.i64.wrap (1 + (r : Int) + 1) = 1 + (r : Int) + 1 := IntWalk.i64_in _ (by omega)
            have e2 : (1 + (r : Int) + 1).toNat = 1 + r + 1 := by omega
            have e3 : (0 : Int) ≤ 1 + (r : Int) + 1 := by omega
            have n1 : ¬ c2 = 1 := by omega
            have e0 : (1 + (r : Int)).toNat = 1 + r := by omega
            have HLr : Hid (((L.drop 1).take r).length = r) := by show _ = _; simp; omega
            have HLd : Hid ((L.drop (1 + r + 1)).length = L.length - (1 + r + 1)) := by show _ = _; simp
            go_region_law (first
              | (refine step_appendSt elemI rfl (.tmp 47) (.tmp 50) rfl w0.heap.size (SI (.slice (some ⟨W3.heap.size, 0, none⟩) 0 0) []) rfl rfl rfl (HSA.out.own _ List.mem_cons_self) _ ⟨gl, 1, none⟩ _ _ (((L.drop 1).take r).map (Value.int .i64)) rfl rfl ?_ ?_ (ints_one _) ?_ ?_ ?_
                 · simp only [List.length_map, Nat.mul_one]; exact HLr.out
                 · exact news_take (HSA.out.cells 1 rfl) (by omega)
                 · simp only [SI]; unfold maxLen; simp; omega
                 · simp only [SI]; simp; omega
                 intro v1 w4 hb1
                 have HB1 := Lib.hid (HSA.out.became0 hb1)
                 clear hb1)
              | (refine step_appendSt elemI rfl (.tmp 51) (.tmp 55) rfl w0.heap.size _ rfl rfl rfl (HB1.out.own _ List.mem_cons_self) _ AD2 _ _ ((L.drop (1 + r + 1)).map (Value.int .i64)) rfl HA.out ?_ ?_ (ints_one _) ?_ ?_ ?_
                 · simp only [List.length_map, Nat.mul_one]; exact HLd.out
                 · exact HN.out _ (HB1.out.cells 1 rfl)
                 · simp only [SI]; unfold maxLen; simp; omega
                 · simp only [SI]; simp; omega
                 intro v2 w5 hb2
                 have HB2 := Lib.hid (HB1.out.became0 hb2)
                 clear hb2))
            all_goals
              have e9 : (⟨v2, 3, 1, 0 + r + (L.length - (1 + r + 1)), ([] ++ ((L.drop 1).take r).map (Value.int .i64)) ++ (L.drop (1 + r + 1)).map (Value.int .i64)⟩ : Seg) = SI v2 ((L.drop 1).take r ++ L.drop (1 + r + 1)) := by
                simp only [SI, List.nil_append, List.length_append, HLr.out, HLd.out, List.map_append, Nat.zero_add]
              have s5 : St w0 w5 (SI v2 ((L.drop 1).take r ++ L.drop (1 + r + 1)) :: SI (.slice (some ⟨G, 0, none⟩) j j) ((xs.set A Bb).set Bb A) :: SR g ao zs.length cap (q + 1) :: post) := by
                rw [← e9]; exact HB2.out.drop1
              have hl9 : ((L.drop 1).take r ++ L.drop (1 + r + 1)).length = r + (L.length - (1 + r + 1)) := by rw [List.length_append, HLr.out, HLd.out]
              obtain ⟨a5, c5, rfl, hc5, _⟩ := (s5.get 0 rfl).shape
              generalize (L.drop 1).take r ++ L.drop (1 + r + 1) = L' at s5 hl9 hc5 HL'
              have hx9 : ((xs.set A Bb).set Bb A).length = j := by rw [List.length_set, List.length_set]; exact HX.out
              generalize (xs.set A (Bb : Int)).set Bb (A : Int) = xs' at s5 hx9
              have H9 := Lib.hid s5
              have h9 : L'.length + 2 = L.length := by omega
              have HL9 := Lib.hid h9
              have HX9 := Lib.hid hx9
              clear s5 hl9 hx9 e9 HB2 HB1 HSA e1 e2 e0 n1 HA HN HLr HLd h9 i1 i2 i3 i4 i5 e3
              go_wp2
              all_goals
               refine ⟨⟨L', xs', q + 1, a5, c5, ⟨rfl, rfl, rfl⟩, hc5, by have := HL9.out; omega, HX9.out, HL'.out, by have := HL9.out; omega, H9.out⟩, ?_⟩
               simp [lenOf]; have := HL9.out; omega
        · have HX := Lib.hid hxj
          have st9 := st.drop0
          clear hbd hxj st
          go_wp2_with fail
          refine (pick_st w0 wr [_] post g ao zs cap q _ hy st9 (by omega) hz (by omega) (by omega)).mono ?_
          rintro e W2 ⟨r, rfl, r0, r1, _, st2⟩
          have r1 := r1 (by omega)
          by_cases hr0 : r = 0
          · subst hr0
            clear st9
            go_wp2_with fail
            refine (pick_st w0 W2 [_] post g ao zs cap _ _ hy st2 (by omega) hz (by omega) (by omega)).mono ?_
            rintro e W3 ⟨r9, rfl, _, _, _, st3⟩
            obtain ⟨⟨u1, k1⟩, f1, s1⟩ := st3.put0 0 (by have := HX.out; omega)
            have s1 := s1 r9
            have H9 := Lib.hid s1
            clear s1 st2 st3
            go_wp2_with fail
            go_ret
            exact ⟨_, _, _, rfl, by rw [List.length_set]; exact HX.out, by omega, H9.out⟩
          · have hr1 : (r == 0) = false := by simp [hr0]
            clear hr0 st9
            go_wp2_with fail
            go_ret
            exact ⟨_, _, _, rfl, HX.out, by omega, st2⟩
end Go.Proofs.Ytoabhbdglgmcdaa
