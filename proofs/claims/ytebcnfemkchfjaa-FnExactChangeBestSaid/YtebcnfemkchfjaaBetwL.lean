/- Beams cross an odd number of times just if their ports do: plain facts. -/
import Derived.Test.YtebcnfemkchfjaaColL
namespace Go.Proofs.Ytebcnfemkchfjaa
set_option linter.unusedVariables false
set_option linter.unusedSimpArgs false
set_option linter.unusedSectionVars false

/-- The states of a beam, both ways. -/
noncomputable def Gr.beamC (g : Gr) (p : Nat) (x : Stt) : Bool := decide (x ∈ g.wayOf p) || decide (x ∈ g.wayOf (g.endOf p))

section
variable {g : Gr} (hg : g.ok)
include hg
theorem Gr.way_rev1 {p : Nat} (hp : p < g.ports) {x : Stt} (h : x ∈ g.wayOf p) : g.rev x ∈ g.wayOf (g.endOf p) := by
  obtain ⟨j, hj⟩ := (Gr.mem_way hg hp).1 h
  obtain ⟨K, y, hB⟩ := Gr.beam_of hg hp
  have hv := Gr.way_val hg hp h
  have hjK : j ≤ K := by
    apply Nat.le_of_not_lt
    intro hlt
    obtain ⟨z, hz⟩ := iter_lt hj (K + 1) hlt
    obtain ⟨z', hz', hzz⟩ := iter_pred hz
    rw [hB.way] at hz'
    cases hz'
    rw [hB.last] at hzz
    cases hzz
  have h1 := hB.way
  rw [show K = j + (K - j) by omega, iter_add, hj] at h1
  have h2 := (Gr.rvs hg).iter_back _ _ _ hv h1
  rw [Gr.mem_way hg (Gr.endOf_pair hg hp).1, Gr.endOf_eq hB, (Gr.ent_out hg (Gr.beam_val hg hp hB) hB.last).2]
  exact ⟨_, h2⟩
theorem Gr.way_nx {p : Nat} (hp : p < g.ports) {x y : Stt} (hx : g.val x) (e : g.nx x = some y) : y ∈ g.wayOf p ↔ x ∈ g.wayOf p := by
  rw [Gr.mem_way hg hp, Gr.mem_way hg hp]
  constructor
  · rintro ⟨j, hj⟩
    match j, hj with
    | 0, hj =>
      simp [iter] at hj
      subst hj
      exact absurd e (Gr.ent_no hg hp x hx)
    | j + 1, hj =>
      obtain ⟨z, hz, hzy⟩ := iter_pred hj
      have := (Gr.steps hg).inj z x y ((Gr.steps hg).iter_stay _ _ z (Gr.ent_val hg hp) hz) hx hzy e
      subst this
      exact ⟨j, hz⟩
  · rintro ⟨j, hj⟩
    refine ⟨j + 1, ?_⟩
    show (iter g.nx j (g.ent p)).bind g.nx = some y
    rw [hj]
    exact e
theorem Gr.beamC_curve {p : Nat} (hp : p < g.ports) : g.Curve (g.beamC p) where
  rev := fun x hx => by
    obtain ⟨h1, h2, h3⟩ := Gr.endOf_pair hg hp
    have a1 : x ∈ g.wayOf p → g.rev x ∈ g.wayOf (g.endOf p) := Gr.way_rev1 hg hp
    have a2 : x ∈ g.wayOf (g.endOf p) → g.rev x ∈ g.wayOf p := fun h => by
      have := Gr.way_rev1 hg h1 h
      rwa [h3] at this
    have a3 : g.rev x ∈ g.wayOf p → x ∈ g.wayOf (g.endOf p) := fun h => by
      have := Gr.way_rev1 hg hp h
      rwa [Gr.rev_rev hg hx] at this
    have a4 : g.rev x ∈ g.wayOf (g.endOf p) → x ∈ g.wayOf p := fun h => by
      have := Gr.way_rev1 hg h1 h
      rwa [h3, Gr.rev_rev hg hx] at this
    rw [Bool.eq_iff_iff]
    simp only [Gr.beamC, Bool.or_eq_true, decide_eq_true_iff]
    exact ⟨fun h => h.elim (fun h => .inr (a3 h)) (fun h => .inl (a4 h)), fun h => h.elim (fun h => .inr (a1 h)) (fun h => .inl (a2 h))⟩
  nx := fun x y hx e => by
    rw [Bool.eq_iff_iff]
    simp only [Gr.beamC, Bool.or_eq_true, decide_eq_true_iff]
    rw [Gr.way_nx hg hp hx e, Gr.way_nx hg (Gr.endOf_pair hg hp).1 hx e]
theorem Gr.ent_way {p t : Nat} (hp : p < g.ports) (ht : t < g.ports) : g.ent t ∈ g.wayOf p ↔ t = p := by
  rw [Gr.mem_way hg hp]
  constructor
  · rintro ⟨j, hj⟩
    exact ((Gr.way_apart hg hp ht hj (j := 0) rfl).1).symm
  · rintro rfl
    exact ⟨0, rfl⟩
theorem Gr.beamC_ent {p t : Nat} (hp : p < g.ports) (ht : t < g.ports) : g.beamC p (g.ent t) = (decide (t = p) || decide (t = g.endOf p)) := by
  rw [Bool.eq_iff_iff]
  simp only [Gr.beamC, Bool.or_eq_true, decide_eq_true_iff]
  rw [Gr.ent_way hg hp ht, Gr.ent_way hg (Gr.endOf_pair hg hp).1 ht]
theorem Gr.bcol_beam {p : Nat} (hp : p < g.ports) : ∀ t, t ≤ g.ports → g.bcol (g.beamC p) t = (decide (p < t) ^^ decide (g.endOf p < t)) := by
  have hne := (Gr.endOf_pair hg hp).2.1
  intro t
  induction t with
  | zero =>
    intro _
    unfold Gr.bcol
    rw [if_pos (Nat.zero_le _)]
    rfl
  | succ t ih =>
    intro ht
    have h := (Gr.bcol_port hg (Gr.beamC_curve hg hp) (t := t) (by omega)).1
    rw [ih (by omega), Gr.beamC_ent hg hp (by omega)] at h
    revert h
    generalize g.bcol (g.beamC p) (t + 1) = b
    by_cases e1 : p = t
    · subst e1
      by_cases e3 : g.endOf p < p
      · have : g.endOf p < p + 1 := by omega
        have : p ≠ g.endOf p := by omega
        cases b <;> simp [*]
      · have : ¬ g.endOf p < p + 1 := by omega
        cases b <;> simp [*]
    · by_cases e2 : g.endOf p = t
      · by_cases e3 : p < t
        · have : p < t + 1 := by omega
          have : ¬ t = p := by omega
          cases b <;> simp [*]
        · have : ¬ p < t + 1 := by omega
          have : ¬ t = p := by omega
          cases b <;> simp [*]
      · have h1 : (p < t + 1) = (p < t) := by simp; omega
        have h2 : (g.endOf p < t + 1) = (g.endOf p < t) := by simp; omega
        have h3 : ¬ t = p := by omega
        have h4 : ¬ t = g.endOf p := by omega
        simp only [h1, h2, h3, h4]
        cases b <;> simp
theorem Gr.ecol_beam {p q : Nat} (hp : p < g.ports) (hq : q < g.ports) (hne : p ≠ q) (hne2 : g.endOf p ≠ q) : g.ecol (g.beamC p) (g.ent q) = (decide (p < q) ^^ decide (g.endOf p < q)) := by
  rcases (Gr.bcol_port hg (Gr.beamC_curve hg hp) hq).2 with h | h
  · rw [h, Gr.bcol_beam hg hp q (by omega)]
  · rw [h, Gr.bcol_beam hg hp (q + 1) (by omega)]
    have h1 : (p < q + 1) = (p < q) := by simp; omega
    have h2 : (g.endOf p < q + 1) = (g.endOf p < q) := by simp; omega
    simp only [h1, h2]
/-- Along a whole beam that is no part of a curve. -/
theorem Gr.ecol_whole {C : Stt → Bool} (hC : g.Curve C) {q : Nat} (hq : q < g.ports) (hn : C (g.ent q) = false) :
    g.ecol C (g.ent (g.endOf q)) = (g.ecol C (g.ent q) ^^ decide (cntN (fun j => g.cr C ((iter g.nx j (g.ent q)).getD (g.ent q))) (g.lenOf q) % 2 = 1)) := by
  obtain ⟨K, y, hB⟩ := Gr.beam_of hg hq
  obtain ⟨h1, h2⟩ := Gr.ecol_way hg hC (Gr.ent_val hg hq) hn K y hB.way
  have hv := Gr.beam_val hg hq hB
  have h3 := Gr.ecol_cell hg hC hv h1
  rw [Gr.lenOf_eq hB, cntN_succ, hB.way, Option.getD_some, ← h3, Gr.endOf_eq hB, (Gr.ent_out hg hv hB.last).2]
  rw [h2] at h3 ⊢
  generalize cntN (fun j => g.cr C ((iter g.nx j (g.ent q)).getD (g.ent q))) K = w at *
  have hw : w % 2 = 0 ∨ w % 2 = 1 := by omega
  cases g.ecol C (g.rev y) <;> cases g.ecol C (g.ent q) <;> rcases hw with hw | hw <;> simp [hw] <;> omega
/-- Where a curve goes across at an empty cell. -/
theorem Gr.cr_iff {C : Stt → Bool} (hC : g.Curve C) {x : Stt} (hx : g.val x) (hn : C x = false) : g.cr C x = (g.sig x.1 == 46 && (C (x.1, 0) || C (x.1, 1) || C (x.1, 2) || C (x.1, 3))) := by
  have hi := Gr.row_lt hg hx.1
  have hk := Gr.col_lt hg x.1
  have hc := Gr.cell_eq hg x.1
  unfold Gr.cr
  cases hs : g.sig x.1 == 46
  · rfl
  · have hs2 : g.lt (x.1 / g.m) (x.1 % g.m) = 46 := beq_iff_eq.1 hs
    have h0 := Gr.pairs_at hg hC hi hk (d := 0) (by omega)
    have h1 := Gr.pairs_at hg hC hi hk (d := 1) (by omega)
    rw [hc, hs2] at h0 h1
    simp [bend, opp] at h0 h1
    have hd := hx.2
    have hd4 : x.2 = 0 ∨ x.2 = 1 ∨ x.2 = 2 ∨ x.2 = 3 := by omega
    have hx2 : x = (x.1, x.2) := rfl
    rw [hx2] at hn
    rcases hd4 with h | h | h | h <;> rw [h] at hn <;> simp only [across, h, Bool.true_and] <;> revert hn <;> rw [h0, h1] <;> simp <;> cases C (x.1, 0) <;> cases C (x.1, 1) <;> simp
theorem Gr.beamC_cell {p : Nat} (hp : p < g.ports) (c : Nat) : (g.beamC p (c, 0) || g.beamC p (c, 1) || g.beamC p (c, 2) || g.beamC p (c, 3)) = decide (0 < (g.wayI p).count (c : Int)) := by
  have h1 := (Gr.endOf_pair hg hp).1
  have key : ∀ q, q < g.ports → (0 < (g.wayI q).count (c : Int) ↔ ∃ d, d < 4 ∧ (c, d) ∈ g.wayOf q) := by
    intro q hq
    rw [List.count_pos_iff, Gr.wayI_eq, List.mem_map]
    constructor
    · rintro ⟨x, hx, e⟩
      refine ⟨x.2, (Gr.way_val hg hq hx).2, ?_⟩
      have : x.1 = c := by omega
      rw [← this]
      exact hx
    · rintro ⟨d, _, hd⟩
      exact ⟨_, hd, rfl⟩
  rw [Bool.eq_iff_iff, decide_eq_true_iff]
  simp only [Gr.beamC, Bool.or_eq_true, decide_eq_true_iff]
  constructor
  · intro h
    have h2 : (∃ d, d < 4 ∧ (c, d) ∈ g.wayOf p) ∨ (∃ d, d < 4 ∧ (c, d) ∈ g.wayOf (g.endOf p)) := by
      rcases h with (((h | h) | (h | h)) | (h | h)) | (h | h)
      · exact .inl ⟨0, by omega, h⟩
      · exact .inr ⟨0, by omega, h⟩
      · exact .inl ⟨1, by omega, h⟩
      · exact .inr ⟨1, by omega, h⟩
      · exact .inl ⟨2, by omega, h⟩
      · exact .inr ⟨2, by omega, h⟩
      · exact .inl ⟨3, by omega, h⟩
      · exact .inr ⟨3, by omega, h⟩
    rcases h2 with h2 | h2
    · exact (key p hp).2 h2
    · have := (key _ h1).2 h2
      rwa [Gr.count_back hg hp] at this
  · intro h
    obtain ⟨d, hd, h⟩ := (key p hp).1 h
    have : d = 0 ∨ d = 1 ∨ d = 2 ∨ d = 3 := by omega
    rcases this with rfl | rfl | rfl | rfl <;> simp [h]
/-- As often as the beams cross. -/
theorem Gr.cr_betw {p q : Nat} (hp : p < g.ports) (hq : q < g.ports) (hne : p ≠ q) (hne2 : g.endOf p ≠ q) :
    cntN (fun j => g.cr (g.beamC p) ((iter g.nx j (g.ent q)).getD (g.ent q))) (g.lenOf q) = g.betwN q p := by
  have hC := Gr.beamC_curve hg hp
  have hne3 : g.endOf q ≠ p := fun e => hne2 (by rw [← e, (Gr.endOf_pair hg hq).2.2])
  rw [← Gr.betwS_eq hg hq hp (fun e => hne e.symm) hne3]
  have hl : (g.wayI q).length = g.lenOf q := Gr.cellsTo_length _ _ _
  rw [hl]
  unfold cntN Gr.betwS
  refine sumN_congr fun j hj => ?_
  obtain ⟨x, hx, hx2⟩ := Gr.wayOf_get hg hq hj
  have hxc : (g.wayI q).getD j 0 = (x.1 : Int) := by
    rw [List.getD_eq_getElem?_getD, Gr.wayI_eq, List.getElem?_map, hx2]
    rfl
  have hxm : x ∈ g.wayOf q := List.mem_of_getElem? hx2
  have hxv := Gr.way_val hg hq hxm
  have hnx : g.beamC p x = false := by
    cases hb : g.beamC p x
    · rfl
    · simp only [Gr.beamC, Bool.or_eq_true, decide_eq_true_iff] at hb
      rcases hb with hb | hb
      · obtain ⟨i, hi⟩ := (Gr.mem_way hg hp).1 hb
        exact absurd (Gr.way_apart hg hp hq hi hx).1 hne
      · obtain ⟨i, hi⟩ := (Gr.mem_way hg (Gr.endOf_pair hg hp).1).1 hb
        exact absurd (Gr.way_apart hg (Gr.endOf_pair hg hp).1 hq hi hx).1 hne2
  have hcr : g.cr (g.beamC p) ((iter g.nx j (g.ent q)).getD (g.ent q)) = (g.sig x.1 == 46 && decide (0 < (g.wayI p).count (x.1 : Int))) := by
    rw [hx, Option.getD_some, Gr.cr_iff hg hC hxv hnx, Gr.beamC_cell hg hp]
  simp only [hcr, hxc, Int.toNat_natCast]
  have hb := Gr.count_both hg hp hq hne hne2 x.1
  have hq1 : 1 ≤ (g.wayI q).count (x.1 : Int) := by
    refine List.one_le_count_iff.2 ?_
    rw [Gr.wayI_eq]
    exact List.mem_map.2 ⟨x, hxm, rfl⟩
  generalize (g.wayI p).count (x.1 : Int) = a at *
  have ha : a = 0 ∨ a = 1 := by omega
  by_cases hs : g.sig x.1 = 46
  · rcases ha with rfl | rfl <;> simp [hs]
  · rcases ha with rfl | rfl <;> simp [hs]
theorem Gr.betw_comm (p q : Nat) : g.betwN p q = g.betwN q p := by
  unfold Gr.betwN
  refine cntN_congr fun c _ => ?_
  rw [Bool.and_comm (decide (0 < (g.wayI p).count (c : Int)))]
/-- Beams cross an odd number of times just if their ports do. -/
theorem Gr.betw_odd {p q : Nat} (hp : p < g.ports) (hq : q < g.ports) (hne : p ≠ q) (hne2 : g.endOf p ≠ q) :
    decide (g.betwN p q % 2 = 1) = ((decide (p < q) ^^ decide (g.endOf p < q)) != (decide (p < g.endOf q) ^^ decide (g.endOf p < g.endOf q))) := by
  have hC := Gr.beamC_curve hg hp
  obtain ⟨k1, k2, k3⟩ := Gr.endOf_pair hg hq
  obtain ⟨h1, h2, h3⟩ := Gr.endOf_pair hg hp
  have n1 : p ≠ g.endOf q := fun e => hne2 (by rw [e, k3])
  have n2 : g.endOf p ≠ g.endOf q := fun e => hne (by rw [← h3, e, k3])
  have hn : g.beamC p (g.ent q) = false := by
    rw [Gr.beamC_ent hg hp hq]
    simp [hne.symm, hne2.symm]
  have h := Gr.ecol_whole hg hC hq hn
  rw [Gr.cr_betw hg hp hq hne hne2, Gr.ecol_beam hg hp hq hne hne2, Gr.ecol_beam hg hp k1 n1 n2, ← Gr.betw_comm hg] at h
  rw [h]
  generalize (decide (p < q) ^^ decide (g.endOf p < q)) = a
  generalize decide (g.betwN p q % 2 = 1) = b
  cases a <;> cases b <;> rfl
end
theorem inner_iff {p a q : Nat} (hne : p ≠ q) (hne2 : a ≠ q) : (decide (p < q) ^^ decide (a < q)) = (decide (min p a < q) && decide (q < max p a)) := by
  by_cases h1 : p < q <;> by_cases h2 : a < q
  · have e1 : min p a < q := by omega
    have e2 : ¬ q < max p a := by omega
    simp [*]
  · have e1 : min p a < q := by omega
    have e2 : q < max p a := by omega
    simp [*]
  · have e1 : min p a < q := by omega
    have e2 : q < max p a := by omega
    simp [*]
  · have e1 : ¬ min p a < q := by omega
    simp [*]
end Go.Proofs.Ytebcnfemkchfjaa
