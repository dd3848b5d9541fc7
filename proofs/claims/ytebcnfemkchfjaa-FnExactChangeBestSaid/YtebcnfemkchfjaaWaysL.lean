/- The ways of beams: each state on one at most, each cell twice at most: plain facts. -/
import Derived.Test.YtebcnfemkchfjaaTimesL
import Derived.Test.YtebcnfemkchfjaaSumL
namespace Go.Proofs.Ytebcnfemkchfjaa
set_option linter.unusedVariables false
set_option linter.unusedSimpArgs false
set_option linter.unusedSectionVars false

section
variable {g : Gr} (hg : g.ok)
include hg
theorem Gr.mem_way {p : Nat} (hp : p < g.ports) {x : Stt} : x ∈ g.wayOf p ↔ ∃ j, iter g.nx j (g.ent p) = some x := by
  obtain ⟨K, y, hB⟩ := Gr.beam_of hg hp
  simp only [Gr.wayOf, Gr.wayTo, Gr.lenOf_eq hB, List.mem_map, List.mem_range]
  constructor
  · rintro ⟨i, hi, rfl⟩
    obtain ⟨z, hz⟩ := iter_lt hB.way i (by omega)
    exact ⟨i, by rw [hz]; rfl⟩
  · rintro ⟨j, hj⟩
    refine ⟨j, ?_, by rw [hj]; rfl⟩
    apply Nat.lt_of_not_le
    intro hle
    obtain ⟨z, hz⟩ := iter_lt hj (K + 1) hle
    obtain ⟨z', hz', hzz⟩ := iter_pred hz
    rw [hB.way] at hz'
    cases hz'
    rw [hB.last] at hzz
    cases hzz
theorem Gr.way_val {p : Nat} (hp : p < g.ports) {x : Stt} (h : x ∈ g.wayOf p) : g.val x := by
  obtain ⟨j, hj⟩ := (Gr.mem_way hg hp).1 h
  exact (Gr.steps hg).iter_stay j _ x (Gr.ent_val hg hp) hj
theorem Gr.ent_inj {p q : Nat} (hp : p < g.ports) (hq : q < g.ports) (h : g.ent p = g.ent q) : p = q := by
  rw [← (Gr.out_ent hg hp).2, h, (Gr.out_ent hg hq).2]
/-- Where the ways of two ports meet the ports are one. -/
theorem Gr.way_apart {p q i j : Nat} (hp : p < g.ports) (hq : q < g.ports) {x : Stt} (hi : iter g.nx i (g.ent p) = some x) (hj : iter g.nx j (g.ent q) = some x) : p = q ∧ i = j := by
  have key : ∀ {p q i d : Nat} {x : Stt}, p < g.ports → q < g.ports → iter g.nx i (g.ent p) = some x → iter g.nx (i + d) (g.ent q) = some x → p = q ∧ d = 0 := by
    intro p q i d x hp hq hi hj
    have h := (Gr.steps hg).back i _ _ x (Gr.ent_val hg hp) (Gr.ent_val hg hq) d hi hj
    match d, h with
    | 0, h =>
      simp [iter] at h
      exact ⟨(Gr.ent_inj hg hq hp h).symm, rfl⟩
    | d + 1, h =>
      obtain ⟨z, hz, hzx⟩ := iter_pred h
      exact absurd hzx (Gr.ent_no hg hp z ((Gr.steps hg).iter_stay _ _ z (Gr.ent_val hg hq) hz))
  by_cases h : i ≤ j
  · rw [show j = i + (j - i) by omega] at hj
    have := key hp hq hi hj
    exact ⟨this.1, by omega⟩
  · rw [show i = j + (i - j) by omega] at hi
    have := key hq hp hj hi
    exact ⟨this.1.symm, by omega⟩
theorem Gr.wayOf_length (p : Nat) : (g.wayOf p).length = g.lenOf p := Gr.wayTo_length _ _ _
theorem Gr.wayOf_get {p i : Nat} (hp : p < g.ports) (hi : i < g.lenOf p) : ∃ x, iter g.nx i (g.ent p) = some x ∧ (g.wayOf p)[i]? = some x := by
  obtain ⟨K, y, hB⟩ := Gr.beam_of hg hp
  rw [Gr.lenOf_eq hB] at hi
  obtain ⟨z, hz⟩ := iter_lt hB.way i (by omega)
  refine ⟨z, hz, ?_⟩
  simp [Gr.wayOf, Gr.wayTo, Gr.lenOf_eq hB, hi, hz]
theorem Gr.way_nodup {p : Nat} (hp : p < g.ports) : (g.wayOf p).Nodup := by
  rw [List.nodup_iff_pairwise_ne, List.pairwise_iff_getElem]
  intro i j hi0 hj0 hij e
  have hi := hi0
  have hj := hj0
  rw [Gr.wayOf_length hg] at hi hj
  obtain ⟨x, hx, hx2⟩ := Gr.wayOf_get hg hp hi
  obtain ⟨y, hy, hy2⟩ := Gr.wayOf_get hg hp hj
  rw [List.getElem?_eq_getElem hi0] at hx2
  rw [List.getElem?_eq_getElem hj0] at hy2
  have h1 := Option.some.inj hx2
  have h2 := Option.some.inj hy2
  rw [e, h2] at h1
  subst h1
  have := Gr.way_apart hg hp hp hx hy
  omega
theorem Gr.ways_nodup : ∀ (ps : List Nat), ps.Nodup → (∀ p ∈ ps, p < g.ports) → (ps.flatMap g.wayOf).Nodup := by
  intro ps
  induction ps with
  | nil => intro _ _; simp
  | cons p ps ih =>
    intro hd hp
    have hd2 := List.nodup_cons.1 hd
    have hpp := hp p (by simp)
    rw [List.flatMap_cons, List.nodup_append]
    refine ⟨Gr.way_nodup hg hpp, ih hd2.2 fun q hq => hp q (by simp [hq]), ?_⟩
    rintro x hx y hy rfl
    obtain ⟨q, hq, hyq⟩ := List.mem_flatMap.1 hy
    have hqq := hp q (by simp [hq])
    obtain ⟨i, hi⟩ := (Gr.mem_way hg hpp).1 hx
    obtain ⟨j, hj⟩ := (Gr.mem_way hg hqq).1 hyq
    have := (Gr.way_apart hg hpp hqq hi hj).1
    subst this
    exact hd2.1 hq
/-- How often the ways of several ports go through a cell. -/
theorem cell_count {L : List Stt} (hd : L.Nodup) (hv : ∀ x ∈ L, x.2 < 4) (c : Nat) : (L.map fun y => (y.1 : Int)).count (c : Int) ≤ 4 := by
  have e : (L.map fun y => (y.1 : Int)).count (c : Int) = (L.filter fun y => y.1 == c).length := by
    rw [List.count_eq_countP, List.countP_map, List.countP_eq_length_filter]
    congr 1
    refine List.filter_congr fun x _ => ?_
    show ((x.1 : Int) == (c : Int)) = (x.1 == c)
    rw [Bool.eq_iff_iff, beq_iff_eq, beq_iff_eq]
    omega
  rw [e, ← List.length_map (f := fun y : Stt => y.2)]
  refine nodup_bound 4 _ ?_ fun d hd2 => ?_
  · rw [List.nodup_iff_pairwise_ne, List.pairwise_map]
    refine List.Pairwise.imp_of_mem ?_ (List.nodup_iff_pairwise_ne.1 (hd.filter _))
    intro a b ha hb hne h
    have h1 : a.1 = c := beq_iff_eq.1 (List.mem_filter.1 ha).2
    have h2 : b.1 = c := beq_iff_eq.1 (List.mem_filter.1 hb).2
    exact hne (Prod.ext (by rw [h1, h2]) h)
  · obtain ⟨x, hx, rfl⟩ := List.mem_map.1 hd2
    exact hv x (List.mem_filter.1 hx).1
theorem Gr.count_ports (ps : List Nat) (hd : ps.Nodup) (hp : ∀ p ∈ ps, p < g.ports) (c : Nat) : (ps.map fun p => (g.wayI p).count (c : Int)).sum ≤ 4 := by
  have h1 := cell_count hg (Gr.ways_nodup hg ps hd hp) (fun x hx => by
    obtain ⟨p, hp1, hx⟩ := List.mem_flatMap.1 hx
    exact (Gr.way_val hg (hp p hp1) hx).2) c
  have e : ∀ ps : List Nat, ((ps.flatMap g.wayOf).map fun y => (y.1 : Int)).count (c : Int) = (ps.map fun p => (g.wayI p).count (c : Int)).sum := by
    intro ps
    induction ps with
    | nil => simp
    | cons p ps ih => rw [List.flatMap_cons, List.map_append, List.count_append, ih]; simp [Gr.wayI_eq]
  rw [e] at h1
  exact h1
/-- The way back. -/
theorem Gr.len_back {p : Nat} (hp : p < g.ports) : g.lenOf (g.endOf p) = g.lenOf p := by
  obtain ⟨K, y, hB⟩ := Gr.beam_of hg hp
  rw [Gr.endOf_eq hB, Gr.lenOf_eq hB, Gr.lenOf_eq (Gr.beam_back hg hp hB).2]
theorem Gr.way_back {p : Nat} (hp : p < g.ports) : g.wayI (g.endOf p) = (g.wayI p).reverse := by
  obtain ⟨K, y, hB⟩ := Gr.beam_of hg hp
  have hb := Gr.beam_back hg hp hB
  have hl : ∀ q, (g.wayI q).length = g.lenOf q := fun q => Gr.cellsTo_length _ _ _
  apply List.ext_getElem?
  intro i
  by_cases hi : i < K + 1
  · rw [List.getElem?_reverse (by rw [hl, Gr.lenOf_eq hB]; exact hi), hl, Gr.lenOf_eq hB]
    have hq : g.endOf p < g.ports := (Gr.endOf_pair hg hp).1
    obtain ⟨x, hx, hx2⟩ := Gr.wayOf_get hg hq (i := i) (by rw [Gr.len_back hg hp, Gr.lenOf_eq hB]; exact hi)
    obtain ⟨z, hz, hz2⟩ := Gr.wayOf_get hg hp (i := K + 1 - 1 - i) (by rw [Gr.lenOf_eq hB]; omega)
    rw [Gr.wayI_eq, Gr.wayI_eq, List.getElem?_map, List.getElem?_map, hx2, hz2]
    have hz3 : iter g.nx i z = some y := by
      have := hB.way
      rw [show K = (K + 1 - 1 - i) + i by omega, iter_add, hz] at this
      exact this
    have hzv := (Gr.steps hg).iter_stay _ _ z (Gr.ent_val hg hp) hz
    have h4 := (Gr.rvs hg).iter_back i z y hzv hz3
    have he : g.ent (g.endOf p) = g.rev y := by
      rw [Gr.endOf_eq hB]
      exact (Gr.ent_out hg (Gr.beam_val hg hp hB) hB.last).2
    rw [he, h4] at hx
    have := Option.some.inj hx
    rw [← this]
    rfl
  · rw [List.getElem?_eq_none (by rw [hl, Gr.len_back hg hp, Gr.lenOf_eq hB]; omega), List.getElem?_eq_none (by rw [List.length_reverse, hl, Gr.lenOf_eq hB]; omega)]
theorem Gr.count_back {p : Nat} (hp : p < g.ports) (c : Int) : (g.wayI (g.endOf p)).count c = (g.wayI p).count c := by
  rw [Gr.way_back hg hp, List.count_reverse]
theorem Gr.count_two {p : Nat} (hp : p < g.ports) (c : Nat) : (g.wayI p).count (c : Int) ≤ 2 := by
  obtain ⟨h1, h2, _⟩ := Gr.endOf_pair hg hp
  have := Gr.count_ports hg [p, g.endOf p] (by simp [h2.symm]) (by simp [hp, h1]) c
  simp [Gr.count_back hg hp] at this
  omega
theorem Gr.count_both {p q : Nat} (hp : p < g.ports) (hq : q < g.ports) (hne : p ≠ q) (hne2 : g.endOf p ≠ q) (c : Nat) : (g.wayI p).count (c : Int) + (g.wayI q).count (c : Int) ≤ 2 := by
  obtain ⟨h1, h2, h3⟩ := Gr.endOf_pair hg hp
  obtain ⟨k1, k2, k3⟩ := Gr.endOf_pair hg hq
  have n1 : p ≠ g.endOf q := fun e => hne2 (by rw [e, k3])
  have n2 : g.endOf p ≠ g.endOf q := fun e => hne (by rw [← h3, e, k3])
  have := Gr.count_ports hg [p, g.endOf p, q, g.endOf q] (by simp [h2.symm, k2.symm, hne, hne2, n1, n2]) (by simp [hp, hq, h1, k1]) c
  simp [Gr.count_back hg hp, Gr.count_back hg hq] at this
  omega
theorem Gr.wayI_range {p : Nat} (hp : p < g.ports) : ∀ j, j < (g.wayI p).length → ∃ c : Nat, (g.wayI p).getD j 0 = c ∧ c < g.n * g.m := by
  intro j hj
  have hl : (g.wayI p).length = g.lenOf p := Gr.cellsTo_length _ _ _
  obtain ⟨x, hx, hx2⟩ := Gr.wayOf_get hg hp (i := j) (by omega)
  refine ⟨x.1, ?_, ((Gr.steps hg).iter_stay _ _ x (Gr.ent_val hg hp) hx).1⟩
  rw [List.getD_eq_getElem?_getD, Gr.wayI_eq, List.getElem?_map, hx2]
  rfl
theorem Gr.wayI_length {p : Nat} (hp : p < g.ports) : (g.wayI p).length ≤ 100 := by
  obtain ⟨K, y, hB⟩ := Gr.beam_of hg hp
  have hl : (g.wayI p).length = g.lenOf p := Gr.cellsTo_length _ _ _
  have := hB.lt
  rw [hl, Gr.lenOf_eq hB]
  omega

omit hg in
theorem self_aux (s : Int) (q : Nat) (h : q ≤ 2) : (q * if s = 46 then q - 1 else 0) = 2 * if (q == 2 && s == 46) = true then 1 else 0 := by
  have : q = 0 ∨ q = 1 ∨ q = 2 := by omega
  by_cases hs : s = 46
  · rcases this with rfl | rfl | rfl <;> simp [hs]
  · rcases this with rfl | rfl | rfl <;> simp [hs]
omit hg in
theorem betw_aux (s : Int) (a b : Nat) (h : a + b ≤ 2) : (a * if s = 46 then b else 0) = if (decide (0 < a) && decide (0 < b) && s == 46) = true then 1 else 0 := by
  have hb : b = 0 ∨ b = 1 ∨ b = 2 := by omega
  have ha : a = 0 ∨ a = 1 ∨ a = 2 := by omega
  by_cases hs : s = 46
  · rcases ha with rfl | rfl | rfl <;> rcases hb with rfl | rfl | rfl <;> (first | (simp [hs]; done) | omega)
  · rcases ha with rfl | rfl | rfl <;> rcases hb with rfl | rfl | rfl <;> simp [hs]
/-- At how many empty cells a beam crosses itself. -/
noncomputable def Gr.selfN (g : Gr) (p : Nat) : Nat := cntN (fun c => (g.wayI p).count (c : Int) == 2 && g.sig c == 46) (g.n * g.m)
/-- What the spec sums up. -/
noncomputable def Gr.selfS (g : Gr) (p k : Nat) : Nat := sumN (fun i => if g.sig ((g.wayI p).getD i 0).toNat = 46 then (g.wayI p).count (((g.wayI p).getD i 0).toNat : Int) - 1 else 0) k
theorem Gr.selfS_eq {p : Nat} (hp : p < g.ports) : g.selfS p (g.wayI p).length = 2 * g.selfN p := by
  unfold Gr.selfS Gr.selfN cntN
  rw [sum_count (fun c => if g.sig c = 46 then (g.wayI p).count (c : Int) - 1 else 0) (g.n * g.m) _ (Gr.wayI_range hg hp) _ (Nat.le_refl _), List.take_length, ← sumN_mul]
  exact sumN_congr fun c hc => self_aux (g.sig c) _ (Gr.count_two hg hp c)
/-- At how many empty cells two beams cross. -/
noncomputable def Gr.betwN (g : Gr) (p q : Nat) : Nat := cntN (fun c => decide (0 < (g.wayI p).count (c : Int)) && decide (0 < (g.wayI q).count (c : Int)) && g.sig c == 46) (g.n * g.m)
noncomputable def Gr.betwS (g : Gr) (p q k : Nat) : Nat := sumN (fun i => if g.sig ((g.wayI p).getD i 0).toNat = 46 then (g.wayI q).count (((g.wayI p).getD i 0).toNat : Int) else 0) k
theorem Gr.betwS_eq {p q : Nat} (hp : p < g.ports) (hq : q < g.ports) (hne : p ≠ q) (hne2 : g.endOf p ≠ q) : g.betwS p q (g.wayI p).length = g.betwN p q := by
  unfold Gr.betwS Gr.betwN cntN
  rw [sum_count (fun c => if g.sig c = 46 then (g.wayI q).count (c : Int) else 0) (g.n * g.m) _ (Gr.wayI_range hg hp) _ (Nat.le_refl _), List.take_length]
  exact sumN_congr fun c hc => betw_aux (g.sig c) _ _ (Gr.count_both hg hp hq hne hne2 c)
end
end Go.Proofs.Ytebcnfemkchfjaa
