/- The cells of a beam, and how often each comes: plain facts. -/
/- The ways of beams: each state on one at most, each cell twice at most: plain facts. -/
/- The corners of a grid coloured by a way: each other way changes the colour where both cross: plain facts. -/
/- Beams cross an odd number of times just if their ports do: plain facts. -/
/- The rounds of a grid: plain facts. -/
/- The first things of their classes; steps among few states: plain facts. -/
import Derived.Test.YtmlenaelijchjaaEndL
import Derived.Test.YtmlenaelijchjaaCellW
import Derived.Test.YtmlenaelijchjaaRv
namespace Go.Proofs.Ytmlenaelijchjaa
open Go.RowKit
set_option linter.unusedVariables false
set_option linter.unusedSimpArgs false
set_option linter.unusedSectionVars false

open Classical in
/-- How many cells the beam of a port goes through. -/
noncomputable def Gr.lenOf (g : Gr) (p : Nat) : Nat := if h : ∃ q : Nat × Stt, g.Beam p q.1 q.2 then h.choose.1 + 1 else 0
theorem Gr.lenOf_eq {g : Gr} {p K : Nat} {y : Stt} (h : g.Beam p K y) : g.lenOf p = K + 1 := by
  have hx : ∃ q : Nat × Stt, g.Beam p q.1 q.2 := ⟨(K, y), h⟩
  unfold Gr.lenOf
  rw [dif_pos hx, (hx.choose_spec.unique h).1]
/-- The states of a beam, and its cells. -/
noncomputable def Gr.wayOf (g : Gr) (p : Nat) : List Stt := g.wayTo (g.ent p) (g.lenOf p)
noncomputable def Gr.wayI (g : Gr) (p : Nat) : List Int := g.cellsTo (g.ent p) (g.lenOf p)
theorem Gr.wayI_eq (g : Gr) (p : Nat) : g.wayI p = (g.wayOf p).map fun y => (y.1 : Int) := rfl
/-- At a grid with this port its cells, else nothing. -/
noncomputable def wayB (ss : List ByteArray) (p : Int) : Bool := gridB ss && inB p 0 ((gr ss).ports - 1)
noncomputable def wayL (ss : List ByteArray) (p : Int) : List Int := if wayB ss p = true then (gr ss).wayI p.toNat else []
theorem wayB_nat {ss : List ByteArray} {p : Int} (h : wayB ss p = true) : gridB ss = true ∧ ∃ q : Nat, p = q ∧ q < (gr ss).ports := by
  simp only [wayB, Bool.and_eq_true, inB_iff] at h
  have := h.2
  exact ⟨h.1, p.toNat, by omega, by omega⟩

/-- How often each number below N comes. -/
def timesL (N : Nat) (xs : List Int) : List Int := (List.range N).map fun c : Nat => ((xs.count (c : Int) : Nat) : Int)
theorem timesL_length (N : Nat) (xs : List Int) : (timesL N xs).length = N := by simp [timesL]
theorem timesL_getD {N c : Nat} (xs : List Int) (h : c < N) : (timesL N xs).getD c 0 = ((xs.count (c : Int) : Nat) : Int) := by simp [timesL, h]
theorem timesL_nil (N : Nat) : timesL N [] = List.replicate N 0 := by
  apply List.ext_getElem <;> simp [timesL]
theorem timesL_set {N c : Nat} (xs : List Int) (h : c < N) : (timesL N xs).set c (((xs.count (c : Int) : Nat) : Int) + 1) = timesL N (xs ++ [(c : Int)]) := by
  apply List.ext_getElem
  · simp [timesL]
  · intro i h1 h2
    simp only [timesL, List.length_set, List.length_map, List.length_range] at h1
    rw [List.getElem_set]
    simp only [timesL, List.getElem_map, List.getElem_range, List.count_append]
    by_cases e : c = i
    · subst e; simp
    · have : ¬ ((c : Int) = (i : Int)) := by omega
      simp [e, List.count_cons, this]
theorem take_succ_getD {xs : List Int} {k : Nat} (h : k < xs.length) : xs.take (k + 1) = xs.take k ++ [xs.getD k 0] := by
  rw [List.take_succ_eq_append_getElem h]
  simp [h]

section
variable {g : Gr} (hg : g.ok)
include hg
theorem Gr.mem_way {p : Nat} (hp : p < g.ports) {x : Stt} : x ∈ g.wayOf p ↔ ∃ j, iter g.nx j (g.ent p) = some x := by
  obtain ⟨K, y, hB⟩ := Gr.beam_of hg hp
  simp only [Gr.wayOf, Gr.wayTo, Gr.lenOf_eq hB, List.mem_map, List.mem_range]
  constructor
  · rintro ⟨i, hi, rfl⟩
    obtain ⟨z, hz⟩ := iter_lt hB.way i (by omega)
    exact ⟨i, by rw [hz]; rfl⟩
  · rintro ⟨j, hj⟩
    refine ⟨j, ?_, by rw [hj]; rfl⟩
    apply Nat.lt_of_not_le
    intro hle
    obtain ⟨z, hz⟩ := iter_lt hj (K + 1) hle
    obtain ⟨z', hz', hzz⟩ := iter_pred hz
    rw [hB.way] at hz'
    cases hz'
    rw [hB.last] at hzz
    cases hzz
theorem Gr.way_val {p : Nat} (hp : p < g.ports) {x : Stt} (h : x ∈ g.wayOf p) : g.val x := by
  obtain ⟨j, hj⟩ := (Gr.mem_way hg hp).1 h
  exact (Gr.steps hg).iter_stay j _ x (Gr.ent_val hg hp) hj
theorem Gr.ent_inj {p q : Nat} (hp : p < g.ports) (hq : q < g.ports) (h : g.ent p = g.ent q) : p = q := by
  rw [← (Gr.out_ent hg hp).2, h, (Gr.out_ent hg hq).2]
/-- Where the ways of two ports meet the ports are one. -/
theorem Gr.way_apart {p q i j : Nat} (hp : p < g.ports) (hq : q < g.ports) {x : Stt} (hi : iter g.nx i (g.ent p) = some x) (hj : iter g.nx j (g.ent q) = some x) : p = q ∧ i = j := by
  have key : ∀ {p q i d : Nat} {x : Stt}, p < g.ports → q < g.ports → iter g.nx i (g.ent p) = some x → iter g.nx (i + d) (g.ent q) = some x → p = q ∧ d = 0 := by
    intro p q i d x hp hq hi hj
    have h := (Gr.steps hg).back i _ _ x (Gr.ent_val hg hp) (Gr.ent_val hg hq) d hi hj
    match d, h with
    | 0, h =>
      simp [iter] at h
      exact ⟨(Gr.ent_inj hg hq hp h).symm, rfl⟩
    | d + 1, h =>
      obtain ⟨z, hz, hzx⟩ := iter_pred h
      exact absurd hzx (Gr.ent_no hg hp z ((Gr.steps hg).iter_stay _ _ z (Gr.ent_val hg hq) hz))
  by_cases h : i ≤ j
  · rw [show j = i + (j - i) by omega] at hj
    have := key hp hq hi hj
    exact ⟨this.1, by omega⟩
  · rw [show i = j + (i - j) by omega] at hi
    have := key hq hp hj hi
    exact ⟨this.1.symm, by omega⟩
theorem Gr.wayOf_length (p : Nat) : (g.wayOf p).length = g.lenOf p := Gr.wayTo_length _ _ _
theorem Gr.wayOf_get {p i : Nat} (hp : p < g.ports) (hi : i < g.lenOf p) : ∃ x, iter g.nx i (g.ent p) = some x ∧ (g.wayOf p)[i]? = some x := by
  obtain ⟨K, y, hB⟩ := Gr.beam_of hg hp
  rw [Gr.lenOf_eq hB] at hi
  obtain ⟨z, hz⟩ := iter_lt hB.way i (by omega)
  refine ⟨z, hz, ?_⟩
  simp [Gr.wayOf, Gr.wayTo, Gr.lenOf_eq hB, hi, hz]
theorem Gr.way_nodup {p : Nat} (hp : p < g.ports) : (g.wayOf p).Nodup := by
  rw [List.nodup_iff_pairwise_ne, List.pairwise_iff_getElem]
  intro i j hi0 hj0 hij e
  have hi := hi0
  have hj := hj0
  rw [Gr.wayOf_length hg] at hi hj
  obtain ⟨x, hx, hx2⟩ := Gr.wayOf_get hg hp hi
  obtain ⟨y, hy, hy2⟩ := Gr.wayOf_get hg hp hj
  rw [List.getElem?_eq_getElem hi0] at hx2
  rw [List.getElem?_eq_getElem hj0] at hy2
  have h1 := Option.some.inj hx2
  have h2 := Option.some.inj hy2
  rw [e, h2] at h1
  subst h1
  have := Gr.way_apart hg hp hp hx hy
  omega
theorem Gr.ways_nodup : ∀ (ps : List Nat), ps.Nodup → (∀ p ∈ ps, p < g.ports) → (ps.flatMap g.wayOf).Nodup := by
  intro ps
  induction ps with
  | nil => intro _ _; simp
  | cons p ps ih =>
    intro hd hp
    have hd2 := List.nodup_cons.1 hd
    have hpp := hp p (by simp)
    rw [List.flatMap_cons, List.nodup_append]
    refine ⟨Gr.way_nodup hg hpp, ih hd2.2 fun q hq => hp q (by simp [hq]), ?_⟩
    rintro x hx y hy rfl
    obtain ⟨q, hq, hyq⟩ := List.mem_flatMap.1 hy
    have hqq := hp q (by simp [hq])
    obtain ⟨i, hi⟩ := (Gr.mem_way hg hpp).1 hx
    obtain ⟨j, hj⟩ := (Gr.mem_way hg hqq).1 hyq
    have := (Gr.way_apart hg hpp hqq hi hj).1
    subst this
    exact hd2.1 hq
/-- How often the ways of several ports go through a cell. -/
theorem cell_count {L : List Stt} (hd : L.Nodup) (hv : ∀ x ∈ L, x.2 < 4) (c : Nat) : (L.map fun y => (y.1 : Int)).count (c : Int) ≤ 4 := by
  have e : (L.map fun y => (y.1 : Int)).count (c : Int) = (L.filter fun y => y.1 == c).length := by
    rw [List.count_eq_countP, List.countP_map, List.countP_eq_length_filter]
    congr 1
    refine List.filter_congr fun x _ => ?_
    show ((x.1 : Int) == (c : Int)) = (x.1 == c)
    rw [Bool.eq_iff_iff, beq_iff_eq, beq_iff_eq]
    omega
  rw [e, ← List.length_map (f := fun y : Stt => y.2)]
  refine nodup_bound 4 _ ?_ fun d hd2 => ?_
  · rw [List.nodup_iff_pairwise_ne, List.pairwise_map]
    refine List.Pairwise.imp_of_mem ?_ (List.nodup_iff_pairwise_ne.1 (hd.filter _))
    intro a b ha hb hne h
    have h1 : a.1 = c := beq_iff_eq.1 (List.mem_filter.1 ha).2
    have h2 : b.1 = c := beq_iff_eq.1 (List.mem_filter.1 hb).2
    exact hne (Prod.ext (by rw [h1, h2]) h)
  · obtain ⟨x, hx, rfl⟩ := List.mem_map.1 hd2
    exact hv x (List.mem_filter.1 hx).1
theorem Gr.count_ports (ps : List Nat) (hd : ps.Nodup) (hp : ∀ p ∈ ps, p < g.ports) (c : Nat) : (ps.map fun p => (g.wayI p).count (c : Int)).sum ≤ 4 := by
  have h1 := cell_count hg (Gr.ways_nodup hg ps hd hp) (fun x hx => by
    obtain ⟨p, hp1, hx⟩ := List.mem_flatMap.1 hx
    exact (Gr.way_val hg (hp p hp1) hx).2) c
  have e : ∀ ps : List Nat, ((ps.flatMap g.wayOf).map fun y => (y.1 : Int)).count (c : Int) = (ps.map fun p => (g.wayI p).count (c : Int)).sum := by
    intro ps
    induction ps with
    | nil => simp
    | cons p ps ih => rw [List.flatMap_cons, List.map_append, List.count_append, ih]; simp [Gr.wayI_eq]
  rw [e] at h1
  exact h1
/-- The way back. -/
theorem Gr.len_back {p : Nat} (hp : p < g.ports) : g.lenOf (g.endOf p) = g.lenOf p := by
  obtain ⟨K, y, hB⟩ := Gr.beam_of hg hp
  rw [Gr.endOf_eq hB, Gr.lenOf_eq hB, Gr.lenOf_eq (Gr.beam_back hg hp hB).2]
theorem Gr.way_back {p : Nat} (hp : p < g.ports) : g.wayI (g.endOf p) = (g.wayI p).reverse := by
  obtain ⟨K, y, hB⟩ := Gr.beam_of hg hp
  have hb := Gr.beam_back hg hp hB
  have hl : ∀ q, (g.wayI q).length = g.lenOf q := fun q => Gr.cellsTo_length _ _ _
  apply List.ext_getElem?
  intro i
  by_cases hi : i < K + 1
  · rw [List.getElem?_reverse (by rw [hl, Gr.lenOf_eq hB]; exact hi), hl, Gr.lenOf_eq hB]
    have hq : g.endOf p < g.ports := (Gr.endOf_pair hg hp).1
    obtain ⟨x, hx, hx2⟩ := Gr.wayOf_get hg hq (i := i) (by rw [Gr.len_back hg hp, Gr.lenOf_eq hB]; exact hi)
    obtain ⟨z, hz, hz2⟩ := Gr.wayOf_get hg hp (i := K + 1 - 1 - i) (by rw [Gr.lenOf_eq hB]; omega)
    rw [Gr.wayI_eq, Gr.wayI_eq, List.getElem?_map, List.getElem?_map, hx2, hz2]
    have hz3 : iter g.nx i z = some y := by
      have := hB.way
      rw [show K = (K + 1 - 1 - i) + i by omega, iter_add, hz] at this
      exact this
    have hzv := (Gr.steps hg).iter_stay _ _ z (Gr.ent_val hg hp) hz
    have h4 := (Gr.rvs hg).iter_back i z y hzv hz3
    have he : g.ent (g.endOf p) = g.rev y := by
      rw [Gr.endOf_eq hB]
      exact (Gr.ent_out hg (Gr.beam_val hg hp hB) hB.last).2
    rw [he, h4] at hx
    have := Option.some.inj hx
    rw [← this]
    rfl
  · rw [List.getElem?_eq_none (by rw [hl, Gr.len_back hg hp, Gr.lenOf_eq hB]; omega), List.getElem?_eq_none (by rw [List.length_reverse, hl, Gr.lenOf_eq hB]; omega)]
theorem Gr.count_back {p : Nat} (hp : p < g.ports) (c : Int) : (g.wayI (g.endOf p)).count c = (g.wayI p).count c := by
  rw [Gr.way_back hg hp, List.count_reverse]
theorem Gr.count_two {p : Nat} (hp : p < g.ports) (c : Nat) : (g.wayI p).count (c : Int) ≤ 2 := by
  obtain ⟨h1, h2, _⟩ := Gr.endOf_pair hg hp
  have := Gr.count_ports hg [p, g.endOf p] (by simp [h2.symm]) (by simp [hp, h1]) c
  simp [Gr.count_back hg hp] at this
  omega
theorem Gr.count_both {p q : Nat} (hp : p < g.ports) (hq : q < g.ports) (hne : p ≠ q) (hne2 : g.endOf p ≠ q) (c : Nat) : (g.wayI p).count (c : Int) + (g.wayI q).count (c : Int) ≤ 2 := by
  obtain ⟨h1, h2, h3⟩ := Gr.endOf_pair hg hp
  obtain ⟨k1, k2, k3⟩ := Gr.endOf_pair hg hq
  have n1 : p ≠ g.endOf q := fun e => hne2 (by rw [e, k3])
  have n2 : g.endOf p ≠ g.endOf q := fun e => hne (by rw [← h3, e, k3])
  have := Gr.count_ports hg [p, g.endOf p, q, g.endOf q] (by simp [h2.symm, k2.symm, hne, hne2, n1, n2]) (by simp [hp, hq, h1, k1]) c
  simp [Gr.count_back hg hp, Gr.count_back hg hq] at this
  omega
theorem Gr.wayI_range {p : Nat} (hp : p < g.ports) : ∀ j, j < (g.wayI p).length → ∃ c : Nat, (g.wayI p).getD j 0 = c ∧ c < g.n * g.m := by
  intro j hj
  have hl : (g.wayI p).length = g.lenOf p := Gr.cellsTo_length _ _ _
  obtain ⟨x, hx, hx2⟩ := Gr.wayOf_get hg hp (i := j) (by omega)
  refine ⟨x.1, ?_, ((Gr.steps hg).iter_stay _ _ x (Gr.ent_val hg hp) hx).1⟩
  rw [List.getD_eq_getElem?_getD, Gr.wayI_eq, List.getElem?_map, hx2]
  rfl
theorem Gr.wayI_length {p : Nat} (hp : p < g.ports) : (g.wayI p).length ≤ 100 := by
  obtain ⟨K, y, hB⟩ := Gr.beam_of hg hp
  have hl : (g.wayI p).length = g.lenOf p := Gr.cellsTo_length _ _ _
  have := hB.lt
  rw [hl, Gr.lenOf_eq hB]
  omega

omit hg in
theorem self_aux (s : Int) (q : Nat) (h : q ≤ 2) : (q * if s = 46 then q - 1 else 0) = 2 * if (q == 2 && s == 46) = true then 1 else 0 := by
  have : q = 0 ∨ q = 1 ∨ q = 2 := by omega
  by_cases hs : s = 46
  · rcases this with rfl | rfl | rfl <;> simp [hs]
  · rcases this with rfl | rfl | rfl <;> simp [hs]
omit hg in
theorem betw_aux (s : Int) (a b : Nat) (h : a + b ≤ 2) : (a * if s = 46 then b else 0) = if (decide (0 < a) && decide (0 < b) && s == 46) = true then 1 else 0 := by
  have hb : b = 0 ∨ b = 1 ∨ b = 2 := by omega
  have ha : a = 0 ∨ a = 1 ∨ a = 2 := by omega
  by_cases hs : s = 46
  · rcases ha with rfl | rfl | rfl <;> rcases hb with rfl | rfl | rfl <;> (first | (simp [hs]; done) | omega)
  · rcases ha with rfl | rfl | rfl <;> rcases hb with rfl | rfl | rfl <;> simp [hs]
/-- At how many empty cells a beam crosses itself. -/
noncomputable def Gr.selfN (g : Gr) (p : Nat) : Nat := cntN (fun c => (g.wayI p).count (c : Int) == 2 && g.sig c == 46) (g.n * g.m)
/-- What the spec sums up. -/
noncomputable def Gr.selfS (g : Gr) (p k : Nat) : Nat := sumN (fun i => if g.sig ((g.wayI p).getD i 0).toNat = 46 then (g.wayI p).count (((g.wayI p).getD i 0).toNat : Int) - 1 else 0) k
theorem Gr.selfS_eq {p : Nat} (hp : p < g.ports) : g.selfS p (g.wayI p).length = 2 * g.selfN p := by
  unfold Gr.selfS Gr.selfN cntN
  rw [sum_count (fun c => if g.sig c = 46 then (g.wayI p).count (c : Int) - 1 else 0) (g.n * g.m) _ (Gr.wayI_range hg hp) _ (Nat.le_refl _), List.take_length, ← sumN_mul]
  exact sumN_congr fun c hc => self_aux (g.sig c) _ (Gr.count_two hg hp c)
/-- At how many empty cells two beams cross. -/
noncomputable def Gr.betwN (g : Gr) (p q : Nat) : Nat := cntN (fun c => decide (0 < (g.wayI p).count (c : Int)) && decide (0 < (g.wayI q).count (c : Int)) && g.sig c == 46) (g.n * g.m)
noncomputable def Gr.betwS (g : Gr) (p q k : Nat) : Nat := sumN (fun i => if g.sig ((g.wayI p).getD i 0).toNat = 46 then (g.wayI q).count (((g.wayI p).getD i 0).toNat : Int) else 0) k
theorem Gr.betwS_eq {p q : Nat} (hp : p < g.ports) (hq : q < g.ports) (hne : p ≠ q) (hne2 : g.endOf p ≠ q) : g.betwS p q (g.wayI p).length = g.betwN p q := by
  unfold Gr.betwS Gr.betwN cntN
  rw [sum_count (fun c => if g.sig c = 46 then (g.wayI q).count (c : Int) else 0) (g.n * g.m) _ (Gr.wayI_range hg hp) _ (Nat.le_refl _), List.take_length]
  exact sumN_congr fun c hc => betw_aux (g.sig c) _ _ (Gr.count_both hg hp hq hne hne2 c)
end

/-- The states of some ways, gone forwards and backwards. -/
structure Gr.Curve (g : Gr) (C : Stt → Bool) : Prop where
  rev : ∀ x, g.val x → C (g.rev x) = C x
  nx : ∀ x y, g.val x → g.nx x = some y → C y = C x
def colTop (C : Stt → Bool) : Nat → Bool
  | 0 => false
  | k + 1 => colTop C k ^^ C (k, 2)
/-- The colour of a corner. -/
def Gr.col (g : Gr) (C : Stt → Bool) : Nat → Nat → Bool
  | 0, k => colTop C k
  | i + 1, k => g.col C i k ^^ (if k < g.m then C (i * g.m + k, 1) else C (i * g.m + (g.m - 1), 3))
/-- The colour of a corner of the edge by which a state's cell is entered. -/
def Gr.ecol (g : Gr) (C : Stt → Bool) (x : Stt) : Bool :=
  if x.2 = 0 then g.col C (x.1 / g.m + 1) (x.1 % g.m) else if x.2 = 3 then g.col C (x.1 / g.m) (x.1 % g.m + 1) else g.col C (x.1 / g.m) (x.1 % g.m)
/-- A state that goes across. -/
def across (x : Stt) : Stt := (x.1, if x.2 = 0 ∨ x.2 = 2 then 1 else 0)
def Gr.cr (g : Gr) (C : Stt → Bool) (x : Stt) : Bool := g.sig x.1 == 46 && C (across x)

section
variable {g : Gr} (hg : g.ok) {C : Stt → Bool} (hC : g.Curve C)
include hg hC
theorem Gr.nx_of_dir {x : Stt} (hx : g.val x) : g.nx x = if g.dir x = 0 then (if x.1 / g.m = 0 then none else some (x.1 - g.m, 0)) else if g.dir x = 1 then (if x.1 % g.m = g.m - 1 then none else some (x.1 + 1, 1))
    else if g.dir x = 2 then (if x.1 / g.m = g.n - 1 then none else some (x.1 + g.m, 2)) else (if x.1 % g.m = 0 then none else some (x.1 - 1, 3)) := rfl
theorem Gr.col_V {i k : Nat} (hi : i < g.n) (hk : k + 1 < g.m) : C (i * g.m + (k + 1), 1) = C (i * g.m + k, 3) := by
  have hv : g.val (i * g.m + (k + 1), 1) := ⟨Gr.cell_lt hg hi hk, by simp⟩
  have hd := Gr.dir_rev hg hv
  have hr := Gr.rev_val hg hv
  have hm1 := Gr.mod_of hg (i := i) hk
  have e : g.nx (g.rev (i * g.m + (k + 1), 1)) = some (i * g.m + k, 3) := by
    rw [Gr.nx_of_dir hg hC hr, hd]
    show (if opp 1 = 0 then _ else if opp 1 = 1 then _ else if opp 1 = 2 then _ else if (i * g.m + (k + 1)) % g.m = 0 then none else some (i * g.m + (k + 1) - 1, 3)) = _
    rw [hm1]
    simp [opp]
    first | done | omega
  rw [← hC.rev _ hv]
  exact (hC.nx _ _ hr e).symm
theorem Gr.col_H {i k : Nat} (hi : i + 1 < g.n) (hk : k < g.m) : C ((i + 1) * g.m + k, 2) = C (i * g.m + k, 0) := by
  have hv : g.val ((i + 1) * g.m + k, 2) := ⟨Gr.cell_lt hg hi hk, by simp⟩
  have hd := Gr.dir_rev hg hv
  have hr := Gr.rev_val hg hv
  have hm1 := Gr.div_of hg (i := i + 1) hk
  have e : g.nx (g.rev ((i + 1) * g.m + k, 2)) = some (i * g.m + k, 0) := by
    rw [Gr.nx_of_dir hg hC hr, hd]
    show (if opp 2 = 0 then (if ((i + 1) * g.m + k) / g.m = 0 then none else some ((i + 1) * g.m + k - g.m, 0)) else _) = _
    rw [hm1]
    simp [opp, Nat.succ_mul]
    first | done | omega
  rw [← hC.rev _ hv]
  exact (hC.nx _ _ hr e).symm
/-- The ways of a cell in pairs. -/
theorem Gr.pairs_at {i k : Nat} (hi : i < g.n) (hk : k < g.m) {d : Nat} (hd : d < 4) : C (i * g.m + k, opp (bend (g.lt i k) d)) = C (i * g.m + k, d) := by
  have hv : g.val (i * g.m + k, d) := ⟨Gr.cell_lt hg hi hk, hd⟩
  have := hC.rev _ hv
  have e : g.rev (i * g.m + k, d) = (i * g.m + k, opp (bend (g.lt i k) d)) := by
    show (i * g.m + k, opp (bend (g.lt ((i * g.m + k) / g.m) ((i * g.m + k) % g.m)) d)) = _
    rw [Gr.div_of hg hk, Gr.mod_of hg hk]
  rw [e] at this
  exact this
theorem Gr.col_E {i k : Nat} (hi : i < g.n) (hk : k < g.m) : (C (i * g.m + k, 0) ^^ C (i * g.m + k, 1) ^^ C (i * g.m + k, 2) ^^ C (i * g.m + k, 3)) = false := by
  have h0 := Gr.pairs_at hg hC hi hk (d := 0) (by omega)
  have h1 := Gr.pairs_at hg hC hi hk (d := 1) (by omega)
  have h2 := Gr.pairs_at hg hC hi hk (d := 2) (by omega)
  have hl := hg.let' i k hi hk
  simp [letB] at hl
  rcases hl with (h | h) | h <;> rw [h] at h0 h1 h2 <;> simp [bend, opp] at h0 h1 h2
  · rw [h0, h1]; cases C (i * g.m + k, 0) <;> cases C (i * g.m + k, 1) <;> rfl
  · rw [h0, h1]; cases C (i * g.m + k, 0) <;> cases C (i * g.m + k, 1) <;> rfl
  · rw [h0, h2]; cases C (i * g.m + k, 0) <;> cases C (i * g.m + k, 2) <;> rfl
theorem Gr.col_left {i k : Nat} (hk : k < g.m) : (g.col C (i + 1) k ^^ g.col C i k) = C (i * g.m + k, 1) := by
  show ((g.col C i k ^^ (if k < g.m then C (i * g.m + k, 1) else C (i * g.m + (g.m - 1), 3))) ^^ g.col C i k) = _
  rw [if_pos hk]
  cases g.col C i k <;> simp
theorem Gr.col_right {i k : Nat} (hi : i < g.n) (hk : k < g.m) : (g.col C (i + 1) (k + 1) ^^ g.col C i (k + 1)) = C (i * g.m + k, 3) := by
  show ((g.col C i (k + 1) ^^ (if k + 1 < g.m then C (i * g.m + (k + 1), 1) else C (i * g.m + (g.m - 1), 3))) ^^ g.col C i (k + 1)) = _
  have e : (if k + 1 < g.m then C (i * g.m + (k + 1), 1) else C (i * g.m + (g.m - 1), 3)) = C (i * g.m + k, 3) := by
    by_cases h : k + 1 < g.m
    · rw [if_pos h, Gr.col_V hg hC hi h]
    · rw [if_neg h, show g.m - 1 = k by omega]
  rw [e]
  cases g.col C i (k + 1) <;> simp
theorem Gr.col_tb : ∀ {i k : Nat}, i < g.n → k < g.m → (g.col C i k ^^ g.col C i (k + 1)) = C (i * g.m + k, 2) ∧ (g.col C (i + 1) k ^^ g.col C (i + 1) (k + 1)) = C (i * g.m + k, 0) := by
  intro i
  have low : ∀ {i k : Nat}, i < g.n → k < g.m → (g.col C i k ^^ g.col C i (k + 1)) = C (i * g.m + k, 2) → (g.col C (i + 1) k ^^ g.col C (i + 1) (k + 1)) = C (i * g.m + k, 0) := by
    intro i k hi hk h
    have hl := Gr.col_left hg hC (i := i) hk
    have hr := Gr.col_right hg hC hi hk
    have he := Gr.col_E hg hC hi hk
    rw [← h, ← hl, ← hr] at he
    generalize C (i * g.m + k, 0) = u at he ⊢
    revert he
    cases g.col C i k <;> cases g.col C i (k + 1) <;> cases g.col C (i + 1) k <;> cases g.col C (i + 1) (k + 1) <;> cases u <;> simp
  induction i with
  | zero =>
    intro k hi hk
    have h : (g.col C 0 k ^^ g.col C 0 (k + 1)) = C (0 * g.m + k, 2) := by
      show (colTop C k ^^ (colTop C k ^^ C (k, 2))) = _
      rw [Nat.zero_mul, Nat.zero_add]
      cases colTop C k <;> simp
    exact ⟨h, low hi hk h⟩
  | succ i ih =>
    intro k hi hk
    have h : (g.col C (i + 1) k ^^ g.col C (i + 1) (k + 1)) = C ((i + 1) * g.m + k, 2) := by
      rw [(ih (by omega) hk).2, Gr.col_H hg hC hi hk]
    exact ⟨h, low hi hk h⟩
theorem Gr.ecol_at {i k : Nat} (hk : k < g.m) (d : Nat) : g.ecol C (i * g.m + k, d) = if d = 0 then g.col C (i + 1) k else if d = 3 then g.col C i (k + 1) else g.col C i k := by
  unfold Gr.ecol
  simp only [Gr.div_of hg hk, Gr.mod_of hg hk]
/-- Through a cell the colour changes just if the ways cross there. -/
theorem Gr.ecol_cell {x : Stt} (hx : g.val x) (hn : C x = false) : (g.ecol C (g.rev x) ^^ g.ecol C x) = g.cr C x := by
  have hi := Gr.row_lt hg hx.1
  have hk := Gr.col_lt hg x.1
  have hc := Gr.cell_eq hg x.1
  have hd := hx.2
  have hp := Gr.pairs_at hg hC hi hk hd
  have hrev : g.rev x = (x.1 / g.m * g.m + x.1 % g.m, opp (bend (g.lt (x.1 / g.m) (x.1 % g.m)) x.2)) := by rw [hc]; rfl
  have hx2 : x = (x.1 / g.m * g.m + x.1 % g.m, x.2) := by rw [hc]
  have hcr : g.cr C x = (g.lt (x.1 / g.m) (x.1 % g.m) == 46 && C (x.1 / g.m * g.m + x.1 % g.m, if x.2 = 0 ∨ x.2 = 2 then 1 else 0)) := by rw [hc]; rfl
  rw [hrev, hcr]
  have hn2 : C (x.1 / g.m * g.m + x.1 % g.m, x.2) = false := by rw [← hx2]; exact hn
  have e2 : g.ecol C x = g.ecol C (x.1 / g.m * g.m + x.1 % g.m, x.2) := by rw [← hx2]
  rw [e2]
  clear hx2 hrev hcr e2 hc hn
  have hl := Gr.col_left hg hC (i := x.1 / g.m) hk
  have hr := Gr.col_right hg hC hi hk
  obtain ⟨ht, hb⟩ := Gr.col_tb hg hC hi hk
  have hlet := hg.let' _ _ hi hk
  generalize x.1 / g.m = i at *
  generalize x.1 % g.m = k at *
  generalize x.2 = d at *
  rw [Gr.ecol_at hg hC hk, Gr.ecol_at hg hC hk]
  rw [hn2] at hp
  simp [letB] at hlet
  have hd4 : d = 0 ∨ d = 1 ∨ d = 2 ∨ d = 3 := by omega
  rcases hlet with (h | h) | h <;> rcases hd4 with rfl | rfl | rfl | rfl <;> rw [h] at hp ⊢ <;> simp [bend, opp] at hp ⊢ <;> simp only [← hl, ← hr, ← ht, ← hb] at hp hn2 ⊢ <;> revert hp hn2 <;>
    cases g.col C i k <;> cases g.col C i (k + 1) <;> cases g.col C (i + 1) k <;> cases g.col C (i + 1) (k + 1) <;> simp
theorem Gr.ecol_step {x y : Stt} (hx : g.val x) (e : g.nx x = some y) : g.ecol C y = g.ecol C (g.rev x) := by
  have hi := Gr.row_lt hg hx.1
  have hk := Gr.col_lt hg x.1
  have hc := Gr.cell_eq hg x.1
  have hd := Gr.dir_lt hx
  have hrev : g.rev x = (x.1 / g.m * g.m + x.1 % g.m, opp (g.dir x)) := by rw [hc]; rfl
  rw [hrev, Gr.ecol_at hg hC hk]
  rw [Gr.nx_of_dir hg hC hx] at e
  have hd4 : g.dir x = 0 ∨ g.dir x = 1 ∨ g.dir x = 2 ∨ g.dir x = 3 := by omega
  rcases hd4 with h | h | h | h <;> rw [h] at e ⊢
  · rw [if_pos rfl] at e
    simp only [opp]
    by_cases h0 : x.1 / g.m = 0
    · rw [if_pos h0] at e
      cases e
    rw [if_neg h0] at e
    cases e
    have hpos := Nat.pos_of_ne_zero h0
    have : x.1 - g.m = (x.1 / g.m - 1) * g.m + x.1 % g.m := by
      have : 1 * g.m ≤ x.1 / g.m * g.m := Nat.mul_le_mul_right _ hpos
      rw [Nat.sub_mul]; omega
    rw [this, Gr.ecol_at hg hC hk]
    simp
    rw [show x.1 / g.m - 1 + 1 = x.1 / g.m from Nat.sub_add_cancel hpos]
  · simp [opp] at e ⊢
    obtain ⟨h0, rfl⟩ := e
    have : x.1 + 1 = x.1 / g.m * g.m + (x.1 % g.m + 1) := by omega
    rw [this, Gr.ecol_at hg hC (by omega)]
    simp
  · simp [opp] at e ⊢
    obtain ⟨h0, rfl⟩ := e
    have : x.1 + g.m = (x.1 / g.m + 1) * g.m + x.1 % g.m := by rw [Nat.succ_mul]; omega
    rw [this, Gr.ecol_at hg hC hk]
    simp
  · simp [opp] at e ⊢
    obtain ⟨h0, rfl⟩ := e
    have : x.1 - 1 = x.1 / g.m * g.m + (x.1 % g.m - 1) := by omega
    rw [this, Gr.ecol_at hg hC (by omega)]
    simp
    rw [show x.1 % g.m - 1 + 1 = x.1 % g.m by omega]
/-- Along a way. -/
theorem Gr.ecol_way {x : Stt} (hx : g.val x) (hn : C x = false) : ∀ k y, iter g.nx k x = some y → C y = false ∧ g.ecol C y = (g.ecol C x ^^ decide (cntN (fun j => g.cr C ((iter g.nx j x).getD x)) k % 2 = 1)) := by
  intro k
  induction k with
  | zero =>
    intro y e
    simp [iter] at e
    subst e
    exact ⟨hn, by simp [cntN, sumN]⟩
  | succ k ih =>
    intro y e
    obtain ⟨z, hz, hzy⟩ := iter_pred e
    obtain ⟨h1, h2⟩ := ih z hz
    have hzv := (Gr.steps hg).iter_stay k x z hx hz
    refine ⟨by rw [hC.nx z y hzv hzy]; exact h1, ?_⟩
    have h3 := Gr.ecol_cell hg hC hzv h1
    rw [Gr.ecol_step hg hC hzv hzy, cntN_succ, hz, Option.getD_some, ← h3]
    rw [h2] at h3 ⊢
    generalize cntN (fun j => g.cr C ((iter g.nx j x).getD x)) k = q at *
    have hq : q % 2 = 0 ∨ q % 2 = 1 := by omega
    cases g.ecol C (g.rev z) <;> cases g.ecol C x <;> rcases hq with hq | hq <;> simp [hq] <;> omega
/-- The colour ahead of a port on the border. -/
def Gr.bcol (g : Gr) (C : Stt → Bool) (t : Nat) : Bool :=
  if t ≤ g.m then g.col C 0 t else if t ≤ g.m + g.n then g.col C (t - g.m) g.m else if t ≤ 2 * g.m + g.n then g.col C g.n (2 * g.m + g.n - t) else g.col C (2 * g.m + 2 * g.n - t) 0
theorem Gr.bcol_port {t : Nat} (ht : t < g.ports) : (g.bcol C (t + 1) ^^ g.bcol C t) = C (g.ent t) ∧ (g.ecol C (g.ent t) = g.bcol C t ∨ g.ecol C (g.ent t) = g.bcol C (t + 1)) := by
  have hn := hg.n1
  have hm := hg.m1
  unfold Gr.ports at ht
  unfold Gr.ent
  by_cases p1 : t < g.m
  · rw [if_pos p1]
    have h := (Gr.col_tb hg hC (i := 0) (by omega) p1).1
    have b1 : g.bcol C (t + 1) = g.col C 0 (t + 1) := by unfold Gr.bcol; rw [if_pos (by omega)]
    have b2 : g.bcol C t = g.col C 0 t := by unfold Gr.bcol; rw [if_pos (by omega)]
    have e : ((t, 2) : Stt) = (0 * g.m + t, 2) := by simp
    rw [b1, b2, e, ← h, Gr.ecol_at hg hC p1]
    exact ⟨Bool.xor_comm _ _, .inl (by simp)⟩
  · rw [if_neg p1]
    by_cases p2 : t < g.m + g.n
    · rw [if_pos p2]
      have h := Gr.col_right hg hC (i := t - g.m) (k := g.m - 1) (by omega) (by omega)
      rw [show g.m - 1 + 1 = g.m by omega] at h
      have b1 : g.bcol C (t + 1) = g.col C (t - g.m + 1) g.m := by unfold Gr.bcol; rw [if_neg (by omega), if_pos (by omega), show t + 1 - g.m = t - g.m + 1 by omega]
      have b2 : g.bcol C t = g.col C (t - g.m) g.m := by
        unfold Gr.bcol
        by_cases e : t = g.m
        · subst e
          rw [if_pos (Nat.le_refl _), Nat.sub_self]
        · rw [if_neg (by omega), if_pos (by omega)]
      have e : (((t - g.m) * g.m + g.m - 1, 3) : Stt) = ((t - g.m) * g.m + (g.m - 1), 3) := by rw [Nat.add_sub_assoc hm]
      rw [b1, b2, e, ← h, Gr.ecol_at hg hC (by omega)]
      exact ⟨rfl, .inl (by simp; rw [show g.m - 1 + 1 = g.m by omega])⟩
    · rw [if_neg p2]
      by_cases p3 : t < 2 * g.m + g.n
      · rw [if_pos p3]
        have h := (Gr.col_tb hg hC (i := g.n - 1) (k := g.m - 1 - (t - g.m - g.n)) (by omega) (by omega)).2
        rw [show g.n - 1 + 1 = g.n by omega] at h
        have b1 : g.bcol C (t + 1) = g.col C g.n (g.m - 1 - (t - g.m - g.n)) := by
          unfold Gr.bcol
          rw [if_neg (by omega), if_neg (by omega), if_pos (by omega), show 2 * g.m + g.n - (t + 1) = g.m - 1 - (t - g.m - g.n) by omega]
        have b2 : g.bcol C t = g.col C g.n (g.m - 1 - (t - g.m - g.n) + 1) := by
          unfold Gr.bcol
          by_cases e : t = g.m + g.n
          · subst e
            rw [if_neg (by omega), if_pos (Nat.le_refl _), show g.m + g.n - g.m = g.n by omega, show g.m - 1 - (g.n - g.n) + 1 = g.m by omega]
          · rw [if_neg (by omega), if_neg (by omega), if_pos (by omega), show 2 * g.m + g.n - t = g.m - 1 - (t - g.m - g.n) + 1 by omega]
        have e : (((g.n - 1) * g.m + g.m - 1 - (t - g.m - g.n), 0) : Stt) = ((g.n - 1) * g.m + (g.m - 1 - (t - g.m - g.n)), 0) := by
          refine Prod.ext ?_ rfl
          show (g.n - 1) * g.m + g.m - 1 - (t - g.m - g.n) = (g.n - 1) * g.m + (g.m - 1 - (t - g.m - g.n))
          omega
        rw [b1, b2, e, ← h, Gr.ecol_at hg hC (by omega)]
        exact ⟨rfl, .inr (by simp; rw [show g.n - 1 + 1 = g.n by omega])⟩
      · rw [if_neg p3]
        have h := Gr.col_left hg hC (i := g.n - 1 - (t - 2 * g.m - g.n)) (k := 0) (by omega)
        have b1 : g.bcol C (t + 1) = g.col C (g.n - 1 - (t - 2 * g.m - g.n)) 0 := by
          unfold Gr.bcol
          rw [if_neg (by omega), if_neg (by omega), if_neg (by omega), show 2 * g.m + 2 * g.n - (t + 1) = g.n - 1 - (t - 2 * g.m - g.n) by omega]
        have b2 : g.bcol C t = g.col C (g.n - 1 - (t - 2 * g.m - g.n) + 1) 0 := by
          unfold Gr.bcol
          by_cases e : t = 2 * g.m + g.n
          · subst e
            rw [if_neg (by omega), if_neg (by omega), if_pos (Nat.le_refl _), Nat.sub_self, show g.n - 1 - (2 * g.m + g.n - 2 * g.m - g.n) + 1 = g.n by omega]
          · rw [if_neg (by omega), if_neg (by omega), if_neg (by omega), show 2 * g.m + 2 * g.n - t = g.n - 1 - (t - 2 * g.m - g.n) + 1 by omega]
        have e : (((g.n - 1 - (t - 2 * g.m - g.n)) * g.m, 1) : Stt) = ((g.n - 1 - (t - 2 * g.m - g.n)) * g.m + 0, 1) := rfl
        rw [b1, b2, e, ← h, Gr.ecol_at hg hC (by omega)]
        exact ⟨Bool.xor_comm _ _, .inr (by simp)⟩
end

/-- The states of a beam, both ways. -/
noncomputable def Gr.beamC (g : Gr) (p : Nat) (x : Stt) : Bool := decide (x ∈ g.wayOf p) || decide (x ∈ g.wayOf (g.endOf p))

section
variable {g : Gr} (hg : g.ok)
include hg
theorem Gr.way_rev1 {p : Nat} (hp : p < g.ports) {x : Stt} (h : x ∈ g.wayOf p) : g.rev x ∈ g.wayOf (g.endOf p) := by
  obtain ⟨j, hj⟩ := (Gr.mem_way hg hp).1 h
  obtain ⟨K, y, hB⟩ := Gr.beam_of hg hp
  have hv := Gr.way_val hg hp h
  have hjK : j ≤ K := by
    apply Nat.le_of_not_lt
    intro hlt
    obtain ⟨z, hz⟩ := iter_lt hj (K + 1) hlt
    obtain ⟨z', hz', hzz⟩ := iter_pred hz
    rw [hB.way] at hz'
    cases hz'
    rw [hB.last] at hzz
    cases hzz
  have h1 := hB.way
  rw [show K = j + (K - j) by omega, iter_add, hj] at h1
  have h2 := (Gr.rvs hg).iter_back _ _ _ hv h1
  rw [Gr.mem_way hg (Gr.endOf_pair hg hp).1, Gr.endOf_eq hB, (Gr.ent_out hg (Gr.beam_val hg hp hB) hB.last).2]
  exact ⟨_, h2⟩
theorem Gr.way_nx {p : Nat} (hp : p < g.ports) {x y : Stt} (hx : g.val x) (e : g.nx x = some y) : y ∈ g.wayOf p ↔ x ∈ g.wayOf p := by
  rw [Gr.mem_way hg hp, Gr.mem_way hg hp]
  constructor
  · rintro ⟨j, hj⟩
    match j, hj with
    | 0, hj =>
      simp [iter] at hj
      subst hj
      exact absurd e (Gr.ent_no hg hp x hx)
    | j + 1, hj =>
      obtain ⟨z, hz, hzy⟩ := iter_pred hj
      have := (Gr.steps hg).inj z x y ((Gr.steps hg).iter_stay _ _ z (Gr.ent_val hg hp) hz) hx hzy e
      subst this
      exact ⟨j, hz⟩
  · rintro ⟨j, hj⟩
    refine ⟨j + 1, ?_⟩
    show (iter g.nx j (g.ent p)).bind g.nx = some y
    rw [hj]
    exact e
theorem Gr.beamC_curve {p : Nat} (hp : p < g.ports) : g.Curve (g.beamC p) where
  rev := fun x hx => by
    obtain ⟨h1, h2, h3⟩ := Gr.endOf_pair hg hp
    have a1 : x ∈ g.wayOf p → g.rev x ∈ g.wayOf (g.endOf p) := Gr.way_rev1 hg hp
    have a2 : x ∈ g.wayOf (g.endOf p) → g.rev x ∈ g.wayOf p := fun h => by
      have := Gr.way_rev1 hg h1 h
      rwa [h3] at this
    have a3 : g.rev x ∈ g.wayOf p → x ∈ g.wayOf (g.endOf p) := fun h => by
      have := Gr.way_rev1 hg hp h
      rwa [Gr.rev_rev hg hx] at this
    have a4 : g.rev x ∈ g.wayOf (g.endOf p) → x ∈ g.wayOf p := fun h => by
      have := Gr.way_rev1 hg h1 h
      rwa [h3, Gr.rev_rev hg hx] at this
    rw [Bool.eq_iff_iff]
    simp only [Gr.beamC, Bool.or_eq_true, decide_eq_true_iff]
    exact ⟨fun h => h.elim (fun h => .inr (a3 h)) (fun h => .inl (a4 h)), fun h => h.elim (fun h => .inr (a1 h)) (fun h => .inl (a2 h))⟩
  nx := fun x y hx e => by
    rw [Bool.eq_iff_iff]
    simp only [Gr.beamC, Bool.or_eq_true, decide_eq_true_iff]
    rw [Gr.way_nx hg hp hx e, Gr.way_nx hg (Gr.endOf_pair hg hp).1 hx e]
theorem Gr.ent_way {p t : Nat} (hp : p < g.ports) (ht : t < g.ports) : g.ent t ∈ g.wayOf p ↔ t = p := by
  rw [Gr.mem_way hg hp]
  constructor
  · rintro ⟨j, hj⟩
    exact ((Gr.way_apart hg hp ht hj (j := 0) rfl).1).symm
  · rintro rfl
    exact ⟨0, rfl⟩
theorem Gr.beamC_ent {p t : Nat} (hp : p < g.ports) (ht : t < g.ports) : g.beamC p (g.ent t) = (decide (t = p) || decide (t = g.endOf p)) := by
  rw [Bool.eq_iff_iff]
  simp only [Gr.beamC, Bool.or_eq_true, decide_eq_true_iff]
  rw [Gr.ent_way hg hp ht, Gr.ent_way hg (Gr.endOf_pair hg hp).1 ht]
theorem Gr.bcol_beam {p : Nat} (hp : p < g.ports) : ∀ t, t ≤ g.ports → g.bcol (g.beamC p) t = (decide (p < t) ^^ decide (g.endOf p < t)) := by
  have hne := (Gr.endOf_pair hg hp).2.1
  intro t
  induction t with
  | zero =>
    intro _
    unfold Gr.bcol
    rw [if_pos (Nat.zero_le _)]
    rfl
  | succ t ih =>
    intro ht
    have h := (Gr.bcol_port hg (Gr.beamC_curve hg hp) (t := t) (by omega)).1
    rw [ih (by omega), Gr.beamC_ent hg hp (by omega)] at h
    revert h
    generalize g.bcol (g.beamC p) (t + 1) = b
    by_cases e1 : p = t
    · subst e1
      by_cases e3 : g.endOf p < p
      · have : g.endOf p < p + 1 := by omega
        have : p ≠ g.endOf p := by omega
        cases b <;> simp [*]
      · have : ¬ g.endOf p < p + 1 := by omega
        cases b <;> simp [*]
    · by_cases e2 : g.endOf p = t
      · by_cases e3 : p < t
        · have : p < t + 1 := by omega
          have : ¬ t = p := by omega
          cases b <;> simp [*]
        · have : ¬ p < t + 1 := by omega
          have : ¬ t = p := by omega
          cases b <;> simp [*]
      · have h1 : (p < t + 1) = (p < t) := by simp; omega
        have h2 : (g.endOf p < t + 1) = (g.endOf p < t) := by simp; omega
        have h3 : ¬ t = p := by omega
        have h4 : ¬ t = g.endOf p := by omega
        simp only [h1, h2, h3, h4]
        cases b <;> simp
theorem Gr.ecol_beam {p q : Nat} (hp : p < g.ports) (hq : q < g.ports) (hne : p ≠ q) (hne2 : g.endOf p ≠ q) : g.ecol (g.beamC p) (g.ent q) = (decide (p < q) ^^ decide (g.endOf p < q)) := by
  rcases (Gr.bcol_port hg (Gr.beamC_curve hg hp) hq).2 with h | h
  · rw [h, Gr.bcol_beam hg hp q (by omega)]
  · rw [h, Gr.bcol_beam hg hp (q + 1) (by omega)]
    have h1 : (p < q + 1) = (p < q) := by simp; omega
    have h2 : (g.endOf p < q + 1) = (g.endOf p < q) := by simp; omega
    simp only [h1, h2]
/-- Along a whole beam that is no part of a curve. -/
theorem Gr.ecol_whole {C : Stt → Bool} (hC : g.Curve C) {q : Nat} (hq : q < g.ports) (hn : C (g.ent q) = false) :
    g.ecol C (g.ent (g.endOf q)) = (g.ecol C (g.ent q) ^^ decide (cntN (fun j => g.cr C ((iter g.nx j (g.ent q)).getD (g.ent q))) (g.lenOf q) % 2 = 1)) := by
  obtain ⟨K, y, hB⟩ := Gr.beam_of hg hq
  obtain ⟨h1, h2⟩ := Gr.ecol_way hg hC (Gr.ent_val hg hq) hn K y hB.way
  have hv := Gr.beam_val hg hq hB
  have h3 := Gr.ecol_cell hg hC hv h1
  rw [Gr.lenOf_eq hB, cntN_succ, hB.way, Option.getD_some, ← h3, Gr.endOf_eq hB, (Gr.ent_out hg hv hB.last).2]
  rw [h2] at h3 ⊢
  generalize cntN (fun j => g.cr C ((iter g.nx j (g.ent q)).getD (g.ent q))) K = w at *
  have hw : w % 2 = 0 ∨ w % 2 = 1 := by omega
  cases g.ecol C (g.rev y) <;> cases g.ecol C (g.ent q) <;> rcases hw with hw | hw <;> simp [hw] <;> omega
/-- Where a curve goes across at an empty cell. -/
theorem Gr.cr_iff {C : Stt → Bool} (hC : g.Curve C) {x : Stt} (hx : g.val x) (hn : C x = false) : g.cr C x = (g.sig x.1 == 46 && (C (x.1, 0) || C (x.1, 1) || C (x.1, 2) || C (x.1, 3))) := by
  have hi := Gr.row_lt hg hx.1
  have hk := Gr.col_lt hg x.1
  have hc := Gr.cell_eq hg x.1
  unfold Gr.cr
  cases hs : g.sig x.1 == 46
  · rfl
  · have hs2 : g.lt (x.1 / g.m) (x.1 % g.m) = 46 := beq_iff_eq.1 hs
    have h0 := Gr.pairs_at hg hC hi hk (d := 0) (by omega)
    have h1 := Gr.pairs_at hg hC hi hk (d := 1) (by omega)
    rw [hc, hs2] at h0 h1
    simp [bend, opp] at h0 h1
    have hd := hx.2
    have hd4 : x.2 = 0 ∨ x.2 = 1 ∨ x.2 = 2 ∨ x.2 = 3 := by omega
    have hx2 : x = (x.1, x.2) := rfl
    rw [hx2] at hn
    rcases hd4 with h | h | h | h <;> rw [h] at hn <;> simp only [across, h, Bool.true_and] <;> revert hn <;> rw [h0, h1] <;> simp <;> cases C (x.1, 0) <;> cases C (x.1, 1) <;> simp
theorem Gr.beamC_cell {p : Nat} (hp : p < g.ports) (c : Nat) : (g.beamC p (c, 0) || g.beamC p (c, 1) || g.beamC p (c, 2) || g.beamC p (c, 3)) = decide (0 < (g.wayI p).count (c : Int)) := by
  have h1 := (Gr.endOf_pair hg hp).1
  have key : ∀ q, q < g.ports → (0 < (g.wayI q).count (c : Int) ↔ ∃ d, d < 4 ∧ (c, d) ∈ g.wayOf q) := by
    intro q hq
    rw [List.count_pos_iff, Gr.wayI_eq, List.mem_map]
    constructor
    · rintro ⟨x, hx, e⟩
      refine ⟨x.2, (Gr.way_val hg hq hx).2, ?_⟩
      have : x.1 = c := by omega
      rw [← this]
      exact hx
    · rintro ⟨d, _, hd⟩
      exact ⟨_, hd, rfl⟩
  rw [Bool.eq_iff_iff, decide_eq_true_iff]
  simp only [Gr.beamC, Bool.or_eq_true, decide_eq_true_iff]
  constructor
  · intro h
    have h2 : (∃ d, d < 4 ∧ (c, d) ∈ g.wayOf p) ∨ (∃ d, d < 4 ∧ (c, d) ∈ g.wayOf (g.endOf p)) := by
      rcases h with (((h | h) | (h | h)) | (h | h)) | (h | h)
      · exact .inl ⟨0, by omega, h⟩
      · exact .inr ⟨0, by omega, h⟩
      · exact .inl ⟨1, by omega, h⟩
      · exact .inr ⟨1, by omega, h⟩
      · exact .inl ⟨2, by omega, h⟩
      · exact .inr ⟨2, by omega, h⟩
      · exact .inl ⟨3, by omega, h⟩
      · exact .inr ⟨3, by omega, h⟩
    rcases h2 with h2 | h2
    · exact (key p hp).2 h2
    · have := (key _ h1).2 h2
      rwa [Gr.count_back hg hp] at this
  · intro h
    obtain ⟨d, hd, h⟩ := (key p hp).1 h
    have : d = 0 ∨ d = 1 ∨ d = 2 ∨ d = 3 := by omega
    rcases this with rfl | rfl | rfl | rfl <;> simp [h]
/-- As often as the beams cross. -/
theorem Gr.cr_betw {p q : Nat} (hp : p < g.ports) (hq : q < g.ports) (hne : p ≠ q) (hne2 : g.endOf p ≠ q) :
    cntN (fun j => g.cr (g.beamC p) ((iter g.nx j (g.ent q)).getD (g.ent q))) (g.lenOf q) = g.betwN q p := by
  have hC := Gr.beamC_curve hg hp
  have hne3 : g.endOf q ≠ p := fun e => hne2 (by rw [← e, (Gr.endOf_pair hg hq).2.2])
  rw [← Gr.betwS_eq hg hq hp (fun e => hne e.symm) hne3]
  have hl : (g.wayI q).length = g.lenOf q := Gr.cellsTo_length _ _ _
  rw [hl]
  unfold cntN Gr.betwS
  refine sumN_congr fun j hj => ?_
  obtain ⟨x, hx, hx2⟩ := Gr.wayOf_get hg hq hj
  have hxc : (g.wayI q).getD j 0 = (x.1 : Int) := by
    rw [List.getD_eq_getElem?_getD, Gr.wayI_eq, List.getElem?_map, hx2]
    rfl
  have hxm : x ∈ g.wayOf q := List.mem_of_getElem? hx2
  have hxv := Gr.way_val hg hq hxm
  have hnx : g.beamC p x = false := by
    cases hb : g.beamC p x
    · rfl
    · simp only [Gr.beamC, Bool.or_eq_true, decide_eq_true_iff] at hb
      rcases hb with hb | hb
      · obtain ⟨i, hi⟩ := (Gr.mem_way hg hp).1 hb
        exact absurd (Gr.way_apart hg hp hq hi hx).1 hne
      · obtain ⟨i, hi⟩ := (Gr.mem_way hg (Gr.endOf_pair hg hp).1).1 hb
        exact absurd (Gr.way_apart hg (Gr.endOf_pair hg hp).1 hq hi hx).1 hne2
  have hcr : g.cr (g.beamC p) ((iter g.nx j (g.ent q)).getD (g.ent q)) = (g.sig x.1 == 46 && decide (0 < (g.wayI p).count (x.1 : Int))) := by
    rw [hx, Option.getD_some, Gr.cr_iff hg hC hxv hnx, Gr.beamC_cell hg hp]
  simp only [hcr, hxc, Int.toNat_natCast]
  have hb := Gr.count_both hg hp hq hne hne2 x.1
  have hq1 : 1 ≤ (g.wayI q).count (x.1 : Int) := by
    refine List.one_le_count_iff.2 ?_
    rw [Gr.wayI_eq]
    exact List.mem_map.2 ⟨x, hxm, rfl⟩
  generalize (g.wayI p).count (x.1 : Int) = a at *
  have ha : a = 0 ∨ a = 1 := by omega
  by_cases hs : g.sig x.1 = 46
  · rcases ha with rfl | rfl <;> simp [hs]
  · rcases ha with rfl | rfl <;> simp [hs]
theorem Gr.betw_comm (p q : Nat) : g.betwN p q = g.betwN q p := by
  unfold Gr.betwN
  refine cntN_congr fun c _ => ?_
  rw [Bool.and_comm (decide (0 < (g.wayI p).count (c : Int)))]
/-- Beams cross an odd number of times just if their ports do. -/
theorem Gr.betw_odd {p q : Nat} (hp : p < g.ports) (hq : q < g.ports) (hne : p ≠ q) (hne2 : g.endOf p ≠ q) :
    decide (g.betwN p q % 2 = 1) = ((decide (p < q) ^^ decide (g.endOf p < q)) != (decide (p < g.endOf q) ^^ decide (g.endOf p < g.endOf q))) := by
  have hC := Gr.beamC_curve hg hp
  obtain ⟨k1, k2, k3⟩ := Gr.endOf_pair hg hq
  obtain ⟨h1, h2, h3⟩ := Gr.endOf_pair hg hp
  have n1 : p ≠ g.endOf q := fun e => hne2 (by rw [e, k3])
  have n2 : g.endOf p ≠ g.endOf q := fun e => hne (by rw [← h3, e, k3])
  have hn : g.beamC p (g.ent q) = false := by
    rw [Gr.beamC_ent hg hp hq]
    simp [hne.symm, hne2.symm]
  have h := Gr.ecol_whole hg hC hq hn
  rw [Gr.cr_betw hg hp hq hne hne2, Gr.ecol_beam hg hp hq hne hne2, Gr.ecol_beam hg hp k1 n1 n2, ← Gr.betw_comm hg] at h
  rw [h]
  generalize (decide (p < q) ^^ decide (g.endOf p < q)) = a
  generalize decide (g.betwN p q % 2 = 1) = b
  cases a <;> cases b <;> rfl
end
theorem inner_iff {p a q : Nat} (hne : p ≠ q) (hne2 : a ≠ q) : (decide (p < q) ^^ decide (a < q)) = (decide (min p a < q) && decide (q < max p a)) := by
  by_cases h1 : p < q <;> by_cases h2 : a < q
  · have e1 : min p a < q := by omega
    have e2 : ¬ q < max p a := by omega
    simp [*]
  · have e1 : min p a < q := by omega
    have e2 : q < max p a := by omega
    simp [*]
  · have e1 : min p a < q := by omega
    have e2 : q < max p a := by omega
    simp [*]
  · have e1 : ¬ min p a < q := by omega
    simp [*]

theorem cyc_next {α : Type} {s : α → Option α} {x : α} (h : Cyc s x) : ∃ y, s x = some y := by
  obtain ⟨k, hk, e⟩ := h
  match k, hk with
  | k + 1, _ =>
    rw [iter_succ'] at e
    cases hs : s x with
    | none => rw [hs] at e; cases e
    | some y => exact ⟨y, rfl⟩
theorem iter_mod {α : Type} {s : α → Option α} {x : α} {k : Nat} (h : iter s k x = some x) (j : Nat) : iter s j x = iter s (j % k) x := by
  have h2 := Cyc.pow h (j / k)
  have e : j = j / k * k + j % k := (Nat.div_add_mod' j k).symm
  have : iter s (j / k * k + j % k) x = iter s (j % k) x := by rw [iter_add, h2]; rfl
  rw [← e] at this
  exact this
theorem least_pos (P : Nat → Prop) : ∀ k, 0 < k → P k → ∃ k', 0 < k' ∧ k' ≤ k ∧ P k' ∧ ∀ j, 0 < j → j < k' → ¬ P j := by
  intro k
  induction k using Nat.strongRecOn with
  | _ k ih =>
    intro hk hp
    by_cases h : ∃ j, 0 < j ∧ j < k ∧ P j
    · obtain ⟨j, hj, hlt, hpj⟩ := h
      obtain ⟨k', h1, h2, h3, h4⟩ := ih j hlt hj hpj
      exact ⟨k', h1, by omega, h3, h4⟩
    · exact ⟨k, hk, Nat.le_refl _, hp, fun j hj hlt hpj => h ⟨j, hj, hlt, hpj⟩⟩

open Classical in
/-- How many steps lead back. -/
noncomputable def Gr.per (g : Gr) (x : Stt) : Nat := if h : ∃ k, 0 < k ∧ iter g.nx k x = some x ∧ ∀ j, 0 < j → j < k → iter g.nx j x ≠ some x then h.choose else 0
/-- The states of the round of a state, in order. -/
noncomputable def Gr.roundOf (g : Gr) (x : Stt) : List Stt := g.wayTo x (g.per x)
def codeS (x : Stt) : Nat := 4 * x.1 + x.2
def decS (c : Nat) : Stt := (c / 4, c % 4)
theorem dec_code {x : Stt} (h : x.2 < 4) : decS (codeS x) = x := by
  unfold decS codeS
  refine Prod.ext ?_ ?_
  · show (4 * x.1 + x.2) / 4 = x.1
    omega
  · show (4 * x.1 + x.2) % 4 = x.2
    omega
theorem code_dec (c : Nat) : codeS (decS c) = c := by
  unfold decS codeS
  show 4 * (c / 4) + c % 4 = c
  omega
/-- The first state of its round. -/
def Gr.isRep (g : Gr) (x : Stt) : Prop := Cyc g.nx x ∧ ∀ c, c < codeS x → Cyc g.nx (decS c) → ¬ Same g.nx g.rev (decS c) x
open Classical in
/-- The first states of the rounds among the first k states. -/
noncomputable def Gr.repsTo (g : Gr) (k : Nat) : List Stt := ((List.range k).map decS).filter fun x => decide (g.isRep x)
/-- On a beam, or on the round of one of those. -/
def Gr.Marked (g : Gr) (k : Nat) (x : Stt) : Prop := (∃ p, p < g.ports ∧ x ∈ g.wayOf p) ∨ ∃ r ∈ g.repsTo k, Same g.nx g.rev r x

section
variable {g : Gr} (hg : g.ok)
include hg
theorem Gr.end_not_cyc {x y : Stt} (o : On g.nx x y) (e : g.nx y = none) : ¬ Cyc g.nx x := by
  intro c
  obtain ⟨z, hz⟩ := cyc_next (c.on o).2
  rw [e] at hz
  cases hz
theorem Gr.beam_not_cyc {p : Nat} (hp : p < g.ports) {x : Stt} (h : x ∈ g.wayOf p) : ¬ Cyc g.nx x := by
  obtain ⟨j, hj⟩ := (Gr.mem_way hg hp).1 h
  obtain ⟨K, y, hB⟩ := Gr.beam_of hg hp
  intro c
  have h1 := (c.on (On.refl _ _)).2
  by_cases hle : j ≤ K
  · have h2 := hB.way
    rw [show K = j + (K - j) by omega, iter_add, hj] at h2
    exact Gr.end_not_cyc hg ⟨_, h2⟩ hB.last c
  · obtain ⟨z, hz⟩ := iter_lt hj (K + 1) (by omega)
    obtain ⟨z', hz', hzz⟩ := iter_pred hz
    rw [hB.way] at hz'
    cases hz'
    rw [hB.last] at hzz
    cases hzz
theorem Gr.free_cyc {x : Stt} (hx : g.val x) (h : ∀ p, p < g.ports → x ∉ g.wayOf p) : Cyc g.nx x := by
  rcases (Gr.steps hg).ends_or_returns hx with ⟨k, y, _, e, hy⟩ | ⟨k, hk, _, e⟩
  · exfalso
    have hyv := (Gr.steps hg).iter_stay k x y hx e
    obtain ⟨h1, h2⟩ := Gr.ent_out hg hyv hy
    have h3 := (Gr.rvs hg).iter_back k x y hx e
    rw [← h2] at h3
    have h4 : g.rev x ∈ g.wayOf (g.out y) := (Gr.mem_way hg h1).2 ⟨k, h3⟩
    have h5 := Gr.way_rev1 hg h1 h4
    rw [Gr.rev_rev hg hx] at h5
    exact h _ (Gr.endOf_pair hg h1).1 h5
  · exact ⟨k, hk, e⟩
theorem Gr.per_spec {x : Stt} (hx : g.val x) (c : Cyc g.nx x) : 0 < g.per x ∧ g.per x ≤ 100 ∧ iter g.nx (g.per x) x = some x ∧ ∀ j, 0 < j → j < g.per x → iter g.nx j x ≠ some x := by
  obtain ⟨k, hk, hkN, e⟩ : ∃ k, 0 < k ∧ k ≤ 100 ∧ iter g.nx k x = some x := by
    have := Gr.size_le hg
    rcases (Gr.steps hg).ends_or_returns hx with ⟨k, y, _, e, hy⟩ | ⟨k, hk, hkN, e⟩
    · exact absurd c (Gr.end_not_cyc hg ⟨k, e⟩ hy)
    · exact ⟨k, hk, by omega, e⟩
  obtain ⟨k', h1, h2, h3, h4⟩ := least_pos (fun k => iter g.nx k x = some x) k hk e
  have hex : ∃ k, 0 < k ∧ iter g.nx k x = some x ∧ ∀ j, 0 < j → j < k → iter g.nx j x ≠ some x := ⟨k', h1, h3, h4⟩
  have hs := hex.choose_spec
  have hp : g.per x = hex.choose := by unfold Gr.per; rw [dif_pos hex]
  rw [hp]
  refine ⟨hs.1, ?_, hs.2.1, hs.2.2⟩
  apply Nat.le_of_not_lt
  intro hlt
  exact hs.2.2 k' h1 (by omega) h3
theorem Gr.round_length (x : Stt) : (g.roundOf x).length = g.per x := Gr.wayTo_length _ _ _
theorem Gr.round_get {x : Stt} (hx : g.val x) (c : Cyc g.nx x) {i : Nat} (hi : i < g.per x) : ∃ y, iter g.nx i x = some y ∧ (g.roundOf x)[i]? = some y := by
  obtain ⟨_, _, e, _⟩ := Gr.per_spec hg hx c
  obtain ⟨z, hz⟩ := iter_lt e i (by omega)
  refine ⟨z, hz, ?_⟩
  simp [Gr.roundOf, Gr.wayTo, hi, hz]
theorem Gr.mem_round {x y : Stt} (hx : g.val x) (c : Cyc g.nx x) : y ∈ g.roundOf x ↔ On g.nx x y := by
  obtain ⟨h1, _, h2, h3⟩ := Gr.per_spec hg hx c
  constructor
  · intro h
    obtain ⟨i, hi, rfl⟩ := List.getElem_of_mem h
    rw [Gr.round_length hg] at hi
    obtain ⟨y, hy, hy2⟩ := Gr.round_get hg hx c hi
    refine ⟨i, ?_⟩
    rw [hy]
    rw [List.getElem?_eq_getElem (by rw [Gr.round_length hg]; exact hi)] at hy2
    exact hy2.symm
  · rintro ⟨k, e⟩
    rw [iter_mod h2 k] at e
    have hlt := Nat.mod_lt k h1
    obtain ⟨z, hz, hz2⟩ := Gr.round_get hg hx c hlt
    rw [e] at hz
    cases hz
    exact List.mem_of_getElem? hz2
theorem Gr.round_nodup {x : Stt} (hx : g.val x) (c : Cyc g.nx x) : (g.roundOf x).Nodup := by
  obtain ⟨h1, _, h2, h3⟩ := Gr.per_spec hg hx c
  rw [List.nodup_iff_pairwise_ne, List.pairwise_iff_getElem]
  intro i j hi hj hij e
  have hi2 := hi
  have hj2 := hj
  rw [Gr.round_length hg] at hi2 hj2
  obtain ⟨y, hy, hy2⟩ := Gr.round_get hg hx c hi2
  obtain ⟨z, hz, hz2⟩ := Gr.round_get hg hx c hj2
  rw [List.getElem?_eq_getElem hi] at hy2
  rw [List.getElem?_eq_getElem hj] at hz2
  have e1 := Option.some.inj hy2
  have e2 := Option.some.inj hz2
  rw [e, e2] at e1
  subst e1
  have h4 := (Gr.steps hg).back i x x z hx hx (j - i) hy (by rw [show i + (j - i) = j by omega]; exact hz)
  exact h3 (j - i) (by omega) (by omega) h4
theorem Gr.dec_val {c : Nat} (h : c < 4 * (g.n * g.m)) : g.val (decS c) := ⟨by show c / 4 < _; omega, by show c % 4 < 4; omega⟩
theorem Gr.code_lt {x : Stt} (h : g.val x) : codeS x < 4 * (g.n * g.m) := by
  have h1 := h.1
  have h2 := h.2
  unfold codeS
  omega
theorem Gr.mem_reps {k : Nat} {x : Stt} : x ∈ g.repsTo k ↔ g.isRep x ∧ ∃ c, c < k ∧ decS c = x := by
  unfold Gr.repsTo
  rw [List.mem_filter, List.mem_map]
  simp only [List.mem_range, decide_eq_true_iff]
  exact And.comm
/-- Each round has a first state. -/
theorem Gr.rep_of : ∀ c, c < 4 * (g.n * g.m) → Cyc g.nx (decS c) → ∃ c', c' ≤ c ∧ g.isRep (decS c') ∧ Same g.nx g.rev (decS c') (decS c) := by
  intro c
  induction c using Nat.strongRecOn with
  | _ c ih =>
    intro hc hcy
    by_cases h : ∃ c', c' < c ∧ Cyc g.nx (decS c') ∧ Same g.nx g.rev (decS c') (decS c)
    · obtain ⟨c', hlt, hcy', hs⟩ := h
      obtain ⟨c2, h1, h2, h3⟩ := ih c' hlt (by omega) hcy'
      have hv2 := Gr.dec_val hg (c := c2) (by omega)
      have hv' := Gr.dec_val hg (c := c') (by omega)
      have hv := Gr.dec_val hg hc
      exact ⟨c2, by omega, h2, (Gr.rvs hg).eqv.trans _ _ _ ⟨hv2, h2.1⟩ ⟨hv', hcy'⟩ ⟨hv, hcy⟩ h3 hs⟩
    · refine ⟨c, Nat.le_refl _, ⟨hcy, fun c' hlt hcy' hs => ?_⟩, .inl (On.refl _ _)⟩
      rw [code_dec] at hlt
      exact h ⟨c', hlt, hcy', hs⟩
theorem Gr.marked_lt {k c : Nat} (hk : k ≤ 4 * (g.n * g.m)) (hc : c < k) : g.Marked k (decS c) := by
  by_cases h : ∃ p, p < g.ports ∧ decS c ∈ g.wayOf p
  · exact .inl h
  · have hv := Gr.dec_val hg (c := c) (by omega)
    have hcy := Gr.free_cyc hg hv fun p hp hm => h ⟨p, hp, hm⟩
    obtain ⟨c', h1, h2, h3⟩ := Gr.rep_of hg c (by omega) hcy
    exact .inr ⟨decS c', (Gr.mem_reps hg).2 ⟨h2, c', by omega, rfl⟩, h3⟩
theorem Gr.not_marked {k : Nat} (hk : k < 4 * (g.n * g.m)) (h : ¬ g.Marked k (decS k)) : Cyc g.nx (decS k) ∧ g.repsTo (k + 1) = g.repsTo k ++ [decS k] := by
  have hv := Gr.dec_val hg hk
  have hcy := Gr.free_cyc hg hv fun p hp hm => h (.inl ⟨p, hp, hm⟩)
  refine ⟨hcy, ?_⟩
  have hr : g.isRep (decS k) := by
    refine ⟨hcy, fun c hc hcc hs => ?_⟩
    rw [code_dec] at hc
    obtain ⟨c', h1, h2, h3⟩ := Gr.rep_of hg c (by omega) hcc
    exact h (.inr ⟨decS c', (Gr.mem_reps hg).2 ⟨h2, c', by omega, rfl⟩, (Gr.rvs hg).eqv.trans _ _ _ ⟨Gr.dec_val hg (by omega), h2.1⟩ ⟨Gr.dec_val hg (by omega), hcc⟩ ⟨hv, hcy⟩ h3 hs⟩)
  unfold Gr.repsTo
  rw [List.range_succ, List.map_append, List.filter_append]
  simp [hr]
theorem Gr.is_marked {k : Nat} (hk : k < 4 * (g.n * g.m)) (h : g.Marked k (decS k)) : g.repsTo (k + 1) = g.repsTo k := by
  have hr : ¬ g.isRep (decS k) := by
    rintro ⟨hcy, hn⟩
    rcases h with ⟨p, hp, hm⟩ | ⟨r, hr, hs⟩
    · exact Gr.beam_not_cyc hg hp hm hcy
    · obtain ⟨h1, c, hc, rfl⟩ := (Gr.mem_reps hg).1 hr
      exact hn c (by rw [code_dec]; exact hc) h1.1 hs
  unfold Gr.repsTo
  rw [List.range_succ, List.map_append, List.filter_append]
  simp [hr]
theorem Gr.reps_trv : Trv (fun x => g.val x ∧ Cyc g.nx x) (Same g.nx g.rev) (g.repsTo (4 * (g.n * g.m))) where
  all := fun x hx => by
    obtain ⟨h1, c, hc, rfl⟩ := (Gr.mem_reps hg).1 hx
    exact ⟨Gr.dec_val hg hc, h1.1⟩
  apart := by
    have key : ∀ k, k ≤ 4 * (g.n * g.m) → (g.repsTo k).Pairwise fun x y => ¬ Same g.nx g.rev x y := by
      intro k
      induction k with
      | zero => intro _; exact List.Pairwise.nil
      | succ k ih =>
        intro hk
        by_cases h : g.Marked k (decS k)
        · rw [Gr.is_marked hg (by omega) h]
          exact ih (by omega)
        · obtain ⟨hcy, e⟩ := Gr.not_marked hg (by omega) h
          rw [e, List.pairwise_append]
          refine ⟨ih (by omega), List.pairwise_singleton _ _, fun x hx y hy hs => ?_⟩
          rw [List.mem_singleton.1 hy] at hs
          exact h (.inr ⟨x, hx, hs⟩)
    exact key _ (Nat.le_refl _)
  some := fun x hx => by
    obtain ⟨hv, hcy⟩ := hx
    have hd := dec_code hv.2
    obtain ⟨c', h1, h2, h3⟩ := Gr.rep_of hg (codeS x) (Gr.code_lt hg hv) (by rw [hd]; exact hcy)
    rw [hd] at h3
    have hlt := Gr.code_lt hg hv
    exact ⟨decS c', (Gr.mem_reps hg).2 ⟨h2, c', by omega, rfl⟩, (Gr.rvs hg).eqv.symm _ _ ⟨Gr.dec_val hg (by omega), h2.1⟩ ⟨hv, hcy⟩ h3⟩
theorem Gr.reps_num : Rounds g.nx g.rev g.val (g.repsTo (4 * (g.n * g.m))).length := ⟨_, Gr.reps_trv hg, rfl⟩
theorem Gr.same_iff {x y : Stt} (hx : g.val x) (c : Cyc g.nx x) : Same g.nx g.rev x y ↔ y ∈ g.roundOf x ∨ g.rev y ∈ g.roundOf x := by
  rw [Gr.mem_round hg hx c, Gr.mem_round hg hx c]
  exact Iff.rfl
end

/-- The numbers below N of the kind p that no lesser one of the kind is like. -/
def firsts (p : Nat → Bool) (q : Nat → Nat → Bool) (N : Nat) : List Nat := (List.range N).filter fun d => p d && (List.range d).all fun e => !(p e && q e d)
theorem mem_firsts {p : Nat → Bool} {q : Nat → Nat → Bool} {N d : Nat} : d ∈ firsts p q N ↔ d < N ∧ p d = true ∧ ∀ e, e < d → p e = true → q e d = false := by
  unfold firsts
  rw [List.mem_filter, List.mem_range, Bool.and_eq_true, List.all_eq_true]
  constructor
  · rintro ⟨h1, h2, h3⟩
    refine ⟨h1, h2, fun e he hp => ?_⟩
    have := h3 e (List.mem_range.2 he)
    simpa [hp] using this
  · rintro ⟨h1, h2, h3⟩
    refine ⟨h1, h2, fun e he => ?_⟩
    have := h3 e (List.mem_range.1 he)
    cases hp : p e
    · simp
    · simp [this hp]
theorem Trv.first {P : Nat → Prop} {R : Nat → Nat → Prop} (hE : Eqv P R) {N : Nat} (hN : ∀ x, P x → x < N) {p : Nat → Bool} {q : Nat → Nat → Bool}
    (hp : ∀ x, x < N → (p x = true ↔ P x)) (hq : ∀ x y, P x → P y → (q x y = true ↔ R x y)) : Trv P R (firsts p q N) where
  all := fun x hx => by
    obtain ⟨h1, h2, _⟩ := mem_firsts.1 hx
    exact (hp x h1).1 h2
  apart := by
    have h1 : (firsts p q N).Pairwise (· < ·) := List.Pairwise.filter _ List.pairwise_lt_range
    refine List.Pairwise.imp_of_mem ?_ h1
    intro x y hx hy hlt hR
    obtain ⟨a1, a2, _⟩ := mem_firsts.1 hx
    obtain ⟨b1, b2, b3⟩ := mem_firsts.1 hy
    have := b3 x hlt a2
    rw [(hq x y ((hp x a1).1 a2) ((hp y b1).1 b2)).2 hR] at this
    cases this
  some := by
    intro x
    induction x using Nat.strongRecOn with
    | _ x ih =>
      intro hx
      by_cases h : ∃ e, e < x ∧ p e = true ∧ q e x = true
      · obtain ⟨e, he, h1, h2⟩ := h
        have hPe := (hp e (by have := hN x hx; omega)).1 h1
        have hR := (hq e x hPe hx).1 h2
        obtain ⟨y, hy, hRy⟩ := ih e he hPe
        obtain ⟨y1, y2, _⟩ := mem_firsts.1 hy
        exact ⟨y, hy, hE.trans x e y hx hPe ((hp y y1).1 y2) (hE.symm e x hPe hx hR) hRy⟩
      · refine ⟨x, mem_firsts.2 ⟨hN x hx, (hp x (hN x hx)).2 hx, fun e he h1 => ?_⟩, hE.refl x hx⟩
        cases h2 : q e x
        · rfl
        · exact absurd ⟨e, he, h1, h2⟩ h

/-- What a machine of N states can find of its ways. -/
def cycN (s : Nat → Option Nat) (N d : Nat) : Bool := (List.range N).any fun k => iter s (k + 1) d == some d
def onN (s : Nat → Option Nat) (N x y : Nat) : Bool := (List.range N).any fun k => iter s k x == some y
def sameN (s : Nat → Option Nat) (r : Nat → Nat) (N x y : Nat) : Bool := onN s N x y || onN s N x (r y)
def roundsN (s : Nat → Option Nat) (r : Nat → Nat) (N : Nat) : Nat := (firsts (cycN s N) (sameN s r N) N).length
section
variable {s : Nat → Option Nat} {r : Nat → Nat} {N : Nat} (h : Rv s r (· < N) id N)
include h
theorem cycN_iff {x : Nat} (hx : x < N) : cycN s N x = true ↔ Cyc s x := by
  simp only [cycN, List.any_eq_true, List.mem_range, beq_iff_eq]
  constructor
  · rintro ⟨k, _, e⟩
    exact ⟨k + 1, by omega, e⟩
  · intro c
    rcases h.steps.ends_or_returns hx with ⟨k, y, _, e, hy⟩ | ⟨k, h1, h2, e⟩
    · obtain ⟨z, hz⟩ := cyc_next (c.on ⟨k, e⟩).2
      rw [hy] at hz
      cases hz
    · exact ⟨k - 1, by omega, by rw [show k - 1 + 1 = k by omega]; exact e⟩
theorem onN_iff {x y : Nat} (hx : x < N) : onN s N x y = true ↔ On s x y := by
  simp only [onN, List.any_eq_true, List.mem_range, beq_iff_eq]
  constructor
  · rintro ⟨k, _, e⟩
    exact ⟨k, e⟩
  · rintro ⟨j, e⟩
    rcases h.steps.ends_or_returns hx with ⟨k, z, hk, e1, hz⟩ | ⟨k, h1, h2, e1⟩
    · refine ⟨j, ?_, e⟩
      apply Classical.byContradiction
      intro hlt
      obtain ⟨u, hu⟩ := iter_lt e (k + 1) (by omega)
      obtain ⟨u', hu', hu2⟩ := iter_pred hu
      rw [e1] at hu'
      cases hu'
      rw [hz] at hu2
      cases hu2
    · refine ⟨j % k, by have := Nat.mod_lt j h1; omega, ?_⟩
      rw [← iter_mod e1 j]
      exact e
theorem sameN_iff {x y : Nat} (hx : x < N) : sameN s r N x y = true ↔ Same s r x y := by
  unfold sameN
  rw [Bool.or_eq_true, onN_iff h hx, onN_iff h hx]
  exact Iff.rfl
theorem roundsN_num : Rounds s r (· < N) (roundsN s r N) :=
  ⟨_, Trv.first h.eqv (N := N) (fun x hx => hx.1) (fun x hx => (cycN_iff h hx).trans ⟨fun c => ⟨hx, c⟩, fun c => c.2⟩) (fun x y hx hy => sameN_iff h hx.1), rfl⟩
end
end Go.Proofs.Ytmlenaelijchjaa
