/- How often a cell's path goes through the cell: plain facts. -/
import Derived.Test.YtmlenaelijchjaaPathIdL
import Derived.Test.YtmlenaelijchjaaPatchL
import Derived.Test.YtmlenaelijchjaaChordsTL
namespace Go.Proofs.Ytmlenaelijchjaa
set_option linter.unusedVariables false
set_option linter.unusedSimpArgs false
set_option linter.unusedSectionVars false

open Classical in
noncomputable def Gr.fw (g : Gr) (x : Stt) (c d : Nat) : Bool := decide (On g.nx x (c, d))
open Classical in
noncomputable def Gr.bw (g : Gr) (x : Stt) (c d : Nat) : Bool := decide (On g.nx (c, d) x)
/-- How often the path of (c, 0) goes through c. -/
noncomputable def Gr.passN (g : Gr) (c : Nat) : Nat := cntN (fun d => g.fw (c, 0) c d || g.bw (c, 0) c d) 4
theorem Gr.fw_iff {g : Gr} {x : Stt} {c d : Nat} : g.fw x c d = true ↔ On g.nx x (c, d) := by simp [Gr.fw]
theorem Gr.bw_iff {g : Gr} {x : Stt} {c d : Nat} : g.bw x c d = true ↔ On g.nx (c, d) x := by simp [Gr.bw]

theorem count_states {L : List Stt} (hd : L.Nodup) (hv : ∀ x ∈ L, x.2 < 4) (c : Nat) (P : Nat → Bool) (hP : ∀ d, d < 4 → (P d = true ↔ (c, d) ∈ L)) :
    (L.map fun y => (y.1 : Int)).count (c : Int) = cntN P 4 := by
  have e : (L.map fun y => (y.1 : Int)).count (c : Int) = (L.filter fun y => y.1 == c).length := by
    rw [List.count_eq_countP, List.countP_map, List.countP_eq_length_filter]
    congr 1
    refine List.filter_congr fun x _ => ?_
    show ((x.1 : Int) == (c : Int)) = (x.1 == c)
    rw [Bool.eq_iff_iff, beq_iff_eq, beq_iff_eq]
    omega
  rw [e, cntN_list]
  refine Nat.le_antisymm ?_ ?_
  · refine inj_len (fun y d => y = (c, d)) _ _ (fun y hy => ?_) ?_
    · obtain ⟨h1, h2⟩ := List.mem_filter.1 hy
      have h2 := beq_iff_eq.1 h2
      have h4 := hv y h1
      have e2 : y = (c, y.2) := Prod.ext h2 rfl
      exact ⟨y.2, List.mem_filter.2 ⟨List.mem_range.2 h4, (hP _ h4).2 (by rw [← e2]; exact h1)⟩, e2⟩
    · refine List.Pairwise.imp ?_ (List.nodup_iff_pairwise_ne.1 (hd.filter _))
      rintro y z hn d _ h1 h2
      exact hn (by rw [h1, h2])
  · refine inj_len (fun d y => y = (c, d)) _ _ (fun d hd2 => ?_) ?_
    · obtain ⟨h1, h2⟩ := List.mem_filter.1 hd2
      have h1 := List.mem_range.1 h1
      exact ⟨(c, d), List.mem_filter.2 ⟨(hP d h1).1 h2, beq_self_eq_true _⟩, rfl⟩
    · refine List.Pairwise.imp ?_ ((List.nodup_iff_pairwise_ne.1 (List.nodup_range (n := 4))).filter _)
      rintro d d' hn y _ h1 h2
      exact hn (by rw [h1] at h2; exact congrArg Prod.snd h2)
theorem cnt4_eq (p : Nat → Bool) : cntN p 4 = (if p 0 then 1 else 0) + (if p 1 then 1 else 0) + (if p 2 then 1 else 0) + (if p 3 then 1 else 0) := by
  simp [cntN, sumN]
theorem r4_lt (L : Int) (d : Nat) : r4 L d < 4 := opp_lt _
theorem r4_r4 (L : Int) {d : Nat} (h : d < 4) : r4 L (r4 L d) = d := by
  unfold r4
  rw [bend_opp L h, opp_opp h]
theorem cnt_r4 (L : Int) (p : Nat → Bool) : cntN (fun d => p (r4 L d)) 4 = cntN p 4 := by
  refine Nat.le_antisymm ?_ ?_
  · exact cntN_inj (r4 L) (fun d hd h => ⟨r4_lt L d, h⟩) fun d d' hd hd' _ _ e => by rw [← r4_r4 L hd, e, r4_r4 L hd']
  · exact cntN_inj (r4 L) (fun d hd h => ⟨r4_lt L d, by show p (r4 L (r4 L d)) = true; rw [r4_r4 L hd]; exact h⟩) fun d d' hd hd' _ _ e => by rw [← r4_r4 L hd, e, r4_r4 L hd']
theorem fin_self (L : Int) (P : Nat → Bool) (h0 : P 0 = true) (hd : ∀ d, d < 4 → ¬ (P d = true ∧ P (r4 L d) = true)) :
    cntN P 4 = 2 ↔ ∀ d, d < 4 → P d = true ∨ P (r4 L d) = true := by
  have h1 := hd 0 (by decide)
  have h2 := hd 1 (by decide)
  have h3 := hd 2 (by decide)
  have h4 := hd 3 (by decide)
  have e : (∀ d, d < 4 → P d = true ∨ P (r4 L d) = true) ↔ (P 0 = true ∨ P (r4 L 0) = true) ∧ (P 1 = true ∨ P (r4 L 1) = true) ∧ (P 2 = true ∨ P (r4 L 2) = true) ∧ (P 3 = true ∨ P (r4 L 3) = true) := by
    constructor
    · intro h; exact ⟨h 0 (by decide), h 1 (by decide), h 2 (by decide), h 3 (by decide)⟩
    · rintro ⟨a, b, c, d⟩ x hx
      have : x = 0 ∨ x = 1 ∨ x = 2 ∨ x = 3 := by omega
      rcases this with rfl | rfl | rfl | rfl <;> assumption
  rw [e, cnt4_eq]
  by_cases a : L = 114
  · subst a
    simp only [show r4 114 0 = 3 from rfl, show r4 114 1 = 2 from rfl, show r4 114 2 = 1 from rfl, show r4 114 3 = 0 from rfl] at *
    revert h0 h1 h2 h3 h4
    cases P 0 <;> cases P 1 <;> cases P 2 <;> cases P 3 <;> simp
  · by_cases b : L = 102
    · subst b
      simp only [show r4 102 0 = 1 from rfl, show r4 102 1 = 0 from rfl, show r4 102 2 = 3 from rfl, show r4 102 3 = 2 from rfl] at *
      revert h0 h1 h2 h3 h4
      cases P 0 <;> cases P 1 <;> cases P 2 <;> cases P 3 <;> simp
    · have r : ∀ d, r4 L d = opp d := fun d => by unfold r4 bend; simp [a, b]
      simp only [r, show opp 0 = 2 from rfl, show opp 1 = 3 from rfl, show opp 2 = 0 from rfl, show opp 3 = 1 from rfl] at *
      revert h0 h1 h2 h3 h4
      cases P 0 <;> cases P 1 <;> cases P 2 <;> cases P 3 <;> simp
theorem cnt_or {p q : Nat → Bool} (p0 : p 0 = true) (q0 : q 0 = true) (h : ∀ d, 0 < d → d < 4 → ¬ (p d = true ∧ q d = true)) :
    cntN p 4 + (cntN q 4 - 1) = cntN (fun d => p d || q d) 4 := by
  have h1 := h 1 (by decide) (by decide)
  have h2 := h 2 (by decide) (by decide)
  have h3 := h 3 (by decide) (by decide)
  rw [cnt4_eq, cnt4_eq, cnt4_eq]
  revert p0 q0 h1 h2 h3
  cases p 0 <;> cases p 1 <;> cases p 2 <;> cases p 3 <;> cases q 0 <;> cases q 1 <;> cases q 2 <;> cases q 3 <;> simp
section
variable {g : Gr} (hg : g.ok)
include hg
theorem Gr.no_rev {x : Stt} (hx : g.val x) : ¬ (On g.nx x (g.rev x) ∨ On g.nx (g.rev x) x) := by
  rintro (⟨k, h⟩ | ⟨k, h⟩)
  · exact Gr.no_turn hg k x hx h
  · have := Gr.no_turn hg k (g.rev x) (Gr.rev_val hg hx)
    rw [Gr.rev_rev hg hx] at this
    exact this h
theorem Gr.on_meet {x y z : Stt} (hx : g.val x) (hy : g.val y) (h1 : On g.nx x z) (h2 : On g.nx y z) : On g.nx x y ∨ On g.nx y x := by
  obtain ⟨i, hi⟩ := h1
  obtain ⟨j, hj⟩ := h2
  rcases Nat.le_total i j with h | h
  · exact .inr ⟨j - i, (Gr.steps hg).back i x y z hx hy (j - i) hi (by rw [show i + (j - i) = j by omega]; exact hj)⟩
  · exact .inl ⟨i - j, (Gr.steps hg).back j y x z hy hx (i - j) hj (by rw [show j + (i - j) = i by omega]; exact hi)⟩
theorem Gr.rev_at (c d : Nat) : g.rev (c, d) = (c, r4 (g.sig c) d) := rfl
theorem Gr.self_all {c : Nat} (hc : c < g.n * g.m) : g.passN c = 2 ↔ ∀ d, d < 4 → g.Path (c, 0) (c, d) := by
  have h0 : g.val (c, 0) := ⟨hc, by show 0 < 4; omega⟩
  unfold Gr.passN
  rw [fin_self (g.sig c)]
  · refine forall_congr' fun d => forall_congr' fun hd => ?_
    have hv : g.val (c, d) := ⟨hc, hd⟩
    unfold Gr.Path
    rw [Gr.rev_at hg, Bool.or_eq_true, Bool.or_eq_true, Gr.fw_iff, Gr.bw_iff, Gr.fw_iff, Gr.bw_iff]
  · have : g.fw (c, 0) c 0 = true := Gr.fw_iff.2 ⟨0, rfl⟩
    rw [this]
    rfl
  · intro d hd
    have hv : g.val (c, d) := ⟨hc, hd⟩
    have hr := Gr.no_rev hg hv
    have hv2 := Gr.rev_val hg hv
    rw [Gr.rev_at hg] at hr hv2
    rw [Bool.or_eq_true, Bool.or_eq_true, Gr.fw_iff, Gr.bw_iff, Gr.fw_iff, Gr.bw_iff]
    rintro ⟨h1 | h1, h2 | h2⟩
    · exact hr (on_total h1 h2)
    · exact hr (.inr (On.trans h2 h1))
    · exact hr (.inl (On.trans h1 h2))
    · exact hr (Gr.on_meet hg hv hv2 h1 h2)
theorem Gr.way_val' {x y : Stt} (hx : g.val x) {N : Nat} (hN : ∃ z, iter g.nx N x = some z) (h : y ∈ g.wayTo x N) : g.val y := by
  obtain ⟨i, hi, rfl⟩ := List.mem_map.1 h
  obtain ⟨z, hz⟩ := hN
  obtain ⟨u, hu⟩ := iter_lt hz i (by have := List.mem_range.1 hi; omega)
  rw [hu]
  exact (Gr.rvs hg).steps.iter_stay i x u hx hu
/-- The cells of a way to its end. -/
theorem Gr.count_end {x y : Stt} {k : Nat} (hx : g.val x) (e : iter g.nx k x = some y) (hy : g.nx y = none) (c : Nat) :
    (g.cellsTo x (k + 1)).count (c : Int) = cntN (g.fw x c) 4 := by
  have hget : ∀ i, i ≤ k → ∃ z, iter g.nx i x = some z ∧ (g.wayTo x (k + 1))[i]? = some z := fun i hi => by
    obtain ⟨z, hz⟩ := iter_lt e i hi
    exact ⟨z, hz, by simp [Gr.wayTo, hz, show i < k + 1 by omega]⟩
  have hmem : ∀ z, z ∈ g.wayTo x (k + 1) ↔ On g.nx x z := fun z => by
    constructor
    · intro h
      obtain ⟨i, hi, rfl⟩ := List.getElem_of_mem h
      have hi2 := hi
      rw [Gr.wayTo_length] at hi2
      obtain ⟨u, hu, hu2⟩ := hget i (by omega)
      rw [List.getElem?_eq_getElem hi] at hu2
      exact ⟨i, by rw [hu]; exact hu2.symm⟩
    · rintro ⟨j, hj⟩
      have hjk : j ≤ k := by
        apply Classical.byContradiction
        intro hn
        obtain ⟨u, hu⟩ := iter_lt hj (k + 1) (by omega)
        obtain ⟨v, hv, hvu⟩ := iter_pred hu
        rw [e] at hv
        cases hv
        rw [hy] at hvu
        cases hvu
      obtain ⟨u, hu, hu2⟩ := hget j hjk
      rw [hj] at hu
      cases hu
      exact List.mem_of_getElem? hu2
  refine count_states ?_ (fun z hz => ?_) c _ fun d hd => by rw [Gr.fw_iff, hmem]
  · rw [List.nodup_iff_pairwise_ne, List.pairwise_iff_getElem]
    intro i j hi hj hij e2
    have hi2 := hi
    have hj2 := hj
    rw [Gr.wayTo_length] at hi2 hj2
    obtain ⟨u, hu, hu2⟩ := hget i (by omega)
    obtain ⟨v, hv, hv2⟩ := hget j (by omega)
    rw [List.getElem?_eq_getElem hi] at hu2
    rw [List.getElem?_eq_getElem hj] at hv2
    have e3 := Option.some.inj hu2
    rw [e2, Option.some.inj hv2] at e3
    subst e3
    have hc : Cyc g.nx v := ⟨j - i, by omega, by
      rw [show j = i + (j - i) by omega, iter_add, hu] at hv
      exact hv⟩
    have ho : On g.nx v y := ⟨k - j, by
      rw [show k = j + (k - j) by omega, iter_add, hv] at e
      exact e⟩
    exact Gr.end_not_cyc hg ho hy hc
  · obtain ⟨j, hj⟩ := (hmem z).1 hz
    exact ((Gr.rvs hg).steps.iter_stay j x z hx hj).2
theorem Gr.count_cyc {x : Stt} (hx : g.val x) (hc : Cyc g.nx x) (c : Nat) : (g.cellsTo x (g.per x)).count (c : Int) = cntN (g.fw x c) 4 := by
  refine count_states (Gr.round_nodup hg hx hc) (fun z hz => ?_) c _ fun d hd => by rw [Gr.fw_iff]; exact (Gr.mem_round hg hx hc).symm
  obtain ⟨j, hj⟩ := (Gr.mem_round hg hx hc).1 hz
  exact ((Gr.rvs hg).steps.iter_stay j x z hx hj).2
theorem Gr.self_round {c : Nat} (hc : c < g.n * g.m) (cy : Cyc g.nx (c, 0)) : (g.cellsTo (c, 0) (g.per (c, 0))).count (c : Int) = g.passN c := by
  have h0 : g.val (c, 0) := ⟨hc, by show 0 < 4; omega⟩
  rw [Gr.count_cyc hg h0 cy]
  unfold Gr.passN
  rw [cntN_list, cntN_list]
  congr 1
  refine List.filter_congr fun d hd => ?_
  have hd := List.mem_range.1 hd
  rw [Bool.eq_iff_iff, Bool.or_eq_true, Gr.fw_iff, Gr.bw_iff]
  exact ⟨.inl, fun h => h.elim id (Gr.cyc_back hg h0 ⟨hc, hd⟩ cy)⟩
theorem count_drop9 {L : List Int} {a : Int} (h : L[0]? = some a) : (L.drop 1).count a = L.count a - 1 := by
  cases L with
  | nil => simp at h
  | cons b t =>
    simp at h
    subst h
    simp
theorem Gr.self_beam {c k k' : Nat} {y y' : Stt} (hc : c < g.n * g.m) (e : iter g.nx k (c, 0) = some y) (hy : g.nx y = none) (e' : iter g.nx k' (g.rev (c, 0)) = some y') (hy' : g.nx y' = none) :
    (g.cellsTo (c, 0) (k + 1) ++ (g.cellsTo (g.rev (c, 0)) (k' + 1)).drop 1).count (c : Int) = g.passN c := by
  have h0 : g.val (c, 0) := ⟨hc, by show 0 < 4; omega⟩
  have hr := Gr.rev_val hg h0
  have h1 : (g.cellsTo (g.rev (c, 0)) (k' + 1))[0]? = some (c : Int) := by simp [Gr.cellsTo, Gr.wayTo, iter]; rfl
  have e3 : cntN (g.fw (g.rev (c, 0)) c) 4 = cntN (g.bw (c, 0) c) 4 := by
    rw [← cnt_r4 (g.sig c) (g.bw (c, 0) c), cntN_list, cntN_list]
    congr 1
    refine List.filter_congr fun d hd => ?_
    have hd := List.mem_range.1 hd
    have hv : g.val (c, d) := ⟨hc, hd⟩
    rw [Bool.eq_iff_iff, Gr.fw_iff, Gr.bw_iff]
    constructor
    · intro h
      have := (Gr.rvs hg).on_back hr h
      rwa [Gr.rev_rev hg h0] at this
    · intro h
      have := (Gr.rvs hg).on_back (Gr.rev_val hg hv) h
      rwa [Gr.rev_rev hg hv] at this
  rw [List.count_append, count_drop9 hg h1, Gr.count_end hg h0 e hy, Gr.count_end hg hr e' hy', e3]
  unfold Gr.passN
  refine cnt_or (Gr.fw_iff.2 ⟨0, rfl⟩) (Gr.bw_iff.2 ⟨0, rfl⟩) fun d hd0 hd4 => ?_
  rw [Gr.fw_iff, Gr.bw_iff]
  rintro ⟨⟨i, hi⟩, ⟨j, hj⟩⟩
  have hij : 0 < i + j := by
    apply Nat.pos_of_ne_zero
    intro h
    have : i = 0 := by omega
    subst this
    have := Option.some.inj hi
    have := congrArg Prod.snd this
    simp at this
    omega
  have cy : Cyc g.nx (c, 0) := ⟨i + j, hij, by rw [iter_add, hi]; exact hj⟩
  exact Gr.end_not_cyc hg ⟨k, e⟩ hy cy
/-- A way that does not come back ends, and so does that from its reversed state. -/
theorem Gr.ends_both {x : Stt} (hx : g.val x) (hc : ¬ Cyc g.nx x) : ∃ k y k' y', k < 100 ∧ k' < 100 ∧ iter g.nx k x = some y ∧ g.nx y = none ∧ iter g.nx k' (g.rev x) = some y' ∧ g.nx y' = none := by
  have hsz := Gr.size_le hg
  have hr := Gr.rev_val hg hx
  rcases (Gr.steps hg).ends_or_returns hx with ⟨k, y, hk, e, hy⟩ | ⟨k, hk, _, e⟩
  · rcases (Gr.steps hg).ends_or_returns hr with ⟨k', y', hk', e', hy'⟩ | ⟨k', hk', _, e'⟩
    · exact ⟨k, y, k', y', by omega, by omega, e, hy, e', hy'⟩
    · refine absurd ?_ hc
      have := (Gr.rvs hg).cyc_r hr ⟨k', hk', e'⟩
      rwa [Gr.rev_rev hg hx] at this
  · exact absurd ⟨k, hk, e⟩ hc
end
end Go.Proofs.Ytmlenaelijchjaa
