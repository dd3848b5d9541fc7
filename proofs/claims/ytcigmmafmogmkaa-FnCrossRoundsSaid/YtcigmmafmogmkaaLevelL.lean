/- Rounds cross other paths an even number of times: plain facts. -/
import Derived.Test.YtcigmmafmogmkaaCrossL
import Derived.Test.YtcigmmafmogmkaaRoundL
import Derived.Test.YtcigmmafmogmkaaChordsTL
namespace Go.Proofs.Ytcigmmafmogmkaa
set_option linter.unusedVariables false
set_option linter.unusedSimpArgs false
set_option linter.unusedSectionVars false

/-- The state lies on the round number i. -/
def Gr.isR (g : Gr) (i : Nat) (x : Stt) : Prop := ∃ r, (g.repsTo (4 * (g.n * g.m)))[i]? = some r ∧ Proofs.Ytcigmmafmogmkaa.Same g.nx g.rev r x
open Classical in
/-- 0 on beams, i + 1 on the round number i. -/
noncomputable def Gr.lv (g : Gr) (x : Stt) : Nat := if h : ∃ i, g.isR i x then h.choose + 1 else 0
section
variable {g : Gr} (hg : g.ok)
include hg
theorem Gr.isR_cyc {i : Nat} {x : Stt} (hx : g.val x) (h : g.isR i x) : Cyc g.nx x := by
  obtain ⟨r, hr, hs⟩ := h
  obtain ⟨vr, cr⟩ := (Gr.reps_trv hg).all r (List.mem_of_getElem? hr)
  exact Gr.same_cyc hg vr hx cr hs
theorem Gr.isR_uniq {i j : Nat} {x : Stt} (hx : g.val x) (h : g.isR i x) (h' : g.isR j x) : i = j := by
  have ht := Gr.reps_trv hg
  have hE := (Gr.rvs hg).eqv
  have cx := Gr.isR_cyc hg hx h
  have key : ∀ {i j}, g.isR i x → g.isR j x → ¬ i < j := by
    rintro i j ⟨r, hr, hs⟩ ⟨r', hr', hs'⟩ hlt
    obtain ⟨h1, e1⟩ := List.getElem?_eq_some_iff.1 hr
    obtain ⟨h2, e2⟩ := List.getElem?_eq_some_iff.1 hr'
    have hap := (List.pairwise_iff_getElem.1 ht.apart) i j h1 h2 hlt
    rw [e1, e2] at hap
    have p1 := ht.all r (List.mem_of_getElem? hr)
    have p2 := ht.all r' (List.mem_of_getElem? hr')
    exact hap (hE.trans _ _ _ p1 ⟨hx, cx⟩ p2 hs (hE.symm _ _ p2 ⟨hx, cx⟩ hs'))
  have := key h h'
  have := key h' h
  omega
theorem Gr.lv_iff {i : Nat} {x : Stt} (hx : g.val x) : g.lv x = i + 1 ↔ g.isR i x := by
  unfold Gr.lv
  constructor
  · intro e
    split at e
    · rename_i h
      have : h.choose = i := by omega
      rw [← this]
      exact h.choose_spec
    · omega
  · intro h
    have hx2 : ∃ i, g.isR i x := ⟨i, h⟩
    rw [dif_pos hx2, Gr.isR_uniq hg hx hx2.choose_spec h]
theorem Gr.lv_zero {x : Stt} (hx : g.val x) : g.lv x = 0 ↔ g.onB x = true := by
  rw [Gr.onB_iff]
  constructor
  · intro e c
    obtain ⟨r, hr, hs⟩ := (Gr.reps_trv hg).some x ⟨hx, c⟩
    obtain ⟨i, hi, rfl⟩ := List.getElem_of_mem hr
    have hE := (Gr.rvs hg).eqv
    have hs := hE.symm _ _ ⟨hx, c⟩ ((Gr.reps_trv hg).all _ hr) hs
    have := (Gr.lv_iff hg hx (i := i)).2 ⟨_, List.getElem?_eq_getElem hi, hs⟩
    omega
  · intro h
    unfold Gr.lv
    rw [dif_neg]
    rintro ⟨i, hi⟩
    exact h (Gr.isR_cyc hg hx hi)
theorem Gr.lv_le {x : Stt} (hx : g.val x) : g.lv x ≤ (g.repsTo (4 * (g.n * g.m))).length := by
  rcases Nat.eq_zero_or_pos (g.lv x) with h | h
  · omega
  · obtain ⟨i, hi⟩ : ∃ i, g.lv x = i + 1 := ⟨g.lv x - 1, by omega⟩
    obtain ⟨r, hr, _⟩ := (Gr.lv_iff hg hx).1 hi
    have := (List.getElem?_eq_some_iff.1 hr).1
    omega
theorem Gr.lv_path {x y : Stt} (hx : g.val x) (hy : g.val y) (p : g.Path x y) : g.lv x = g.lv y := by
  have ht := Gr.reps_trv hg
  have hE := (Gr.rvs hg).eqv
  by_cases c : Cyc g.nx x
  · rw [Gr.path_cyc hg hx hy c] at p
    have cy := Gr.same_cyc hg hx hy c p
    rcases Nat.eq_zero_or_pos (g.lv x) with h | h
    · exact absurd c (Gr.onB_iff.1 ((Gr.lv_zero hg hx).1 h))
    · obtain ⟨i, hi⟩ : ∃ i, g.lv x = i + 1 := ⟨g.lv x - 1, by omega⟩
      obtain ⟨r, hr, hs⟩ := (Gr.lv_iff hg hx).1 hi
      have pr := ht.all r (List.mem_of_getElem? hr)
      rw [hi, (Gr.lv_iff hg hy).2 ⟨r, hr, hE.trans _ _ _ pr ⟨hx, c⟩ ⟨hy, cy⟩ hs p⟩]
  · have ho := Gr.onB_iff.2 c
    obtain ⟨t, ht2, hw⟩ := (Gr.onB_way hg hx).1 ho
    rw [(Gr.lv_zero hg hx).2 ho, (Gr.lv_zero hg hy).2]
    rw [Gr.onB_way hg hy]
    rcases (Gr.path_beam hg ht2 hw hy).1 p with h | h
    · exact ⟨t, ht2, h⟩
    · exact ⟨_, (Gr.endOf_pair hg ht2).1, h⟩
theorem Gr.path_lv {x y : Stt} (hx : g.val x) (hy : g.val y) (h0 : 0 < g.lv x) (e : g.lv x = g.lv y) : g.Path x y := by
  have ht := Gr.reps_trv hg
  have hE := (Gr.rvs hg).eqv
  obtain ⟨i, hi⟩ : ∃ i, g.lv x = i + 1 := ⟨g.lv x - 1, by omega⟩
  obtain ⟨r, hr, hs⟩ := (Gr.lv_iff hg hx).1 hi
  obtain ⟨r', hr', hs'⟩ := (Gr.lv_iff hg hy).1 (show g.lv y = i + 1 by omega)
  rw [hr] at hr'
  cases hr'
  have pr := ht.all r (List.mem_of_getElem? hr)
  have cx := Gr.same_cyc hg pr.1 hx pr.2 hs
  have cy := Gr.same_cyc hg pr.1 hy pr.2 hs'
  rw [Gr.path_cyc hg hx hy cx]
  exact hE.trans _ _ _ ⟨hx, cx⟩ pr ⟨hy, cy⟩ (hE.symm _ _ pr ⟨hx, cx⟩ hs) hs'
theorem Gr.lv_rev {x : Stt} (hx : g.val x) : g.lv (g.rev x) = g.lv x :=
  (Gr.lv_path hg hx (Gr.rev_val hg hx) ((Gr.Path.revR hg hx).2 (.inl (.inl ⟨0, rfl⟩)))).symm
theorem Gr.lv_nx {x y : Stt} (hx : g.val x) (e : g.nx x = some y) : g.lv y = g.lv x :=
  (Gr.lv_path hg hx (Gr.nx_val hg hx e) (.inl (.inl ⟨1, e⟩))).symm
/-- The states on the paths numbered from b to i. -/
noncomputable def Gr.lvC (g : Gr) (b i : Nat) (x : Stt) : Bool := decide (b ≤ g.lv x) && decide (g.lv x ≤ i)
theorem Gr.lvC_curve (b i : Nat) : g.Curve (g.lvC b i) where
  rev := fun x hx => by unfold Gr.lvC; rw [Gr.lv_rev hg hx]
  nx := fun x y hx e => by unfold Gr.lvC; rw [Gr.lv_nx hg hx e]
/-- The round number i crosses a path numbered from b to i there. -/
noncomputable def Gr.lvX (g : Gr) (b i c : Nat) : Bool := g.sig c == 46 && ((decide (g.lv (c, 0) = i + 1) && g.lvC b i (c, 1)) || (decide (g.lv (c, 1) = i + 1) && g.lvC b i (c, 0)))
theorem Gr.round_even {i b : Nat} (hi : i < (g.repsTo (4 * (g.n * g.m))).length) : cntN (g.lvX b i) (g.n * g.m) % 2 = 0 := by
  have ht := Gr.reps_trv hg
  obtain ⟨r, hr⟩ : ∃ r, (g.repsTo (4 * (g.n * g.m)))[i]? = some r := ⟨_, List.getElem?_eq_getElem hi⟩
  obtain ⟨vr, cr⟩ := ht.all r (List.mem_of_getElem? hr)
  obtain ⟨p1, p2, p3, p4⟩ := Gr.per_spec hg vr cr
  have hC := Gr.lvC_curve hg b i
  have lr : g.lv r = i + 1 := (Gr.lv_iff hg vr).2 ⟨r, hr, .inl ⟨0, rfl⟩⟩
  have hn : g.lvC b i r = false := by
    unfold Gr.lvC
    rw [decide_eq_false (show ¬ g.lv r ≤ i by omega), Bool.and_false]
  have hpar := (Gr.ecol_way hg hC vr hn (g.per r) r p3).2
  have hstep : ∀ j, j < g.per r → ∃ y, iter g.nx j r = some y ∧ g.val y ∧ g.lv y = i + 1 := fun j hj => by
    obtain ⟨y, hy⟩ := iter_lt p3 j (by omega)
    have vy := (Gr.steps hg).iter_stay j r y vr hy
    exact ⟨y, hy, vy, by rw [← Gr.lv_path hg vr vy (.inl (.inl ⟨j, hy⟩)), lr]⟩
  have lv2 : ∀ c, c < g.n * g.m → g.sig c = 46 → g.lv (c, 2) = g.lv (c, 0) := fun c hc hs => by
    have := Gr.lv_rev hg (x := (c, 0)) ⟨hc, by show 0 < 4; omega⟩
    rwa [Gr.rev_dot hg hs] at this
  have lv3 : ∀ c, c < g.n * g.m → g.sig c = 46 → g.lv (c, 3) = g.lv (c, 1) := fun c hc hs => by
    have := Gr.lv_rev hg (x := (c, 1)) ⟨hc, by show 1 < 4; omega⟩
    rwa [Gr.rev_dot hg hs] at this
  have hfind : ∀ y, g.val y → g.lv y = i + 1 → ∃ j, j < g.per r ∧ (iter g.nx j r = some y ∨ iter g.nx j r = some (g.rev y)) := fun y vy ly => by
    obtain ⟨r', hr', hs⟩ := (Gr.lv_iff hg vy).1 ly
    rw [hr] at hr'
    cases hr'
    rcases hs with ⟨k, e⟩ | ⟨k, e⟩
    · rw [iter_mod p3 k] at e
      exact ⟨_, Nat.mod_lt k p1, .inl e⟩
    · rw [iter_mod p3 k] at e
      exact ⟨_, Nat.mod_lt k p1, .inr e⟩
  have hcnt : cntN (g.lvX b i) (g.n * g.m) = cntN (fun j => g.cr (g.lvC b i) ((iter g.nx j r).getD r)) (g.per r) := by
    rw [cntN_list, cntN_list]
    refine Nat.le_antisymm ?_ ?_
    · refine inj_len (fun c j => ((iter g.nx j r).getD r).1 = c) _ _ (fun c hc => ?_) ?_
      · obtain ⟨h1, h2⟩ := List.mem_filter.1 hc
        have h1 := List.mem_range.1 h1
        simp only [Gr.lvX, Bool.and_eq_true, Bool.or_eq_true, beq_iff_eq, decide_eq_true_iff] at h2
        obtain ⟨hs, ⟨hl, hc2⟩ | ⟨hl, hc2⟩⟩ := h2
        · obtain ⟨j, hj, h | h⟩ := hfind (c, 0) ⟨h1, by show 0 < 4; omega⟩ hl
          · refine ⟨j, List.mem_filter.2 ⟨List.mem_range.2 hj, ?_⟩, by rw [h]; rfl⟩
            rw [h]
            simp only [Option.getD_some, Gr.cr, hs, across, Bool.and_eq_true]
            exact ⟨rfl, by simpa using hc2⟩
          · rw [Gr.rev_dot hg hs] at h
            refine ⟨j, List.mem_filter.2 ⟨List.mem_range.2 hj, ?_⟩, by rw [h]; rfl⟩
            rw [h]
            simp only [Option.getD_some, Gr.cr, hs, across, Bool.and_eq_true]
            exact ⟨rfl, by simpa [opp] using hc2⟩
        · obtain ⟨j, hj, h | h⟩ := hfind (c, 1) ⟨h1, by show 1 < 4; omega⟩ hl
          · refine ⟨j, List.mem_filter.2 ⟨List.mem_range.2 hj, ?_⟩, by rw [h]; rfl⟩
            rw [h]
            simp only [Option.getD_some, Gr.cr, hs, across, Bool.and_eq_true]
            exact ⟨rfl, by simpa using hc2⟩
          · rw [Gr.rev_dot hg hs] at h
            refine ⟨j, List.mem_filter.2 ⟨List.mem_range.2 hj, ?_⟩, by rw [h]; rfl⟩
            rw [h]
            simp only [Option.getD_some, Gr.cr, hs, across, Bool.and_eq_true]
            exact ⟨rfl, by simpa [opp] using hc2⟩
      · refine List.Pairwise.imp ?_ ((List.nodup_iff_pairwise_ne.1 List.nodup_range).filter _)
        rintro c c' hne j _ h1 h2
        exact hne (by rw [← h1, ← h2])
    · have hcr : ∀ j, j ∈ (List.range (g.per r)).filter (fun j => g.cr (g.lvC b i) ((iter g.nx j r).getD r)) → ∃ y, j < g.per r ∧ iter g.nx j r = some y ∧ g.val y ∧ g.lv y = i + 1 ∧ g.sig y.1 = 46 ∧ g.lvC b i (across y) = true := fun j hj => by
        obtain ⟨h1, h2⟩ := List.mem_filter.1 hj
        have h1 := List.mem_range.1 h1
        obtain ⟨y, hy, vy, ly⟩ := hstep j h1
        rw [hy] at h2
        simp only [Option.getD_some, Gr.cr, Bool.and_eq_true, beq_iff_eq] at h2
        exact ⟨y, h1, hy, vy, ly, h2.1, h2.2⟩
      have hkind : ∀ y, g.val y → g.lv y = i + 1 → g.sig y.1 = 46 → g.lvC b i (across y) = true → ((y.2 = 0 ∨ y.2 = 2) ∧ g.lv (y.1, 0) = i + 1 ∧ g.lvC b i (y.1, 1) = true) ∨ ((y.2 = 1 ∨ y.2 = 3) ∧ g.lv (y.1, 1) = i + 1 ∧ g.lvC b i (y.1, 0) = true) := fun y vy ly hs ha => by
        obtain ⟨c, d⟩ := y
        have hd := vy.2
        have hc := vy.1
        have hd : d < 4 := hd
        have hc : c < g.n * g.m := hc
        have h2 := lv2 c hc hs
        have h3 := lv3 c hc hs
        have : d = 0 ∨ d = 1 ∨ d = 2 ∨ d = 3 := by omega
        rcases this with rfl | rfl | rfl | rfl
        · exact .inl ⟨.inl rfl, ly, by simpa [across] using ha⟩
        · exact .inr ⟨.inl rfl, ly, by simpa [across] using ha⟩
        · exact .inl ⟨.inr rfl, by rw [← h2]; exact ly, by simpa [across] using ha⟩
        · exact .inr ⟨.inr rfl, by rw [← h3]; exact ly, by simpa [across] using ha⟩
      refine inj_len (fun j c => ((iter g.nx j r).getD r).1 = c) _ _ (fun j hj => ?_) ?_
      · obtain ⟨y, h1, hy, vy, ly, hs, ha⟩ := hcr j hj
        refine ⟨y.1, List.mem_filter.2 ⟨List.mem_range.2 vy.1, ?_⟩, by rw [hy]; rfl⟩
        simp only [Gr.lvX, Bool.and_eq_true, Bool.or_eq_true, beq_iff_eq, decide_eq_true_iff]
        rcases hkind y vy ly hs ha with ⟨_, h2, h3⟩ | ⟨_, h2, h3⟩
        · exact ⟨hs, .inl ⟨h2, h3⟩⟩
        · exact ⟨hs, .inr ⟨h2, h3⟩⟩
      · refine List.Pairwise.imp_of_mem ?_ ((List.pairwise_lt_range (n := g.per r)).filter _)
        rintro j j' hj hj' hlt c _ e1 e2
        obtain ⟨y, h1, hy, vy, ly, hs, ha⟩ := hcr j hj
        obtain ⟨y', h1', hy', vy', ly', hs', ha'⟩ := hcr j' hj'
        rw [hy] at e1
        rw [hy'] at e2
        have e1 : y.1 = c := e1
        have e2 : y'.1 = c := e2
        have hne : y ≠ y' := fun e => by
          subst e
          exact p4 (j' - j) (by omega) (by omega) ((Gr.steps hg).back j r r y vr vr (j' - j) hy (by rw [show j + (j' - j) = j' by omega]; exact hy'))
        have hnor := Gr.no_rev hg vy
        have htot := on_total (⟨j, hy⟩ : On g.nx r y) (⟨j', hy'⟩ : On g.nx r y')
        have hrv : ∀ d d', d < 4 → y = (c, d) → y' = (c, d') → d' = opp d → False := fun d d' _ h h' ho => by
          apply hnor
          have : g.rev y = y' := by
            rw [h, h', ho]
            refine Gr.rev_dot hg ?_
            rw [← e1]; exact hs
          rw [this]
          exact htot
        have k1 := hkind y vy ly hs ha
        have k2 := hkind y' vy' ly' hs' ha'
        rw [e1] at k1
        rw [e2] at k2
        have hy2 : y = (c, y.2) := Prod.ext e1 rfl
        have hy2' : y' = (c, y'.2) := Prod.ext e2 rfl
        have hlc : ∀ z, g.lvC b i z = true → g.lv z ≤ i := fun z hz => by
          simp only [Gr.lvC, Bool.and_eq_true, decide_eq_true_iff] at hz
          exact hz.2
        rcases k1 with ⟨d1, a1, b1⟩ | ⟨d1, a1, b1⟩ <;> rcases k2 with ⟨d2, a2, b2⟩ | ⟨d2, a2, b2⟩
        · by_cases e : y.2 = y'.2
          · exact hne (by rw [hy2, hy2', e])
          · refine hrv _ _ vy.2 hy2 hy2' ?_
            rcases d1 with d1 | d1 <;> rcases d2 with d2 | d2
            · exact absurd (by rw [d1, d2]) e
            · rw [d1, d2]; rfl
            · rw [d1, d2]; rfl
            · exact absurd (by rw [d1, d2]) e
        · have := hlc _ b1
          omega
        · have := hlc _ b1
          omega
        · by_cases e : y.2 = y'.2
          · exact hne (by rw [hy2, hy2', e])
          · refine hrv _ _ vy.2 hy2 hy2' ?_
            rcases d1 with d1 | d1 <;> rcases d2 with d2 | d2
            · exact absurd (by rw [d1, d2]) e
            · rw [d1, d2]; rfl
            · rw [d1, d2]; rfl
            · exact absurd (by rw [d1, d2]) e
  rw [hcnt]
  generalize cntN (fun j => g.cr (g.lvC b i) ((iter g.nx j r).getD r)) (g.per r) = N at *
  have h2 : ¬ N % 2 = 1 := fun h => by
    rw [decide_eq_true h] at hpar
    revert hpar
    cases g.ecol (g.lvC b i) r <;> simp
  omega
/-- Crossings with a round, from b on. -/
noncomputable def Gr.lvG (g : Gr) (b c : Nat) : Bool := g.sig c == 46 && (!(decide (g.lv (c, 0) = g.lv (c, 1))) && (decide (b ≤ g.lv (c, 0)) && decide (b ≤ g.lv (c, 1))))
theorem Gr.lvG_sum {b c : Nat} (hc : c < g.n * g.m) : sumN (fun i => if g.lvX b i c = true then 1 else 0) (g.repsTo (4 * (g.n * g.m))).length = if g.lvG b c = true then 1 else 0 := by
  have v0 : g.val (c, 0) := ⟨hc, by show 0 < 4; omega⟩
  have v1 : g.val (c, 1) := ⟨hc, by show 1 < 4; omega⟩
  have l0 := Gr.lv_le hg v0
  have l1 := Gr.lv_le hg v1
  unfold Gr.lvX Gr.lvG Gr.lvC
  generalize (g.repsTo (4 * (g.n * g.m))).length = R at *
  generalize g.lv (c, 0) = u at *
  generalize g.lv (c, 1) = v at *
  cases hs : g.sig c == 46
  · simp only [Bool.false_and, Bool.false_eq_true, if_false]
    exact sumN_zero _
  · simp only [Bool.true_and]
    by_cases hu : u < v ∧ b ≤ u
    · have e : ∀ i, i < R → (if ((decide (u = i + 1) && (decide (b ≤ v) && decide (v ≤ i))) || (decide (v = i + 1) && (decide (b ≤ u) && decide (u ≤ i)))) = true then 1 else 0) = if i = v - 1 then 1 else 0 := fun i hi => by
        by_cases e : i = v - 1
        · rw [if_pos e, if_pos]
          simp only [Bool.or_eq_true, Bool.and_eq_true, decide_eq_true_iff]
          omega
        · rw [if_neg e, if_neg]
          simp only [Bool.or_eq_true, Bool.and_eq_true, decide_eq_true_iff]
          omega
      rw [sumN_congr e, sumN_one (fun _ => 1) (v - 1) R (by omega), if_pos]
      simp only [Bool.and_eq_true, decide_eq_true_iff, Bool.not_eq_true', decide_eq_false_iff_not]
      omega
    · by_cases hv : v < u ∧ b ≤ v
      · have e : ∀ i, i < R → (if ((decide (u = i + 1) && (decide (b ≤ v) && decide (v ≤ i))) || (decide (v = i + 1) && (decide (b ≤ u) && decide (u ≤ i)))) = true then 1 else 0) = if i = u - 1 then 1 else 0 := fun i hi => by
          by_cases e : i = u - 1
          · rw [if_pos e, if_pos]
            simp only [Bool.or_eq_true, Bool.and_eq_true, decide_eq_true_iff]
            omega
          · rw [if_neg e, if_neg]
            simp only [Bool.or_eq_true, Bool.and_eq_true, decide_eq_true_iff]
            omega
        rw [sumN_congr e, sumN_one (fun _ => 1) (u - 1) R (by omega), if_pos]
        simp only [Bool.and_eq_true, decide_eq_true_iff, Bool.not_eq_true', decide_eq_false_iff_not]
        omega
      · have e : ∀ i, i < R → (if ((decide (u = i + 1) && (decide (b ≤ v) && decide (v ≤ i))) || (decide (v = i + 1) && (decide (b ≤ u) && decide (u ≤ i)))) = true then 1 else 0) = 0 := fun i hi => by
          rw [if_neg]
          simp only [Bool.or_eq_true, Bool.and_eq_true, decide_eq_true_iff]
          omega
        rw [sumN_congr e, sumN_zero, if_neg]
        simp only [Bool.and_eq_true, decide_eq_true_iff, Bool.not_eq_true', decide_eq_false_iff_not]
        omega
theorem Gr.lvG_even (b : Nat) : cntN (g.lvG b) (g.n * g.m) % 2 = 0 := by
  have e : cntN (g.lvG b) (g.n * g.m) = sumN (fun i => cntN (g.lvX b i) (g.n * g.m)) (g.repsTo (4 * (g.n * g.m))).length := by
    unfold cntN
    rw [← sumN_swap]
    exact sumN_congr fun c hc => (Gr.lvG_sum hg hc).symm
  rw [e]
  have : ∀ n f, (∀ i, i < n → f i % 2 = 0) → sumN f n % 2 = 0 := by
    intro n f
    induction n with
    | zero => intro _; rfl
    | succ n ih =>
      intro h
      have h1 := ih fun i hi => h i (by omega)
      have h2 := h n (by omega)
      show (sumN f n + f n) % 2 = 0
      omega
  exact this _ _ fun i hi => Gr.round_even hg hi
theorem Gr.crB_lv {c : Nat} (hc : c < g.n * g.m) : (g.crB c && !g.bmB c) = g.lvG 0 c ∧ (g.crB c && g.rdB c) = g.lvG 1 c := by
  have v0 : g.val (c, 0) := ⟨hc, by show 0 < 4; omega⟩
  have v1 : g.val (c, 1) := ⟨hc, by show 1 < 4; omega⟩
  have z0 := Gr.lv_zero hg v0
  have z1 := Gr.lv_zero hg v1
  have hp := Gr.lv_path hg v0 v1
  have hl := Gr.path_lv hg v0 v1
  have o0 : g.onB (c, 0) = decide (g.lv (c, 0) = 0) := by rw [Bool.eq_iff_iff, decide_eq_true_iff, z0]
  have o1 : g.onB (c, 1) = decide (g.lv (c, 1) = 0) := by rw [Bool.eq_iff_iff, decide_eq_true_iff, z1]
  unfold Gr.bmB Gr.rdB Gr.lvG
  rw [o0, o1]
  constructor
  · rw [Bool.eq_iff_iff]
    simp only [Bool.and_eq_true, Gr.crB_iff, beq_iff_eq, Bool.not_eq_true', decide_eq_false_iff_not, decide_eq_true_iff, Bool.and_eq_false_iff]
    constructor
    · rintro ⟨⟨hs, hn⟩, h⟩
      refine ⟨hs, fun e => hn (hl ?_ e), Nat.zero_le _, Nat.zero_le _⟩
      omega
    · rintro ⟨hs, hne, _, _⟩
      refine ⟨⟨hs, fun p => hne (hp p)⟩, ?_⟩
      omega
  · rw [Bool.eq_iff_iff]
    simp only [Bool.and_eq_true, Gr.crB_iff, beq_iff_eq, Bool.not_eq_true', decide_eq_false_iff_not, decide_eq_true_iff]
    constructor
    · rintro ⟨⟨hs, hn⟩, h0, h1⟩
      exact ⟨hs, fun e => hn (hl (by omega) e), by omega, by omega⟩
    · rintro ⟨hs, hne, h0, h1⟩
      exact ⟨⟨hs, fun p => hne (hp p)⟩, by omega, by omega⟩
end
end Go.Proofs.Ytcigmmafmogmkaa
