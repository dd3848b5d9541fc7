/- Two pairings joined and closed: the rounds in both orders: plain facts. -/
import Derived.Test.YtfpcfolcdpdomaaJoinCL
namespace Go.Proofs.Ytfpcfolcdpdomaa
set_option linter.unusedVariables false
set_option linter.unusedSimpArgs false
set_option linter.unusedSectionVars false

/-- Both seams glued. -/
def mtA (n m k X : Nat) : Option Nat :=
  if X < 4 * n + 2 * m + 2 * k then (match mtR n m (4 * n + 2 * m + 2 * k) X with
    | some z => some z
    | none => (mtR n (m + k) (2 * n + 2 * m + 2 * k) (nmI n m k X).toNat).map (idxJ n m k)) else none
/-- The other pairing first. -/
def swJ (n m k X : Nat) : Nat := if X < 2 * n + 2 * m then 2 * n + 2 * k + X else X - (2 * n + 2 * m)
def chkA (n m k X : Nat) : Bool :=
  (match mtA n m k X with
    | none => true
    | some Y => decide (Y < 4 * n + 2 * m + 2 * k) && mtA n m k Y == some X && Y != X) &&
  decide (swJ n m k X < 4 * n + 2 * m + 2 * k) && swJ n k m (swJ n m k X) == X && mtA n k m (swJ n m k X) == (mtA n m k X).map (swJ n m k)
theorem chkA_all : ∀ n ∈ [1, 2, 3, 4, 5], ∀ m ∈ [1, 2, 3, 4], ∀ k ∈ List.range (6 - m), 1 ≤ k → ∀ X ∈ List.range (4 * n + 2 * m + 2 * k), chkA n m k X = true := by decide +kernel
theorem chkA_at {n m k X : Nat} (h : Two n m k) (hX : X < 4 * n + 2 * m + 2 * k) : (∀ Y, mtA n m k X = some Y → Y < 4 * n + 2 * m + 2 * k ∧ mtA n m k Y = some X ∧ Y ≠ X) ∧ swJ n m k X < 4 * n + 2 * m + 2 * k ∧ swJ n k m (swJ n m k X) = X ∧ mtA n k m (swJ n m k X) = (mtA n m k X).map (swJ n m k) := by
  have := chkA_all n (mem_n h.n1 h.n5) m (mem_m h.m1 (by have := h.mk5; have := h.k1; omega)) k (List.mem_range.2 (by have := h.mk5; omega)) h.k1 X (List.mem_range.2 hX)
  simp only [chkA, Bool.and_eq_true, decide_eq_true_eq, beq_iff_eq] at this
  obtain ⟨⟨⟨h1, h2⟩, h3⟩, h4⟩ := this
  refine ⟨fun Y hY => ?_, h2, h3, h4⟩
  rw [hY] at h1
  simp only [Bool.and_eq_true, decide_eq_true_eq, beq_iff_eq, bne_iff_ne] at h1
  exact ⟨h1.1.1, h1.1.2, h1.2⟩
theorem mtA_lt {n m k X Y : Nat} (e : mtA n m k X = some Y) : X < 4 * n + 2 * m + 2 * k := by
  unfold mtA at e
  split at e
  · assumption
  · cases e
theorem mtA_in {n m k X z : Nat} (hX : X < 4 * n + 2 * m + 2 * k) (h : mtR n m (4 * n + 2 * m + 2 * k) X = some z) : mtA n m k X = some z := by
  unfold mtA
  rw [if_pos hX, h]
theorem mtA_out {n m k p : Nat} (hp : p < 2 * n + 2 * m + 2 * k) : mtA n m k (idxJ n m k p) = (mtR n (m + k) (2 * n + 2 * m + 2 * k) p).map (idxJ n m k) := by
  unfold mtA
  rw [if_pos (nmI_idx hp).2, idxJ_out hp, (nmI_idx hp).1]
  rfl
section
variable {n m k : Nat} {xs ys : List Int} (hT : Two n m k) (lx : xs.length = 2 * n + 2 * m) (ly : ys.length = 2 * n + 2 * k) (px : pairsB xs = true) (py : pairsB ys = true)
include hT lx ly px py
theorem all_glue : Glue (4 * n + 2 * m + 2 * k) (jnx xs ys) (mtA n m k) := by
  have h := join_glue2 hT lx ly px py
  exact ⟨h.nx_lt, h.nx_nx, h.nx_ne, fun x y e => ⟨mtA_lt e, ((chkA_at hT (mtA_lt e)).1 y e).1⟩, fun x y e => ((chkA_at hT (mtA_lt e)).1 y e).2.1, fun x y e => ((chkA_at hT (mtA_lt e)).1 y e).2.2⟩
theorem all_step {X Z : Nat} (hX : X < 4 * n + 2 * m + 2 * k) (e : gs (jnx xs ys) (mtR n m (4 * n + 2 * m + 2 * k)) X = some Z) : gs (jnx xs ys) (mtA n m k) X = some Z := by
  have h := join_glue2 hT lx ly px py
  exact mtA_in (h.nx_lt X hX) e
theorem all_iter : ∀ j X Z, X < 4 * n + 2 * m + 2 * k → iter (gs (jnx xs ys) (mtR n m (4 * n + 2 * m + 2 * k))) j X = some Z → iter (gs (jnx xs ys) (mtA n m k)) j X = some Z := by
  have h := join_glue2 hT lx ly px py
  intro j
  induction j with
  | zero => intro X Z hX e; exact e
  | succ j ih =>
    intro X Z hX e
    obtain ⟨Y, hY, hYZ⟩ := iter_pred e
    show (iter (gs (jnx xs ys) (mtA n m k)) j X).bind _ = _
    rw [ih X Y hX hY]
    exact all_step hT lx ly px py (h.rv.steps.iter_stay j X Y hX hY) hYZ
theorem joinL_cnx {p : Nat} (hp : p < 2 * n + 2 * m + 2 * k) : cnx (joinL n m k xs ys) p < 2 * n + 2 * m + 2 * k ∧ idxJ n m k (cnx (joinL n m k xs ys) p) = gendF (jnx xs ys) (mtR n m (4 * n + 2 * m + 2 * k)) (4 * n + 2 * m + 2 * k) (idxJ n m k p) := by
  obtain ⟨q, h1, h2, h3, h4, h5⟩ := joinL_get lx ly px py hp
  have e : cnx (joinL n m k xs ys) p = q := by unfold cnx; rw [h1]; omega
  rw [e]
  exact ⟨h2, h5⟩
/-- The way from an outer port to the other seam. -/
theorem all_way {p : Nat} (hp : p < 2 * n + 2 * m + 2 * k) : ∃ K y, iter (gs (jnx xs ys) (mtA n m k)) K (idxJ n m k p) = some y ∧ y < 4 * n + 2 * m + 2 * k ∧ jnx xs ys y = idxJ n m k (cnx (joinL n m k xs ys) p) ∧
    iter (gs (jnx xs ys) (mtA n m k)) K (jnx xs ys y) = some (jnx xs ys (idxJ n m k p)) ∧
    (∀ j Z, 0 < j → j ≤ K → iter (gs (jnx xs ys) (mtA n m k)) j (idxJ n m k p) = some Z → mtR n m (4 * n + 2 * m + 2 * k) Z ≠ none) := by
  have h := join_glue2 hT lx ly px py
  obtain ⟨K, y, hK, e, hn⟩ := h.outer_ends (nmI_idx hp).2 (idxJ_out hp)
  have hy := h.rv.steps.iter_stay K _ y (nmI_idx hp).2 e
  have hb := h.rv.iter_back K _ y (nmI_idx hp).2 e
  refine ⟨K, y, all_iter hT lx ly px py K _ y (nmI_idx hp).2 e, hy, ?_, all_iter hT lx ly px py K _ _ (h.nx_lt y hy) hb, fun j Z hj hjK hZ hn2 => ?_⟩
  · rw [(joinL_cnx hT lx ly px py hp).2, (h.end_pair (nmI_idx hp).2 (idxJ_out hp) hK e hn).1]
  · obtain ⟨z, hz⟩ := iter_lt e j hjK
    rw [all_iter hT lx ly px py j _ z (nmI_idx hp).2 hz] at hZ
    cases hZ
    obtain ⟨z', hz', hzz⟩ := iter_pred (k := j - 1) (by rw [show j - 1 + 1 = j by omega]; exact hz)
    have h3 : mtR n m (4 * n + 2 * m + 2 * k) (jnx xs ys z') = some Z := hzz
    rw [h.mt_mt _ _ h3] at hn2
    cases hn2
theorem close_glue2 : Glue (2 * n + 2 * m + 2 * k) (cnx (joinL n m k xs ys)) (mtR n (m + k) (2 * n + 2 * m + 2 * k)) := by
  have hp := joinL_pairs lx ly px py hT.n5 hT.m1 hT.k1 hT.mk5
  have h := close_glue (n := n) (m := m + k) (xs := joinL n m k xs ys) (by rw [joinL_length]; omega) hp
  rw [joinL_length] at h
  exact h
theorem all_next {p p' : Nat} (hp : p < 2 * n + 2 * m + 2 * k) (e : gs (cnx (joinL n m k xs ys)) (mtR n (m + k) (2 * n + 2 * m + 2 * k)) p = some p') : ∃ K, 0 < K ∧ iter (gs (jnx xs ys) (mtA n m k)) K (idxJ n m k p) = some (idxJ n m k p') ∧ ∀ j Z, 0 < j → j < K → iter (gs (jnx xs ys) (mtA n m k)) j (idxJ n m k p) = some Z → mtR n m (4 * n + 2 * m + 2 * k) Z ≠ none := by
  obtain ⟨K, y, h1, h2, h3, h4, h5⟩ := all_way hT lx ly px py hp
  refine ⟨K + 1, by omega, ?_, fun j Z hj hjK => h5 j Z hj (by omega)⟩
  show (iter (gs (jnx xs ys) (mtA n m k)) K (idxJ n m k p)).bind _ = _
  rw [h1]
  show mtA n m k (jnx xs ys y) = _
  rw [h3, mtA_out (joinL_cnx hT lx ly px py hp).1]
  have e' : mtR n (m + k) (2 * n + 2 * m + 2 * k) (cnx (joinL n m k xs ys) p) = some p' := e
  rw [e']
  rfl
theorem all_contr : Contr (gs (jnx xs ys) (mtA n m k)) (jnx xs ys) (· < 4 * n + 2 * m + 2 * k) (fun Y => mtR n m (4 * n + 2 * m + 2 * k) Y = none)
    (gs (cnx (joinL n m k xs ys)) (mtR n (m + k) (2 * n + 2 * m + 2 * k))) (cnx (joinL n m k xs ys)) (· < 2 * n + 2 * m + 2 * k) (idxJ n m k) where
  val := fun p hp => ⟨(nmI_idx hp).2, idxJ_out hp⟩
  inj := fun p q hp hq e => by
    have h1 := (nmI_idx (n := n) (m := m) (k := k) hp).1
    have h2 := (nmI_idx (n := n) (m := m) (k := k) hq).1
    rw [e, h2] at h1
    omega
  surj := fun Y hY hTY _ => by
    obtain ⟨p, h1, h2, h3⟩ := nmI_out hTY hY
    exact ⟨p, h2, h3⟩
  nxt := fun p p' hp e => by
    obtain ⟨K, h1, h2, h3⟩ := all_next hT lx ly px py hp e
    exact ⟨K, h1, h2, idxJ_out ((close_glue2 hT lx ly px py).rv.stay p p' hp e), fun j Z h4 h5 h6 h7 => h3 j Z h4 h5 h6 h7⟩
  stop := fun p hp e c => by
    obtain ⟨K, y, h1, h2, h3, h4, h5⟩ := all_way hT lx ly px py hp
    obtain ⟨z, hz⟩ := cyc_next (c.on ⟨K, h1⟩).2
    have h6 : mtA n m k (jnx xs ys y) = some z := hz
    have e' : mtR n (m + k) (2 * n + 2 * m + 2 * k) (cnx (joinL n m k xs ys) p) = none := e
    rw [h3, mtA_out (joinL_cnx hT lx ly px py hp).1, e'] at h6
    cases h6
  rev := fun p hp c => by
    have hA := all_glue hT lx ly px py
    obtain ⟨K, y, h1, h2, h3, h4, h5⟩ := all_way hT lx ly px py hp
    have cy := (c.on ⟨K, h1⟩).2
    have c2 := hA.rv.cyc_r h2 cy
    have := (c2.on ⟨K, h4⟩).1
    rw [← h3]
    exact this
/-- All rounds: those of the join, and those of the joined one closed. -/
theorem all_rounds : grounds (4 * n + 2 * m + 2 * k) (jnx xs ys) (mtA n m k) = closeN n (m + k) (joinL n m k xs ys) + joinN n m k xs ys := by
  have h := join_glue2 hT lx ly px py
  have hA := all_glue hT lx ly px py
  have hE := hA.rv.eqv
  have hTs : ∀ x y, ((x < 4 * n + 2 * m + 2 * k) ∧ Cyc (gs (jnx xs ys) (mtA n m k)) x) → ((y < 4 * n + 2 * m + 2 * k) ∧ Cyc (gs (jnx xs ys) (mtA n m k)) y) → Same (gs (jnx xs ys) (mtA n m k)) (jnx xs ys) x y →
      ((∃ z, z < 4 * n + 2 * m + 2 * k ∧ mtR n m (4 * n + 2 * m + 2 * k) z = none ∧ Same (gs (jnx xs ys) (mtA n m k)) (jnx xs ys) x z) ↔ (∃ z, z < 4 * n + 2 * m + 2 * k ∧ mtR n m (4 * n + 2 * m + 2 * k) z = none ∧ Same (gs (jnx xs ys) (mtA n m k)) (jnx xs ys) y z)) := by
    intro x y hx hy hs
    constructor
    · rintro ⟨z, hz, ht, o⟩
      exact ⟨z, hz, ht, hE.trans _ _ _ hy hx ⟨hz, hA.rv.same_cyc hx.1 hz hx.2 o⟩ (hE.symm _ _ hx hy hs) o⟩
    · rintro ⟨z, hz, ht, o⟩
      exact ⟨z, hz, ht, hE.trans _ _ _ hx hy ⟨hz, hA.rv.same_cyc hy.1 hz hy.2 o⟩ hs o⟩
  obtain ⟨a, r, hab, ha, hr⟩ := hA.num.part hE hTs
  have hca : a = closeN n (m + k) (joinL n m k xs ys) := by
    have hC := close_glue2 hT lx ly px py
    have := Contr.rounds hA.rv hC.rv (all_contr hT lx ly px py) ha hC.num
    rw [this]
    unfold closeN
    rw [joinL_length]
  have hjr : r = joinN n m k xs ys := by
    have hback : ∀ x y, x < 4 * n + 2 * m + 2 * k → On (gs (jnx xs ys) (mtA n m k)) x y → (∀ Z, On (gs (jnx xs ys) (mtA n m k)) x Z → mtR n m (4 * n + 2 * m + 2 * k) Z ≠ none) → On (gs (jnx xs ys) (mtR n m (4 * n + 2 * m + 2 * k))) x y := by
      rintro x y hx ⟨j, e⟩ hz
      have key : ∀ j y, iter (gs (jnx xs ys) (mtA n m k)) j x = some y → iter (gs (jnx xs ys) (mtR n m (4 * n + 2 * m + 2 * k))) j x = some y := by
        intro j
        induction j with
        | zero => intro y e; exact e
        | succ j ih =>
          intro y e
          obtain ⟨u, hu, huy⟩ := iter_pred e
          have huN := hA.rv.steps.iter_stay j x u hx hu
          show (iter (gs (jnx xs ys) (mtR n m (4 * n + 2 * m + 2 * k))) j x).bind _ = _
          rw [ih u hu]
          show mtR n m (4 * n + 2 * m + 2 * k) (jnx xs ys u) = some y
          have h1 : mtA n m k (jnx xs ys u) = some y := huy
          cases h2 : mtR n m (4 * n + 2 * m + 2 * k) (jnx xs ys u) with
          | some z => rw [mtA_in (h.nx_lt u huN) h2] at h1; exact h1
          | none =>
            exfalso
            obtain ⟨p, p1, p2, p3⟩ := nmI_out h2 (h.nx_lt u huN)
            rw [← p3, mtA_out p2] at h1
            obtain ⟨q, q1, q2⟩ := Option.map_eq_some_iff.1 h1
            have hq : q < 2 * n + 2 * m + 2 * k := (mtR_lt (by have := hT.n1; omega) q1).2.1
            exact hz y ⟨j + 1, e⟩ (by rw [← q2]; exact idxJ_out hq)
      exact ⟨j, key j y e⟩
    have hfo : ∀ x y, x < 4 * n + 2 * m + 2 * k → On (gs (jnx xs ys) (mtR n m (4 * n + 2 * m + 2 * k))) x y → On (gs (jnx xs ys) (mtA n m k)) x y := by
      rintro x y hx ⟨j, e⟩
      exact ⟨j, all_iter hT lx ly px py j x y hx e⟩
    have hin : ∀ x, x < 4 * n + 2 * m + 2 * k → Cyc (gs (jnx xs ys) (mtR n m (4 * n + 2 * m + 2 * k))) x → ∀ Z, On (gs (jnx xs ys) (mtA n m k)) x Z → On (gs (jnx xs ys) (mtR n m (4 * n + 2 * m + 2 * k))) x Z := by
      rintro x hx ⟨K, hK, e⟩ Z ⟨j, hj⟩
      obtain ⟨z, hz⟩ : ∃ z, iter (gs (jnx xs ys) (mtR n m (4 * n + 2 * m + 2 * k))) j x = some z := by
        rw [iter_mod e j]
        exact iter_lt e _ (Nat.le_of_lt (Nat.mod_lt _ hK))
      rw [all_iter hT lx ly px py j x z hx hz] at hj
      exact ⟨j, by rw [hz]; exact hj⟩
    have hcy : ∀ x, x < 4 * n + 2 * m + 2 * k → Cyc (gs (jnx xs ys) (mtR n m (4 * n + 2 * m + 2 * k))) x → Cyc (gs (jnx xs ys) (mtA n m k)) x := by
      rintro x hx ⟨K, hK, e⟩
      exact ⟨K, hK, all_iter hT lx ly px py K x x hx e⟩
    refine Num.unique h.rv.eqv (hr.congr (fun x => ?_) fun x y hx hy => ?_) h.num
    · constructor
      · rintro ⟨⟨hx, c⟩, hn⟩
        refine ⟨hx, ?_⟩
        obtain ⟨K, hK, e⟩ := c
        have hz : ∀ Z, On (gs (jnx xs ys) (mtA n m k)) x Z → mtR n m (4 * n + 2 * m + 2 * k) Z ≠ none := fun Z o hz => by
          obtain ⟨j, hj⟩ := o
          exact hn ⟨Z, hA.rv.steps.iter_stay j x Z hx hj, hz, .inl ⟨j, hj⟩⟩
        obtain ⟨u, hu, hux⟩ := iter_pred (k := K - 1) (by rw [show K - 1 + 1 = K by omega]; exact e)
        obtain ⟨j, hj⟩ := hback x u hx ⟨K - 1, hu⟩ hz
        have huN := h.rv.steps.iter_stay j x u hx hj
        have h1 : mtA n m k (jnx xs ys u) = some x := hux
        cases h2 : mtR n m (4 * n + 2 * m + 2 * k) (jnx xs ys u) with
        | some z =>
          rw [mtA_in (h.nx_lt u huN) h2] at h1
          have h3 : z = x := Option.some.inj h1
          refine ⟨j + 1, by omega, ?_⟩
          show (iter (gs (jnx xs ys) (mtR n m (4 * n + 2 * m + 2 * k))) j x).bind _ = _
          rw [hj]
          show mtR n m (4 * n + 2 * m + 2 * k) (jnx xs ys u) = some x
          rw [h2, h3]
        | none =>
          exfalso
          obtain ⟨p, p1, p2, p3⟩ := nmI_out h2 (h.nx_lt u huN)
          rw [← p3, mtA_out p2] at h1
          obtain ⟨q, q1, q2⟩ := Option.map_eq_some_iff.1 h1
          have hq : q < 2 * n + 2 * m + 2 * k := (mtR_lt (by have := hT.n1; omega) q1).2.1
          exact hz x (On.refl _ _) (by rw [← q2]; exact idxJ_out hq)
      · rintro ⟨hx, c⟩
        refine ⟨⟨hx, hcy x hx c⟩, ?_⟩
        rintro ⟨z, hz, ht, o | o⟩
        · obtain ⟨w, hw⟩ := h.cyc_mt (c.on (hin x hx c z o)).2
          rw [ht] at hw
          cases hw
        · have c2 := h.rv.cyc_r (h.nx_lt z hz) (c.on (hin x hx c _ o)).2
          rw [h.nx_nx z hz] at c2
          obtain ⟨w, hw⟩ := h.cyc_mt c2
          rw [ht] at hw
          cases hw
    · have hz : ∀ Z, On (gs (jnx xs ys) (mtA n m k)) x Z → mtR n m (4 * n + 2 * m + 2 * k) Z ≠ none := fun Z o hz => by
        obtain ⟨j, hj⟩ := o
        exact hx.2 ⟨Z, hA.rv.steps.iter_stay j x Z hx.1.1 hj, hz, .inl ⟨j, hj⟩⟩
      constructor
      · rintro (o | o)
        · exact .inl (hback x y hx.1.1 o hz)
        · exact .inr (hback x _ hx.1.1 o hz)
      · rintro (o | o)
        · exact .inl (hfo x y hx.1.1 o)
        · exact .inr (hfo x _ hx.1.1 o)
  omega
end
/-- Both orders make as many rounds. -/
theorem close_both {n m k : Nat} {xs ys : List Int} (hT : Two n m k) (lx : xs.length = 2 * n + 2 * m) (ly : ys.length = 2 * n + 2 * k) (px : pairsB xs = true) (py : pairsB ys = true) :
    closeN n (m + k) (joinL n m k xs ys) + joinN n m k xs ys = closeN n (m + k) (joinL n k m ys xs) + joinN n k m ys xs := by
  have h1 := all_rounds hT lx ly px py
  have h2 := all_rounds hT.swap ly lx py px
  have g1 := all_glue hT lx ly px py
  have g2 := all_glue hT.swap ly lx py px
  have e : 4 * n + 2 * k + 2 * m = 4 * n + 2 * m + 2 * k := by omega
  rw [e] at h2 g2
  have i : GIso (4 * n + 2 * m + 2 * k) (jnx xs ys) (mtA n m k) (jnx ys xs) (mtA n k m) (swJ n m k) (swJ n k m) := {
    lt := fun x hx => (chkA_at hT hx).2.1
    lt' := fun x hx => by have := (chkA_at hT.swap (X := x) (by omega)).2.1; omega
    back := fun x hx => (chkA_at hT hx).2.2.1
    forth := fun x hx => (chkA_at hT.swap (X := x) (by omega)).2.2.1
    mt := fun x hx => (chkA_at hT hx).2.2.2
    nx := fun x hx => by
      by_cases h : x < 2 * n + 2 * m
      · have h3 := (cnx_get px (x := x) (by omega)).2.1
        unfold swJ
        rw [if_pos h]
        unfold jnx
        rw [if_neg (by omega), show xs.length = 2 * n + 2 * m from lx, if_pos h, if_pos (by omega), show 2 * n + 2 * k + x - ys.length = x by omega]
        omega
      · have h3 := (cnx_get py (x := x - (2 * n + 2 * m)) (by omega)).2.1
        unfold swJ
        rw [if_neg h]
        unfold jnx
        rw [if_pos (by omega), show xs.length = 2 * n + 2 * m from lx, if_neg h, if_neg (by omega)]
        omega }
  have h3 := GIso.rounds g1 g2 i
  rw [h1, h2, show k + m = m + k by omega] at h3
  omega
end Go.Proofs.Ytfpcfolcdpdomaa
