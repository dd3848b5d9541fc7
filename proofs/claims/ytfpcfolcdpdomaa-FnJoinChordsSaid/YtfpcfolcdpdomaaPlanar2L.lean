/- Joined pairings without crossings have none: the law. -/
import Derived.Test.YtfpcfolcdpdomaaPlanarL
namespace Go.Proofs.Ytfpcfolcdpdomaa
set_option linter.unusedVariables false
set_option linter.unusedSimpArgs false
set_option linter.unusedSectionVars false

theorem cntN_two {f : Nat → Bool} {p q : Nat} (hpq : p ≠ q) : ∀ s, (∀ e, e < s → (f e = true ↔ e = p ∨ e = q)) → cntN f s = (if p < s then 1 else 0) + (if q < s then 1 else 0) := by
  intro s
  induction s with
  | zero => intro _; rfl
  | succ s ih =>
    intro h
    rw [cntN_succ, ih fun e he => h e (by omega)]
    have h1 := h s (by omega)
    by_cases e : s = p ∨ s = q
    · rw [h1.2 e, if_pos rfl]
      rcases e with rfl | rfl
      · rw [if_neg (show ¬ s < s by omega), if_pos (show s < s + 1 by omega)]
        by_cases hq : q < s
        · rw [if_pos hq, if_pos (by omega)]
        · rw [if_neg hq, if_neg (by omega)]
      · rw [if_neg (show ¬ s < s by omega), if_pos (show s < s + 1 by omega)]
        by_cases hp : p < s
        · rw [if_pos hp, if_pos (by omega)]
        · rw [if_neg hp, if_neg (by omega)]
    · have h2 : f s = false := by
        cases hh : f s
        · rfl
        · exact absurd (h1.1 hh) e
      rw [h2]
      have e1 : s ≠ p := fun h => e (.inl h)
      have e2 : s ≠ q := fun h => e (.inr h)
      have e3 : (p < s + 1) = (p < s) := propext ⟨fun _ => by omega, fun _ => by omega⟩
      have e4 : (q < s + 1) = (q < s) := propext ⟨fun _ => by omega, fun _ => by omega⟩
      simp only [e3, e4]
      rfl
theorem joinL_cnx' {n m k : Nat} {xs ys : List Int} (lx : xs.length = 2 * n + 2 * m) (ly : ys.length = 2 * n + 2 * k) (px : pairsB xs = true) (py : pairsB ys = true) {p : Nat} (hp : p < 2 * n + 2 * m + 2 * k) :
    cnx (joinL n m k xs ys) p < 2 * n + 2 * m + 2 * k ∧ idxJ n m k (cnx (joinL n m k xs ys) p) = gendF (jnx xs ys) (mtR n m (4 * n + 2 * m + 2 * k)) (4 * n + 2 * m + 2 * k) (idxJ n m k p) := by
  obtain ⟨q, h1, h2, h3, h4, h5⟩ := joinL_get lx ly px py hp
  have e : cnx (joinL n m k xs ys) p = q := by unfold cnx; rw [h1]; omega
  rw [e]
  exact ⟨h2, h5⟩
section
variable {n m k : Nat} {xs ys : List Int} (hT : Two n m k) (lx : xs.length = 2 * n + 2 * m) (ly : ys.length = 2 * n + 2 * k) (px : pairsB xs = true) (py : pairsB ys = true)
include hT lx ly px py
open Classical in
/-- The way of an outer port, as a set of ports. -/
theorem path_set {p : Nat} (hp : p < 2 * n + 2 * m + 2 * k) : ∃ E : Nat → Bool, (∀ X, X < 4 * n + 2 * m + 2 * k → E (jnx xs ys X) = E X) ∧ (∀ X Z, mtR n m (4 * n + 2 * m + 2 * k) X = some Z → E Z = E X) ∧
    ∀ e, e < 2 * n + 2 * m + 2 * k → (E (idxJ n m k e) = true ↔ e = p ∨ e = cnx (joinL n m k xs ys) p) := by
  have h := join_glue2 hT lx ly px py
  have hi := nmI_idx (n := n) (m := m) (k := k) hp
  obtain ⟨K, y, hK, e, hn⟩ := h.outer_ends hi.2 (idxJ_out hp)
  have hN := hT.n1
  let s := gs (jnx xs ys) (mtR n m (4 * n + 2 * m + 2 * k))
  let S : Nat → Prop := fun X => ∃ t, t ≤ K ∧ (iter s t (idxJ n m k p) = some X ∨ ∃ Y, iter s t (idxJ n m k p) = some Y ∧ X = jnx xs ys Y)
  have hst : ∀ t Y, iter s t (idxJ n m k p) = some Y → Y < 4 * n + 2 * m + 2 * k := fun t Y hY => h.rv.steps.iter_stay t _ Y hi.2 hY
  have hnx : ∀ X, X < 4 * n + 2 * m + 2 * k → S X → S (jnx xs ys X) := by
    rintro X hX ⟨t, ht, o | ⟨Y, o, rfl⟩⟩
    · exact ⟨t, ht, .inr ⟨X, o, rfl⟩⟩
    · exact ⟨t, ht, .inl (by rw [h.nx_nx Y (hst t Y o)]; exact o)⟩
  have hmt : ∀ X Z, mtR n m (4 * n + 2 * m + 2 * k) X = some Z → S X → S Z := by
    rintro X Z hz ⟨t, ht, o | ⟨Y, o, rfl⟩⟩
    · cases t with
      | zero =>
        have e0 : idxJ n m k p = X := Option.some.inj o
        rw [← e0, idxJ_out hp] at hz
        cases hz
      | succ t =>
        obtain ⟨Y, hY, hYX⟩ := iter_pred o
        have h1 : mtR n m (4 * n + 2 * m + 2 * k) (jnx xs ys Y) = some X := hYX
        have h2 := h.mt_mt _ _ h1
        rw [hz] at h2
        exact ⟨t, by omega, .inr ⟨Y, hY, Option.some.inj h2⟩⟩
    · by_cases htK : t = K
      · subst htK
        rw [show iter s t (idxJ n m k p) = some y from e] at o
        cases o
        have hn' : mtR n m (4 * n + 2 * m + 2 * k) (jnx xs ys y) = none := hn
        rw [hz] at hn'
        cases hn'
      · refine ⟨t + 1, by omega, .inl ?_⟩
        show (iter s t (idxJ n m k p)).bind s = _
        rw [o]
        exact hz
  refine ⟨fun X => decide (S X), fun X hX => ?_, fun X Z hz => ?_, fun e' he' => ?_⟩
  · refine decide_eq_decide.2 ⟨fun q => ?_, hnx X hX⟩
    have := hnx _ (h.nx_lt X hX) q
    rwa [h.nx_nx X hX] at this
  · exact decide_eq_decide.2 ⟨hmt Z X (h.mt_mt _ _ hz), hmt X Z hz⟩
  · have hq := joinL_get lx ly px py hp
    obtain ⟨q, q1, q2, q3, q4, q5⟩ := hq
    have hcq : cnx (joinL n m k xs ys) p = q := by unfold cnx; rw [q1]; omega
    have hgy := (h.end_pair hi.2 (idxJ_out hp) hK e hn).1
    have hinj : ∀ a b, a < 2 * n + 2 * m + 2 * k → b < 2 * n + 2 * m + 2 * k → idxJ n m k a = idxJ n m k b → a = b := fun a b ha hb hab => by
      have h1 := (nmI_idx (n := n) (m := m) (k := k) ha).1
      have h2 := (nmI_idx (n := n) (m := m) (k := k) hb).1
      rw [hab, h2] at h1
      omega
    rw [decide_eq_true_eq, hcq]
    constructor
    · rintro ⟨t, ht, o | ⟨Y, o, hY⟩⟩
      · cases t with
        | zero => exact .inl (hinj _ _ he' hp (Option.some.inj o).symm)
        | succ t =>
          obtain ⟨Y, hY, hYX⟩ := iter_pred o
          have h1 : mtR n m (4 * n + 2 * m + 2 * k) (jnx xs ys Y) = some (idxJ n m k e') := hYX
          have h2 := h.mt_mt _ _ h1
          rw [idxJ_out he'] at h2
          cases h2
      · by_cases htK : t = K
        · subst htK
          rw [show iter s t (idxJ n m k p) = some y from e] at o
          cases o
          exact .inr (hinj _ _ he' q2 (by rw [hY, q5, hgy]))
        · obtain ⟨z, hz⟩ := iter_lt e (t + 1) (by omega)
          obtain ⟨z', hz', hzz⟩ := iter_pred hz
          have o' : iter (gs (jnx xs ys) (mtR n m (4 * n + 2 * m + 2 * k))) t (idxJ n m k p) = some Y := o
          rw [o'] at hz'
          cases hz'
          have h1 : mtR n m (4 * n + 2 * m + 2 * k) (jnx xs ys Y) = some z := hzz
          rw [← hY, idxJ_out he'] at h1
          cases h1
    · rintro (rfl | rfl)
      · exact ⟨0, Nat.zero_le _, .inl rfl⟩
      · exact ⟨K, Nat.le_refl _, .inr ⟨y, e, by rw [q5, hgy]⟩⟩
/-- Joined pairings without crossings have none. -/
theorem join_nc (hx : NCr xs) (hy : NCr ys) : NCr (joinL n m k xs ys) := by
  have h := join_glue2 hT lx ly px py
  have hn1 := hT.n1
  rintro a c ha hc ⟨h1, h2, h3⟩
  rw [joinL_length] at ha hc
  obtain ⟨E, e1, e2, e3⟩ := path_set hT lx ly px py ha
  obtain ⟨ja1, ja2⟩ := joinL_cnx' lx ly px py ha
  obtain ⟨jc1, jc2⟩ := joinL_cnx' lx ly px py hc
  generalize cnx (joinL n m k xs ys) a = a' at *
  generalize hcc : cnx (joinL n m k xs ys) c = c' at *
  have hEx : ∀ e, e < xs.length → E (cnx xs e) = E e := fun e he => by
    have := e1 e (by omega)
    unfold jnx at this
    rw [if_pos he] at this
    exact this
  have hEy : ∀ e, e < ys.length → (fun j => E (xs.length + j)) (cnx ys e) = (fun j => E (xs.length + j)) e := fun e he => by
    have := e1 (xs.length + e) (by omega)
    unfold jnx at this
    rw [if_neg (by omega), show xs.length + e - xs.length = e by omega] at this
    exact this
  -- the ends of the seam
  have hseam : ∀ r, r < n → E (xs.length + (2 * k + n + (n - 1 - r))) = E (m + r) := fun r hr => by
    refine e2 (m + r) _ ?_
    unfold mtR
    rw [if_pos (by omega)]
    congr 1
    omega
  have hb : cntN (fun j => E (xs.length + j)) (2 * k + n + n) = cntN (fun j => E (xs.length + j)) (2 * k + n) + cntN (fun j => E (m + j)) n := by
    rw [cntN_add, cntN_rev (fun j => E (m + j)) n n (Nat.le_refl _), Nat.sub_self]
    have : cntN (fun j => E (xs.length + (2 * k + n + j))) n = cntN (fun j => E (m + (n - 1 - j))) n := cntN_congr fun j hj => by
      have := hseam (n - 1 - j) (by omega)
      rw [show n - 1 - (n - 1 - j) = j by omega] at this
      exact this
    rw [this]
    show _ = _ + (0 + _)
    omega
  have hbe : cntN (fun j => E (xs.length + j)) (2 * k + n + n) % 2 = 0 := by
    have := cntN_even (fun e he => (cnx_get py he).2.1) (fun e he => (cnx_get py he).2.2.2) (fun e he => (cnx_get py he).2.2.1) (fun j => E (xs.length + j)) hEy
    rw [show ys.length = 2 * k + n + n by omega] at this
    exact this
  let τ : Nat → Nat := fun X => if X < xs.length then cntN E X else cntN E m + cntN (fun j => E (xs.length + j)) (X - xs.length)
  have hτn : ∀ X, X < 4 * n + 2 * m + 2 * k → E X = false → τ (jnx xs ys X) % 2 = τ X % 2 := fun X hX hE => by
    show (if jnx xs ys X < xs.length then _ else _) % 2 = (if X < xs.length then _ else _) % 2
    by_cases hl : X < xs.length
    · have hj : jnx xs ys X = cnx xs X := by unfold jnx; rw [if_pos hl]
      rw [hj, if_pos (cnx_get px hl).2.1, if_pos hl]
      exact nc_par px hx hEx hl hE
    · have hj : jnx xs ys X = xs.length + cnx ys (X - xs.length) := by unfold jnx; rw [if_neg hl]
      rw [hj, if_neg (by omega), if_neg hl, show xs.length + cnx ys (X - xs.length) - xs.length = cnx ys (X - xs.length) by omega]
      have := nc_par py hy (E := fun j => E (xs.length + j)) hEy (X := X - xs.length) (by omega) (by show E (xs.length + (X - xs.length)) = false; rw [show xs.length + (X - xs.length) = X by omega]; exact hE)
      omega
  have hrow : ∀ i, i < n → E (m + i) = false → τ (m + i) % 2 = τ (xs.length + (2 * k + n + (n - 1 - i))) % 2 := fun i hi hE => by
    show (if m + i < xs.length then _ else _) % 2 = (if xs.length + (2 * k + n + (n - 1 - i)) < xs.length then _ else _) % 2
    rw [if_pos (by omega), if_neg (by omega), show xs.length + (2 * k + n + (n - 1 - i)) - xs.length = 2 * k + n + (n - 1 - i) by omega, cntN_add E m i, cntN_add (fun j => E (xs.length + j)) (2 * k + n) (n - 1 - i)]
    have k1 : cntN (fun j => E (xs.length + (2 * k + n + j))) (n - 1 - i) = cntN (fun j => E (m + (n - 1 - j))) (n - 1 - i) := cntN_congr fun j hj => by
      have := hseam (n - 1 - j) (by omega)
      rw [show n - 1 - (n - 1 - j) = j by omega] at this
      exact this
    have k2 := cntN_rev (fun j => E (m + j)) n (n - 1 - i) (by omega)
    rw [show n - (n - 1 - i) = i + 1 by omega, cntN_succ] at k2
    have k3 : (if E (m + i) = true then 1 else 0) = 0 := by rw [hE]; rfl
    have k2' : cntN (fun j => E (m + j)) n = cntN (fun j => E (m + j)) i + 0 + cntN (fun j => E (m + (n - 1 - j))) (n - 1 - i) := by
      rw [k2]
      congr 1
      rw [k3]
    rw [k1]
    omega
  have hτm : ∀ X Z, mtR n m (4 * n + 2 * m + 2 * k) X = some Z → E X = false → τ Z % 2 = τ X % 2 := fun X Z hz hE => by
    have hz0 := hz
    unfold mtR at hz
    split at hz
    · rename_i hr
      have e : 4 * n + 2 * m + 2 * k - 1 - (X - m) = Z := Option.some.inj hz
      have := hrow (X - m) (by omega) (by rw [show m + (X - m) = X by omega]; exact hE)
      rw [show m + (X - m) = X by omega, show xs.length + (2 * k + n + (n - 1 - (X - m))) = Z by omega] at this
      exact this.symm
    · split at hz
      · rename_i hr1 hr
        have e : m + (4 * n + 2 * m + 2 * k - 1 - X) = Z := Option.some.inj hz
        have hEZ : E Z = false := by rw [e2 X Z hz0]; exact hE
        have := hrow (4 * n + 2 * m + 2 * k - 1 - X) (by omega) (by rw [e]; exact hEZ)
        rw [e, show xs.length + (2 * k + n + (n - 1 - (4 * n + 2 * m + 2 * k - 1 - X))) = X by omega] at this
        exact this
      · cases hz
  have hτi : ∀ t X Y, X < 4 * n + 2 * m + 2 * k → E X = false → iter (gs (jnx xs ys) (mtR n m (4 * n + 2 * m + 2 * k))) t X = some Y → τ Y % 2 = τ X % 2 ∧ E Y = false := by
    intro t
    induction t with
    | zero => intro X Y hX hE e; cases e; exact ⟨rfl, hE⟩
    | succ t ih =>
      intro X Y hX hE e
      obtain ⟨Z, hZ, hZY⟩ := iter_pred e
      obtain ⟨i1, i2⟩ := ih X Z hX hE hZ
      have hZN := h.rv.steps.iter_stay t X Z hX hZ
      have h5 : mtR n m (4 * n + 2 * m + 2 * k) (jnx xs ys Z) = some Y := hZY
      have h6 : E (jnx xs ys Z) = false := by rw [e1 Z hZN]; exact i2
      have h7 := hτm _ _ h5 h6
      have h8 := hτn Z hZN i2
      exact ⟨by omega, by rw [e2 _ _ h5]; exact h6⟩
  -- the outer order
  have haa : a ≠ a' := by omega
  have hout : ∀ r, r < 2 * n + 2 * m + 2 * k → τ (idxJ n m k r) % 2 = ((if a < r then 1 else 0) + (if a' < r then 1 else 0)) % 2 := fun r hr => by
    have hO := cntN_two (f := fun e => E (idxJ n m k e)) haa r (fun e he => e3 e (by omega))
    rw [← hO]
    by_cases c1 : r < m
    · have hi : idxJ n m k r = r := by unfold idxJ; rw [if_pos c1]
      show (if idxJ n m k r < xs.length then cntN E (idxJ n m k r) else _) % 2 = _
      rw [hi, if_pos (by omega)]
      congr 1
      exact cntN_congr fun e he => by show E e = E (idxJ n m k e); unfold idxJ; rw [if_pos (by omega)]
    · have hm0 : cntN (fun e => E (idxJ n m k e)) m = cntN E m := cntN_congr fun e he => by show E (idxJ n m k e) = E e; unfold idxJ; rw [if_pos (by omega)]
      have hmid : ∀ s, s ≤ 2 * k + n → cntN (fun j => E (idxJ n m k (m + j))) s = cntN (fun j => E (xs.length + j)) s := fun s hs => cntN_congr fun j hj => by
        show E (idxJ n m k (m + j)) = E (xs.length + j)
        unfold idxJ
        rw [if_neg (by omega), if_pos (by omega)]
        congr 1
        omega
      by_cases c2 : r < m + 2 * k + n
      · have hi : idxJ n m k r = xs.length + (r - m) := by unfold idxJ; rw [if_neg c1, if_pos c2]; omega
        show (if idxJ n m k r < xs.length then _ else cntN E m + cntN (fun j => E (xs.length + j)) (idxJ n m k r - xs.length)) % 2 = _
        rw [hi, if_neg (by omega), show xs.length + (r - m) - xs.length = r - m by omega, ← hmid (r - m) (by omega), ← hm0, ← cntN_add, show m + (r - m) = r by omega]
      · have hi : idxJ n m k r = r - 2 * k := by unfold idxJ; rw [if_neg c1, if_neg c2]
        show (if idxJ n m k r < xs.length then cntN E (idxJ n m k r) else _) % 2 = _
        rw [hi, if_pos (by omega)]
        have s1 : cntN E (r - 2 * k) = cntN E m + (cntN (fun j => E (m + j)) n + cntN (fun j => E (m + (n + j))) (r - 2 * k - m - n)) := by
          rw [show r - 2 * k = m + (n + (r - 2 * k - m - n)) by omega, cntN_add E m, cntN_add (fun j => E (m + j)) n, show m + (n + (r - 2 * k - m - n)) - m - n = r - 2 * k - m - n by omega]
        have s2 : cntN (fun e => E (idxJ n m k e)) r = cntN E m + (cntN (fun j => E (xs.length + j)) (2 * k + n) + cntN (fun j => E (m + (n + j))) (r - 2 * k - m - n)) := by
          have e0 : r = m + ((2 * k + n) + (r - 2 * k - m - n)) := by omega
          have : cntN (fun e => E (idxJ n m k e)) (m + ((2 * k + n) + (r - 2 * k - m - n))) = cntN E m + (cntN (fun j => E (xs.length + j)) (2 * k + n) + cntN (fun j => E (m + (n + j))) (r - 2 * k - m - n)) := by
            rw [cntN_add, cntN_add, hm0, hmid _ (Nat.le_refl _)]
            congr 2
            exact cntN_congr fun j hj => by
              show E (idxJ n m k (m + (2 * k + n + j))) = E (m + (n + j))
              unfold idxJ
              rw [if_neg (by omega), if_neg (by omega)]
              congr 1
              omega
          rw [← this, ← e0]
        rw [s1, s2]
        omega
  have hEc : E (idxJ n m k c) = false := by
    cases hh : E (idxJ n m k c)
    · rfl
    · rcases (e3 c hc).1 hh with q | q
      · omega
      · omega
  have hi := nmI_idx (n := n) (m := m) (k := k) hc
  obtain ⟨K, y, hK, e, hn⟩ := h.outer_ends hi.2 (idxJ_out hc)
  obtain ⟨t1, t2⟩ := hτi K _ y hi.2 hEc e
  have hyN := h.rv.steps.iter_stay K _ y hi.2 e
  have t3 := hτn y hyN t2
  have t4 : jnx xs ys y = idxJ n m k c' := by rw [jc2, (h.end_pair hi.2 (idxJ_out hc) hK e hn).1]
  rw [t4] at t3
  have o1 := hout c hc
  have o2 := hout c' jc1
  rw [if_pos h1, if_neg (by omega)] at o1
  rw [if_pos (by omega), if_pos (by omega)] at o2
  omega
end
end Go.Proofs.Ytfpcfolcdpdomaa
