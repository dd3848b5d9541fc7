/- Two pairings beside each other: plain facts. -/
import Derived.Test.YtoodfgfbppkbmaaGlue2L
import Derived.Test.YtoodfgfbppkbmaaPlaceW
namespace Go.Proofs.Ytoodfgfbppkbmaa
set_option linter.unusedVariables false
set_option linter.unusedSimpArgs false
set_option linter.unusedSectionVars false

/-- Fewer pieces. -/
theorem St.sub {w0 W : World} {a b : List Seg} (h : St w0 W a) (hs : List.Sublist b a) : St w0 W b :=
  ⟨h.below, fun s hs2 => h.own s (hs.subset hs2), h.apart.sublist hs⟩
/-- Where the two pairings lead, the second's ports behind the first's. -/
def jnx (xs ys : List Int) (x : Nat) : Nat := if x < xs.length then cnx xs x else xs.length + cnx ys (x - xs.length)
theorem join_glue {n m k : Nat} {xs ys : List Int} (hx : xs.length = 2 * n + 2 * m) (hy : ys.length = 2 * n + 2 * k) (px : pairsB xs = true) (py : pairsB ys = true) :
    Glue (xs.length + ys.length) (jnx xs ys) (mtR n m (xs.length + ys.length)) where
  nx_lt := fun x h => by
    unfold jnx
    split
    · have := (cnx_get px (by assumption)).2.1; omega
    · have := (cnx_get py (x := x - xs.length) (by omega)).2.1; omega
  nx_nx := fun x h => by
    unfold jnx
    by_cases e : x < xs.length
    · have h1 := cnx_get px e
      rw [if_pos e, if_pos h1.2.1, h1.2.2.2]
    · have h1 := cnx_get py (x := x - xs.length) (by omega)
      rw [if_neg e, if_neg (by omega), show xs.length + cnx ys (x - xs.length) - xs.length = cnx ys (x - xs.length) by omega, h1.2.2.2]
      omega
  nx_ne := fun x h => by
    unfold jnx
    split
    · exact (cnx_get px (by assumption)).2.2.1
    · have := (cnx_get py (x := x - xs.length) (by omega)).2.2.1; omega
  mt_lt := fun x y e => ⟨(mtR_lt (by omega) e).1, (mtR_lt (by omega) e).2.1⟩
  mt_mt := fun x y e => (mtR_lt (by omega) e).2.2.2
  mt_ne := fun x y e => (mtR_lt (by omega) e).2.2.1

/-- The outer number of a port, or -1; and back. -/
def nmI (n m k x : Nat) : Int := if x < m then (x : Int) else if x < m + n then -1 else if x < 2 * n + 2 * m then (x : Int) + 2 * k else if x < 3 * n + 2 * m + 2 * k then (m : Int) + (x - (2 * n + 2 * m) : Nat) else -1
def idxJ (n m k p : Nat) : Nat := if p < m then p else if p < m + 2 * k + n then 2 * n + 2 * m + (p - m) else p - 2 * k
theorem nmI_idx {n m k p : Nat} (hp : p < 2 * n + 2 * m + 2 * k) : nmI n m k (idxJ n m k p) = (p : Int) ∧ idxJ n m k p < 4 * n + 2 * m + 2 * k := by
  unfold nmI idxJ
  repeat' split
  all_goals omega
theorem nmI_out {n m k x : Nat} (h : mtR n m (4 * n + 2 * m + 2 * k) x = none) (hx : x < 4 * n + 2 * m + 2 * k) : ∃ p : Nat, nmI n m k x = (p : Int) ∧ p < 2 * n + 2 * m + 2 * k ∧ idxJ n m k p = x := by
  unfold mtR at h
  split at h
  · cases h
  · split at h
    · cases h
    · unfold nmI
      by_cases h1 : x < m
      · exact ⟨x, by rw [if_pos h1], by omega, by unfold idxJ; rw [if_pos h1]⟩
      · by_cases h2 : x < 2 * n + 2 * m
        · exact ⟨x + 2 * k, by rw [if_neg h1, if_neg (by omega), if_pos h2]; omega, by omega, by unfold idxJ; rw [if_neg (by omega), if_neg (by omega)]; omega⟩
        · exact ⟨m + (x - (2 * n + 2 * m)), by rw [if_neg h1, if_neg (by omega), if_neg h2, if_pos (by omega)]; omega, by omega, by unfold idxJ; rw [if_neg (by omega), if_pos (by omega)]; omega⟩
theorem nmI_in {n m k x z : Nat} (h : mtR n m (4 * n + 2 * m + 2 * k) x = some z) : nmI n m k x = -1 := by
  unfold mtR at h
  split at h
  · unfold nmI
    rw [if_neg (by omega), if_pos (by omega)]
  · split at h
    · unfold nmI
      rw [if_neg (by omega), if_neg (by omega), if_neg (by omega), if_neg (by omega)]
    · cases h
theorem idxJ_out {n m k p : Nat} (hp : p < 2 * n + 2 * m + 2 * k) : mtR n m (4 * n + 2 * m + 2 * k) (idxJ n m k p) = none := by
  cases h : mtR n m (4 * n + 2 * m + 2 * k) (idxJ n m k p) with
  | none => rfl
  | some z =>
    have h1 := nmI_in h
    rw [(nmI_idx hp).1] at h1
    omega

/-- The pairing that comes. -/
def joutF (n m k : Nat) (nx : Nat → Nat) (p : Nat) : Int := nmI n m k (gendF nx (mtR n m (4 * n + 2 * m + 2 * k)) (4 * n + 2 * m + 2 * k) (idxJ n m k p))
def joinL (n m k : Nat) (xs ys : List Int) : List Int := fillN (joutF n m k (jnx xs ys)) (2 * n + 2 * m + 2 * k)
def joinN (n m k : Nat) (xs ys : List Int) : Nat := grounds (4 * n + 2 * m + 2 * k) (jnx xs ys) (mtR n m (4 * n + 2 * m + 2 * k))
/-- What stands when the states below i are done. -/
def joutTo (n m k : Nat) (nx : Nat → Nat) (i p : Nat) : Int := if idxJ n m k p < i then joutF n m k nx p else 0
theorem joutTo_zero (n m k : Nat) (nx : Nat → Nat) (T : Nat) : List.replicate T 0 = fillN (joutTo n m k nx 0) T := by
  rw [← fillN_const]
  refine fillN_congr fun x hx => ?_
  unfold joutTo
  rw [if_neg (by omega)]
theorem joutTo_all {n m k : Nat} {nx : Nat → Nat} : fillN (joutTo n m k nx (4 * n + 2 * m + 2 * k)) (2 * n + 2 * m + 2 * k) = fillN (joutF n m k nx) (2 * n + 2 * m + 2 * k) :=
  fillN_congr fun x hx => by unfold joutTo; rw [if_pos (nmI_idx hx).2]
theorem joutTo_skip {n m k i z : Nat} {nx : Nat → Nat} (h : mtR n m (4 * n + 2 * m + 2 * k) i = some z) : fillN (joutTo n m k nx i) (2 * n + 2 * m + 2 * k) = fillN (joutTo n m k nx (i + 1)) (2 * n + 2 * m + 2 * k) :=
  fillN_congr fun x hx => by
    have : idxJ n m k x ≠ i := fun e => by
      have := idxJ_out (n := n) (m := m) (k := k) hx
      rw [e, h] at this
      cases this
    unfold joutTo
    by_cases h1 : idxJ n m k x < i
    · rw [if_pos h1, if_pos (by omega)]
    · rw [if_neg h1, if_neg (by omega)]
theorem joutTo_step {n m k i p : Nat} {nx : Nat → Nat} (hp : p < 2 * n + 2 * m + 2 * k) (hi : idxJ n m k p = i) : (fillN (joutTo n m k nx i) (2 * n + 2 * m + 2 * k)).set p (joutF n m k nx p) = fillN (joutTo n m k nx (i + 1)) (2 * n + 2 * m + 2 * k) := by
  rw [fillN_set]
  refine fillN_congr fun x hx => ?_
  by_cases e : x = p
  · subst e
    rw [if_pos rfl]
    unfold joutTo
    rw [if_pos (by omega)]
  · rw [if_neg e]
    have : idxJ n m k x ≠ i := fun h => e (by
      have h1 := (nmI_idx (n := n) (m := m) (k := k) hx).1
      have h2 := (nmI_idx (n := n) (m := m) (k := k) hp).1
      rw [h, ← hi, h2] at h1
      omega)
    unfold joutTo
    by_cases h1 : idxJ n m k x < i
    · rw [if_pos h1, if_pos (by omega)]
    · rw [if_neg h1, if_neg (by omega)]
theorem joutF_end {n m k p K y : Nat} {nx : Nat → Nat} (h : Glue (4 * n + 2 * m + 2 * k) nx (mtR n m (4 * n + 2 * m + 2 * k))) (hp : p < 2 * n + 2 * m + 2 * k) (hK : K < 4 * n + 2 * m + 2 * k)
    (e : iter (gs nx (mtR n m (4 * n + 2 * m + 2 * k))) K (idxJ n m k p) = some y) (hn : gs nx (mtR n m (4 * n + 2 * m + 2 * k)) y = none) : joutF n m k nx p = nmI n m k (nx y) := by
  unfold joutF
  rw [(h.end_pair (nmI_idx hp).2 (idxJ_out hp) hK e hn).1]
theorem joinL_length (n m k : Nat) (xs ys : List Int) : (joinL n m k xs ys).length = 2 * n + 2 * m + 2 * k := fillN_length _ _
theorem joinL_get {n m k : Nat} {xs ys : List Int} (hx : xs.length = 2 * n + 2 * m) (hy : ys.length = 2 * n + 2 * k) (px : pairsB xs = true) (py : pairsB ys = true) {p : Nat} (hp : p < 2 * n + 2 * m + 2 * k) :
    ∃ q : Nat, (joinL n m k xs ys).getD p 0 = (q : Int) ∧ q < 2 * n + 2 * m + 2 * k ∧ q ≠ p ∧ (joinL n m k xs ys).getD q 0 = (p : Int) ∧ idxJ n m k q = gendF (jnx xs ys) (mtR n m (4 * n + 2 * m + 2 * k)) (4 * n + 2 * m + 2 * k) (idxJ n m k p) := by
  have h := join_glue (n := n) hx hy px py
  rw [show xs.length + ys.length = 4 * n + 2 * m + 2 * k by omega] at h
  have h1 := nmI_idx (n := n) (m := m) (k := k) hp
  obtain ⟨g1, g2, g3, g4⟩ := h.gend_pair h1.2 (idxJ_out hp)
  obtain ⟨q, hq1, hq2, hq3⟩ := nmI_out g2 g1
  refine ⟨q, by unfold joinL; rw [fillN_getD _ hp]; exact hq1, hq2, fun e => g3 (by rw [← hq3, e]), ?_, hq3⟩
  unfold joinL
  rw [fillN_getD _ hq2]
  unfold joutF
  rw [hq3, g4, h1.1]
/-- The joined pairing is a pairing. -/
theorem joinL_pairs {n m k : Nat} {xs ys : List Int} (hx : xs.length = 2 * n + 2 * m) (hy : ys.length = 2 * n + 2 * k) (px : pairsB xs = true) (py : pairsB ys = true) (hn : n ≤ 5) (hm : 1 ≤ m) (hk : 1 ≤ k) (hmk : m + k ≤ 5) : pairsB (joinL n m k xs ys) = true := by
  refine pairsB_iff.2 ⟨fun j hj => ?_, by rw [joinL_length, inB_iff]; omega⟩
  rw [joinL_length] at hj
  obtain ⟨q, h1, h2, h3, h4, _⟩ := joinL_get hx hy px py hj
  unfold okAt
  rw [h1, show ((q : Int)).toNat = q by omega, h4, joinL_length]
  simp only [Bool.and_eq_true, inB_iff, Bool.not_eq_true', beq_eq_false_iff_ne, beq_iff_eq]
  exact ⟨⟨by omega, by omega⟩, trivial⟩
/-- The three loops that name the outer ports. -/
def nm1 (i x : Nat) : Int := if x < i then (x : Int) else -1
def nm2 (n m i x : Nat) : Int := if x < m then (x : Int) else if 2 * n + 2 * m ≤ x ∧ x < 2 * n + 2 * m + i then (m : Int) + (x - (2 * n + 2 * m) : Nat) else -1
def nm3 (n m k i x : Nat) : Int := if x < m then (x : Int) else if m + n ≤ x ∧ x < i then (x : Int) + 2 * k else if 2 * n + 2 * m ≤ x ∧ x < 3 * n + 2 * m + 2 * k then (m : Int) + (x - (2 * n + 2 * m) : Nat) else -1
theorem nm1_zero (N : Nat) : fillN (fun _ => -1) N = fillN (nm1 0) N := fillN_congr fun x hx => by unfold nm1; rw [if_neg (by omega)]
theorem nm1_step (i N : Nat) : (fillN (nm1 i) N).set i (i : Int) = fillN (nm1 (i + 1)) N := by
  rw [fillN_set]
  refine fillN_congr fun x hx => ?_
  unfold nm1
  repeat' split
  all_goals omega
theorem nm2_zero (n m N : Nat) : fillN (nm1 m) N = fillN (nm2 n m 0) N := fillN_congr fun x hx => by
  unfold nm1 nm2
  repeat' split
  all_goals omega
theorem nm2_step {n m P i a : Nat} (N : Nat) (hP : 2 * n + 2 * m = P) (ha : a = m + i) : (fillN (nm2 n m i) N).set (P + i) (a : Int) = fillN (nm2 n m (i + 1)) N := by
  subst hP ha
  rw [fillN_set]
  refine fillN_congr fun x hx => ?_
  unfold nm2
  repeat' split
  all_goals omega
theorem nm3_zero (n m k N : Nat) : fillN (nm2 n m (2 * k + n)) N = fillN (nm3 n m k (m + n)) N := fillN_congr fun x hx => by
  unfold nm2 nm3
  repeat' split
  all_goals omega
theorem nm3_step {n m k i a : Nat} (N : Nat) (h1 : m + n ≤ i) (h2 : i < 2 * n + 2 * m) (ha : a = i + 2 * k) : (fillN (nm3 n m k i) N).set i (a : Int) = fillN (nm3 n m k (i + 1)) N := by
  subst ha
  rw [fillN_set]
  refine fillN_congr fun x hx => ?_
  unfold nm3
  repeat' split
  all_goals omega
theorem nm3_all (n m k : Nat) : fillN (nm3 n m k (2 * n + 2 * m)) (4 * n + 2 * m + 2 * k) = fillN (nmI n m k) (4 * n + 2 * m + 2 * k) := fillN_congr fun x hx => by
  unfold nm3 nmI
  repeat' split
  all_goals omega
end Go.Proofs.Ytoodfgfbppkbmaa
