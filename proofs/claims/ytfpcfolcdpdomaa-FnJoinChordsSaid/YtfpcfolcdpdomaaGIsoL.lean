/- Two systems of glued ports that are alike; joined and closed pairings flipped: plain facts. -/
import Derived.Test.YtfpcfolcdpdomaaJRoundL
import Derived.Test.YtfpcfolcdpdomaaRen
import Derived.Test.YtfpcfolcdpdomaaUnitW
namespace Go.Proofs.Ytfpcfolcdpdomaa
set_option linter.unusedVariables false
set_option linter.unusedSimpArgs false
set_option linter.unusedSectionVars false

structure GIso (N : Nat) (nx : Nat → Nat) (mt : Nat → Option Nat) (nx' : Nat → Nat) (mt' : Nat → Option Nat) (φ ψ : Nat → Nat) : Prop where
  lt : ∀ x, x < N → φ x < N
  lt' : ∀ x, x < N → ψ x < N
  back : ∀ x, x < N → ψ (φ x) = x
  forth : ∀ x, x < N → φ (ψ x) = x
  nx : ∀ x, x < N → nx' (φ x) = φ (nx x)
  mt : ∀ x, x < N → mt' (φ x) = (mt x).map φ
section
variable {N : Nat} {nx nx' : Nat → Nat} {mt mt' : Nat → Option Nat} {φ ψ : Nat → Nat} (h : Glue N nx mt) (h' : Glue N nx' mt') (i : GIso N nx mt nx' mt' φ ψ)
include h i
theorem GIso.gend : ∀ f x, x < N → gendF nx' mt' f (φ x) = φ (gendF nx mt f x) := by
  intro f
  induction f with
  | zero => intro x hx; exact i.nx x hx
  | succ f ih =>
    intro x hx
    have h1 := i.mt (nx x) (h.nx_lt x hx)
    show (match mt' (nx' (φ x)) with | none => nx' (φ x) | some y => gendF nx' mt' f y) = φ (match mt (nx x) with | none => nx x | some y => gendF nx mt f y)
    rw [i.nx x hx, h1]
    cases hz : mt (nx x) with
    | none => rfl
    | some z => exact ih z (h.mt_lt _ _ hz).2
theorem GIso.iter : ∀ k x, x < N → iter (gs nx' mt') k (φ x) = (iter (gs nx mt) k x).map φ := by
  intro k
  induction k with
  | zero => intro x hx; rfl
  | succ k ih =>
    intro x hx
    rw [iter_succ', iter_succ']
    have h1 : gs nx' mt' (φ x) = (gs nx mt x).map φ := by
      show mt' (nx' (φ x)) = _
      rw [i.nx x hx]
      exact i.mt _ (h.nx_lt x hx)
    rw [h1]
    cases hz : gs nx mt x with
    | none => rfl
    | some z => exact ih z (h.mt_lt _ _ hz).2
theorem GIso.on {x y : Nat} (hx : x < N) (hy : y < N) : On (gs nx' mt') (φ x) (φ y) ↔ On (gs nx mt) x y := by
  have inj : ∀ a, a < N → φ a = φ y → a = y := fun a ha e => by rw [← i.back a ha, e, i.back y hy]
  constructor
  · rintro ⟨k, e⟩
    rw [GIso.iter h i k x hx] at e
    obtain ⟨z, hz, hzy⟩ := Option.map_eq_some_iff.1 e
    exact ⟨k, by rw [hz, inj z (h.rv.steps.iter_stay k x z hx hz) hzy]⟩
  · rintro ⟨k, e⟩
    exact ⟨k, by rw [GIso.iter h i k x hx, e]; rfl⟩
theorem GIso.cyc {x : Nat} (hx : x < N) : Cyc (gs nx' mt') (φ x) ↔ Cyc (gs nx mt) x := by
  constructor
  · rintro ⟨k, hk, e⟩
    rw [GIso.iter h i k x hx] at e
    obtain ⟨z, hz, hzy⟩ := Option.map_eq_some_iff.1 e
    have hzN := h.rv.steps.iter_stay k x z hx hz
    exact ⟨k, hk, by rw [hz, ← i.back z hzN, hzy, i.back x hx]⟩
  · rintro ⟨k, hk, e⟩
    exact ⟨k, hk, by rw [GIso.iter h i k x hx, e]; rfl⟩
include h' in
theorem GIso.rounds : grounds N nx' mt' = grounds N nx mt := by
  refine (Num.eq h.rv.eqv h'.rv.eqv h.num h'.num (fun x y => φ x = y) ?_ ?_ ?_).symm
  · rintro x ⟨hx, c⟩
    exact ⟨φ x, ⟨i.lt x hx, (GIso.cyc h i hx).2 c⟩, rfl⟩
  · rintro y ⟨hy, c⟩
    refine ⟨ψ y, ⟨i.lt' y hy, ?_⟩, i.forth y hy⟩
    have h1 := GIso.cyc h i (i.lt' y hy)
    rw [i.forth y hy] at h1
    exact h1.1 c
  · rintro x x' y y' ⟨hx, _⟩ ⟨hx', _⟩ _ _ rfl rfl
    unfold Proofs.Ytfpcfolcdpdomaa.Same
    rw [i.nx x' hx', GIso.on h i hx hx', GIso.on h i hx (h.nx_lt x' hx')]
end

/-- Flipped ports of two pairings: the second comes first. -/
def phiJ (n m k x : Nat) : Nat := if x < 2 * n + 2 * m then 2 * n + 2 * k + jflipF n m (2 * n + 2 * m) x else jflipF n k (2 * n + 2 * k) (x - (2 * n + 2 * m))
def chkF (n m k X : Nat) : Bool :=
  decide (phiJ n m k X < 4 * n + 2 * m + 2 * k) && phiJ n k m (phiJ n m k X) == X && mtR n k (4 * n + 2 * m + 2 * k) (phiJ n m k X) == (mtR n m (4 * n + 2 * m + 2 * k) X).map (phiJ n m k)
def chkI (n m k p : Nat) : Bool := idxJ n k m (jflipF n (m + k) (2 * n + 2 * m + 2 * k) p) == phiJ n m k (idxJ n m k p) && decide (jflipF n (m + k) (2 * n + 2 * m + 2 * k) p < 2 * n + 2 * m + 2 * k) && jflipF n (m + k) (2 * n + 2 * m + 2 * k) (jflipF n (m + k) (2 * n + 2 * m + 2 * k) p) == p
theorem chkF_all : ∀ n ∈ [1, 2, 3, 4, 5], ∀ m ∈ [1, 2, 3, 4], ∀ k ∈ List.range (6 - m), 1 ≤ k → ∀ X ∈ List.range (4 * n + 2 * m + 2 * k), chkF n m k X = true := by decide +kernel
theorem chkI_all : ∀ n ∈ [1, 2, 3, 4, 5], ∀ m ∈ [1, 2, 3, 4], ∀ k ∈ List.range (6 - m), 1 ≤ k → ∀ p ∈ List.range (2 * n + 2 * m + 2 * k), chkI n m k p = true := by decide +kernel
theorem chkF_at {n m k X : Nat} (h : Two n m k) (hX : X < 4 * n + 2 * m + 2 * k) : phiJ n m k X < 4 * n + 2 * m + 2 * k ∧ phiJ n k m (phiJ n m k X) = X ∧ mtR n k (4 * n + 2 * m + 2 * k) (phiJ n m k X) = (mtR n m (4 * n + 2 * m + 2 * k) X).map (phiJ n m k) := by
  have := chkF_all n (mem_n h.n1 h.n5) m (mem_m h.m1 (by have := h.mk5; have := h.k1; omega)) k (List.mem_range.2 (by have := h.mk5; omega)) h.k1 X (List.mem_range.2 hX)
  simp only [chkF, Bool.and_eq_true, decide_eq_true_eq, beq_iff_eq] at this
  exact ⟨this.1.1, this.1.2, this.2⟩
theorem chkI_at {n m k p : Nat} (h : Two n m k) (hp : p < 2 * n + 2 * m + 2 * k) : idxJ n k m (jflipF n (m + k) (2 * n + 2 * m + 2 * k) p) = phiJ n m k (idxJ n m k p) ∧ jflipF n (m + k) (2 * n + 2 * m + 2 * k) p < 2 * n + 2 * m + 2 * k ∧ jflipF n (m + k) (2 * n + 2 * m + 2 * k) (jflipF n (m + k) (2 * n + 2 * m + 2 * k) p) = p := by
  have := chkI_all n (mem_n h.n1 h.n5) m (mem_m h.m1 (by have := h.mk5; have := h.k1; omega)) k (List.mem_range.2 (by have := h.mk5; omega)) h.k1 p (List.mem_range.2 hp)
  simp only [chkI, Bool.and_eq_true, decide_eq_true_eq, beq_iff_eq] at this
  exact ⟨this.1.1, this.1.2, this.2⟩
theorem Two.swap {n m k : Nat} (h : Two n m k) : Two n k m := ⟨h.n1, h.n5, h.k1, h.m1, by have := h.mk5; omega⟩
/-- The partner of a flipped port. -/
theorem cnx_flip {n m : Nat} {xs : List Int} (h : ofB n m xs = true) (hl : xs.length = 2 * n + 2 * m) {p : Nat} (hp : p < 2 * n + 2 * m) :
    (jflipL n m xs).length = 2 * n + 2 * m ∧ pairsB (jflipL n m xs) = true ∧ jflipF n m (2 * n + 2 * m) p < 2 * n + 2 * m ∧ cnx (jflipL n m xs) (jflipF n m (2 * n + 2 * m) p) = jflipF n m (2 * n + 2 * m) (cnx xs p) := by
  obtain ⟨a1, a2, a3, a4, a5, a6⟩ := ofB_iff.1 h
  have hr : Ren (jflipF n m xs.length) (jflipF n m xs.length) xs.length := ren_flip (by omega) (by omega) hl
  have hL : jflipL n m xs = mapTo (jflipF n m xs.length) xs xs.length := by simp [jflipL, h]
  have hlen : (jflipL n m xs).length = 2 * n + 2 * m := by rw [hL, mapTo_length, hl]
  have hflt : jflipF n m (2 * n + 2 * m) p < 2 * n + 2 * m := by
    unfold jflipF
    exact Nat.mod_lt _ (by omega)
  refine ⟨hlen, by rw [hL]; exact mapTo_pairs hr a6, hflt, ?_⟩
  show ((jflipL n m xs).getD _ 0).toNat = _
  rw [hL, mapTo_at hr (by rw [hl]; exact hflt), hl, jflip_twice (N := 2 * n + 2 * m) (by omega) (by omega) rfl hp]
  show ((jflipF n m (2 * n + 2 * m) (cnx xs p) : Nat) : Int).toNat = _
  omega
section
variable {n m k : Nat} {xs ys : List Int} (hT : Two n m k) (lx : xs.length = 2 * n + 2 * m) (ly : ys.length = 2 * n + 2 * k) (px : pairsB xs = true) (py : pairsB ys = true)
include hT lx ly px py
theorem two_of : ofB n m xs = true ∧ ofB n k ys = true := by
  have h1 := hT.n1
  have h2 := hT.n5
  have h3 := hT.m1
  have h4 := hT.k1
  have h5 := hT.mk5
  exact ⟨ofB_iff.2 ⟨by omega, by omega, by omega, by omega, by omega, px⟩, ofB_iff.2 ⟨by omega, by omega, by omega, by omega, by omega, py⟩⟩
theorem join_iso : GIso (4 * n + 2 * m + 2 * k) (jnx xs ys) (mtR n m (4 * n + 2 * m + 2 * k)) (jnx (jflipL n k ys) (jflipL n m xs)) (mtR n k (4 * n + 2 * m + 2 * k)) (phiJ n m k) (phiJ n k m) where
  lt := fun x hx => (chkF_at hT hx).1
  lt' := fun x hx => by have := (chkF_at hT.swap (X := x) (by omega)).1; omega
  back := fun x hx => (chkF_at hT hx).2.1
  forth := fun x hx => (chkF_at hT.swap (X := x) (by omega)).2.1
  mt := fun x hx => (chkF_at hT hx).2.2
  nx := fun x hx => by
    obtain ⟨ox, oy⟩ := two_of hT lx ly px py
    have hn := hT.n1
    have lfy := (cnx_flip oy ly (p := 0) (by omega)).1
    by_cases h : x < 2 * n + 2 * m
    · obtain ⟨_, _, f1, f2⟩ := cnx_flip ox lx h
      have h1 := (cnx_get px (x := x) (by omega)).2.1
      unfold phiJ
      rw [if_pos h]
      unfold jnx
      rw [lfy, if_neg (by omega), show xs.length = 2 * n + 2 * m from lx, if_pos h, if_pos (by omega), show 2 * n + 2 * k + jflipF n m (2 * n + 2 * m) x - (2 * n + 2 * k) = jflipF n m (2 * n + 2 * m) x by omega, f2]
    · obtain ⟨_, _, f1, f2⟩ := cnx_flip oy ly (p := x - (2 * n + 2 * m)) (by omega)
      unfold phiJ
      rw [if_neg h]
      unfold jnx
      rw [lfy, if_pos f1, show xs.length = 2 * n + 2 * m from lx, if_neg h, if_neg (by omega), f2, show 2 * n + 2 * m + cnx ys (x - (2 * n + 2 * m)) - (2 * n + 2 * m) = cnx ys (x - (2 * n + 2 * m)) by omega]
theorem join_glue2 : Glue (4 * n + 2 * m + 2 * k) (jnx xs ys) (mtR n m (4 * n + 2 * m + 2 * k)) := by
  have h := join_glue (n := n) lx ly px py
  rwa [show xs.length + ys.length = 4 * n + 2 * m + 2 * k by omega] at h
theorem join_flip_facts : (jflipL n k ys).length = 2 * n + 2 * k ∧ pairsB (jflipL n k ys) = true ∧ (jflipL n m xs).length = 2 * n + 2 * m ∧ pairsB (jflipL n m xs) = true := by
  obtain ⟨ox, oy⟩ := two_of hT lx ly px py
  have hn := hT.n1
  obtain ⟨a1, a2, _⟩ := cnx_flip oy ly (p := 0) (by omega)
  obtain ⟨b1, b2, _⟩ := cnx_flip ox lx (p := 0) (by omega)
  exact ⟨a1, a2, b1, b2⟩
theorem joinN_flip : joinN n k m (jflipL n k ys) (jflipL n m xs) = joinN n m k xs ys := by
  obtain ⟨a1, a2, b1, b2⟩ := join_flip_facts hT lx ly px py
  have h1 := join_glue2 hT lx ly px py
  have h2 := join_glue2 hT.swap a1 b1 a2 b2
  unfold joinN
  rw [show 4 * n + 2 * k + 2 * m = 4 * n + 2 * m + 2 * k by omega] at h2 ⊢
  exact GIso.rounds h1 h2 (join_iso hT lx ly px py)
theorem joinL_flip : joinL n k m (jflipL n k ys) (jflipL n m xs) = jflipL n (m + k : Nat) (joinL n m k xs ys) := by
  obtain ⟨a1, a2, b1, b2⟩ := join_flip_facts hT lx ly px py
  have h1 := join_glue2 hT lx ly px py
  have i := join_iso hT lx ly px py
  have hn1 := hT.n1
  have hn5 := hT.n5
  have hm1 := hT.m1
  have hk1 := hT.k1
  have hmk := hT.mk5
  have hJ : (joinL n m k xs ys).length = 2 * n + 2 * m + 2 * k := joinL_length _ _ _ _ _
  have hJP := joinL_pairs lx ly px py hn5 hm1 hk1 hmk
  have hO : ofB n (m + k : Nat) (joinL n m k xs ys) = true := ofB_iff.2 ⟨by omega, by omega, by omega, by omega, by omega, hJP⟩
  have hr : Ren (jflipF n (m + k) (joinL n m k xs ys).length) (jflipF n (m + k) (joinL n m k xs ys).length) (joinL n m k xs ys).length := ren_flip (by omega) (by omega) (by omega)
  have hL : jflipL n (m + k : Nat) (joinL n m k xs ys) = mapTo (jflipF n (m + k) (joinL n m k xs ys).length) (joinL n m k xs ys) (joinL n m k xs ys).length := by unfold jflipL; rw [if_pos hO]; rfl
  rw [hL]
  refine list_ext_getD (by rw [joinL_length, mapTo_length, hJ]; omega) fun q hq => ?_
  rw [joinL_length] at hq
  rw [mapTo_at hr (by omega), hJ]
  obtain ⟨c1, c2, c3⟩ := chkI_at hT (p := q) (by omega)
  obtain ⟨d1, d2, d3⟩ := chkI_at hT (p := jflipF n (m + k) (2 * n + 2 * m + 2 * k) q) c2
  rw [c3] at d1
  obtain ⟨q0, e1, e2, e3, e4, e5⟩ := joinL_get lx ly px py c2
  rw [e1, show ((q0 : Int)).toNat = q0 by omega]
  obtain ⟨q1, g1, g2, g3, g4, g5⟩ := joinL_get a1 b1 a2 b2 (p := q) (by omega)
  rw [g1]
  have hg : idxJ n k m q1 = phiJ n m k (idxJ n m k q0) := by
    rw [g5, d1, show 4 * n + 2 * k + 2 * m = 4 * n + 2 * m + 2 * k by omega, GIso.gend h1 i _ _ (nmI_idx c2).2, e5]
  obtain ⟨f1, f2, f3⟩ := chkI_at hT (p := q0) e2
  rw [← f1] at hg
  have k1 := (nmI_idx (n := n) (m := k) (k := m) (p := q1) (by omega)).1
  rw [hg, (nmI_idx (n := n) (m := k) (k := m) (p := jflipF n (m + k) (2 * n + 2 * m + 2 * k) q0) (by omega)).1] at k1
  exact k1.symm
end
end Go.Proofs.Ytfpcfolcdpdomaa
