/- The lengths of rounds: plain facts. -/
import Derived.Test.YtoodfgfbppkbmaaBesideL
import Derived.Test.YtoodfgfbppkbmaaRoundL
import Derived.Test.YtoodfgfbppkbmaaRounds3W
namespace Go.Proofs.Ytoodfgfbppkbmaa
set_option linter.unusedVariables false
set_option linter.unusedSimpArgs false
set_option linter.unusedSectionVars false

def Gr.kol (g : Gr) (x : Stt) : Nat := x.1 / g.m + x.1 % g.m
section
variable {g : Gr} (hg : g.ok)
include hg
theorem Gr.coord {x : Stt} (hx : g.val x) : ∃ i k d, x = (i * g.m + k, d) ∧ i < g.n ∧ k < g.m ∧ d < 4 :=
  ⟨x.1 / g.m, x.1 % g.m, x.2, Prod.ext (Gr.cell_eq hg x.1).symm rfl, Gr.row_lt hg hx.1, Gr.col_lt hg x.1, hx.2⟩
/-- A step, by row and column. -/
theorem Gr.nx_coord {i k d : Nat} (hi : i < g.n) (hk : k < g.m) (hd : d < 4) {y : Stt} (e : g.nx (i * g.m + k, d) = some y) :
    ∃ i' k', y = (i' * g.m + k', bend (g.lt i k) d) ∧ i' < g.n ∧ k' < g.m ∧
      ((bend (g.lt i k) d = 0 ∧ i' + 1 = i ∧ k' = k) ∨ (bend (g.lt i k) d = 1 ∧ i' = i ∧ k' = k + 1) ∨ (bend (g.lt i k) d = 2 ∧ i' = i + 1 ∧ k' = k) ∨ (bend (g.lt i k) d = 3 ∧ i' = i ∧ k' + 1 = k)) := by
  have hb := bend_lt (g.lt i k) hd
  rw [Gr.nx_at hg hi hk] at e
  generalize bend (g.lt i k) d = D at *
  split at e
  · split at e
    · cases e
    · rename_i h0 hi0
      cases e
      subst h0
      obtain ⟨j, rfl⟩ : ∃ j, i = j + 1 := ⟨i - 1, by omega⟩
      exact ⟨j, k, Prod.ext (by show (j + 1) * g.m + k - g.m = j * g.m + k; rw [Nat.succ_mul]; omega) rfl, by omega, hk, .inl ⟨rfl, rfl, rfl⟩⟩
  · split at e
    · split at e
      · cases e
      · rename_i h0 h1 hk0
        cases e
        subst h1
        exact ⟨i, k + 1, rfl, hi, by omega, .inr (.inl ⟨rfl, rfl, rfl⟩)⟩
    · split at e
      · split at e
        · cases e
        · rename_i h0 h1 h2 hi0
          cases e
          subst h2
          exact ⟨i + 1, k, Prod.ext (by show i * g.m + k + g.m = (i + 1) * g.m + k; rw [Nat.succ_mul]; omega) rfl, by omega, hk, .inr (.inr (.inl ⟨rfl, rfl, rfl⟩))⟩
      · split at e
        · cases e
        · rename_i h0 h1 h2 hk0
          cases e
          have h3 : D = 3 := by omega
          subst h3
          exact ⟨i, k - 1, Prod.ext (by show i * g.m + k - 1 = i * g.m + (k - 1); omega) rfl, hi, by omega, .inr (.inr (.inr ⟨rfl, rfl, by omega⟩))⟩
theorem Gr.at_inj {i k i' k' : Nat} (hk : k < g.m) (hk' : k' < g.m) (e : i * g.m + k = i' * g.m + k') : i = i' ∧ k = k' := by
  have h1 := Gr.div_of hg (i := i) hk
  have h2 := Gr.mod_of hg (i := i) hk
  rw [e, Gr.div_of hg hk'] at h1
  rw [e, Gr.mod_of hg hk'] at h2
  exact ⟨h1.symm, h2.symm⟩
theorem Gr.kol_step {x y : Stt} (hx : g.val x) (e : g.nx x = some y) : (g.kol x + g.kol y) % 2 = 1 := by
  obtain ⟨i, k, d, rfl, hi, hk, hd⟩ := Gr.coord hg hx
  obtain ⟨i', k', rfl, hi', hk', h⟩ := Gr.nx_coord hg hi hk hd e
  unfold Gr.kol
  rw [Gr.div_of hg hk, Gr.mod_of hg hk, Gr.div_of hg hk', Gr.mod_of hg hk']
  omega
theorem Gr.kol_iter : ∀ k x y, g.val x → iter g.nx k x = some y → (g.kol x + g.kol y + k) % 2 = 0 := by
  intro k
  induction k with
  | zero => intro x y hx e; cases e; omega
  | succ k ih =>
    intro x y hx e
    obtain ⟨z, hz, hzy⟩ := iter_pred e
    have h1 := ih x z hx hz
    have h2 := Gr.kol_step hg ((Gr.rvs hg).steps.iter_stay k x z hx hz) hzy
    omega
/-- No two steps lead back. -/
theorem Gr.no_two {x y : Stt} (hx : g.val x) (e : g.nx x = some y) : g.nx y ≠ some x := by
  intro e2
  obtain ⟨i, k, d, rfl, hi, hk, hd⟩ := Gr.coord hg hx
  obtain ⟨i', k', rfl, hi', hk', h⟩ := Gr.nx_coord hg hi hk hd e
  have hb := bend_lt (g.lt i k) hd
  obtain ⟨i2, k2, e3, hi2, hk2, h2⟩ := Gr.nx_coord hg hi' hk' hb e2
  have e4 : i * g.m + k = i2 * g.m + k2 := congrArg Prod.fst e3
  obtain ⟨e5, e6⟩ := Gr.at_inj hg hk hk2 e4
  have hne := bend_ne_opp (g.lt i' k') hb
  generalize bend (g.lt i k) d = D at *
  generalize bend (g.lt i' k') D = D' at *
  unfold opp at hne
  have hD : D = 0 ∨ D = 1 ∨ D = 2 ∨ D = 3 := by omega
  rcases hD with rfl | rfl | rfl | rfl
  · simp at hne; omega
  · simp at hne; omega
  · simp at hne; omega
  · simp at hne; omega
/-- A round has an even number of steps, four at least. -/
theorem Gr.per_four {x : Stt} (hx : g.val x) (c : Cyc g.nx x) : 4 ≤ g.per x ∧ g.per x % 2 = 0 := by
  obtain ⟨h1, h2, h3, h4⟩ := Gr.per_spec hg hx c
  have h5 := Gr.kol_iter hg _ x x hx h3
  have h6 : g.per x ≠ 2 := by
    intro h
    rw [h] at h3
    obtain ⟨y, hy, hyx⟩ := iter_pred h3
    obtain ⟨z, hz, hzy⟩ := iter_pred hy
    cases hz
    exact Gr.no_two hg hx hzy hyx
  omega
/-- The states of a round, forwards and backwards. -/
noncomputable def Gr.ringOf (g : Gr) (x : Stt) : List Stt := (List.range (g.per x)).map fun j => (iter g.nx j x).getD x
omit hg in
theorem Gr.ringOf_length (x : Stt) : (g.ringOf x).length = g.per x := by simp [Gr.ringOf]
theorem Gr.ring_mem {x y : Stt} (hx : g.val x) (c : Cyc g.nx x) (h : y ∈ g.ringOf x) : ∃ j, j < g.per x ∧ iter g.nx j x = some y ∧ g.val y := by
  obtain ⟨j, hj, e⟩ := List.mem_map.1 h
  have hj' := List.mem_range.1 hj
  obtain ⟨z, hz⟩ := iter_lt (Gr.per_spec hg hx c).2.2.1 j (by omega)
  rw [hz] at e
  have e2 : z = y := e
  rw [e2] at hz
  exact ⟨j, hj', hz, (Gr.rvs hg).steps.iter_stay j x y hx hz⟩
theorem Gr.ring_apart {x : Stt} (hx : g.val x) (c : Cyc g.nx x) : (g.ringOf x).Pairwise (· ≠ ·) := by
  unfold Gr.ringOf
  rw [List.pairwise_map]
  refine List.Pairwise.imp_of_mem ?_ (List.pairwise_lt_range (n := g.per x))
  intro i j hi hj hlt e
  have hj' := List.mem_range.1 hj
  obtain ⟨h1, h2, h3, h4⟩ := Gr.per_spec hg hx c
  obtain ⟨a, ha⟩ := iter_lt h3 i (by omega)
  obtain ⟨b, hb⟩ := iter_lt h3 j (by omega)
  rw [ha, hb] at e
  have e2 : a = b := e
  rw [← e2] at hb
  have := (Gr.rvs hg).steps.back i x x a hx hx (j - i) ha (by rw [show i + (j - i) = j by omega]; exact hb)
  exact h4 (j - i) (by omega) (by omega) this
theorem Gr.ring_rev {x y z : Stt} (hx : g.val x) (c : Cyc g.nx x) (hy : y ∈ g.ringOf x) (hz : z ∈ g.ringOf x) : y ≠ g.rev z := by
  obtain ⟨i, hi, ei, vy⟩ := Gr.ring_mem hg hx c hy
  obtain ⟨j, hj, ej, vz⟩ := Gr.ring_mem hg hx c hz
  intro e
  obtain ⟨k, hk⟩ := On.trans (c.on ⟨j, ej⟩).1 ⟨i, ei⟩
  rw [e] at hk
  exact Gr.no_turn hg k z vz hk
theorem Gr.rounds_sum : 2 * ((g.repsTo (4 * (g.n * g.m))).map g.per).sum ≤ 4 * (g.n * g.m) := by
  have hR := Gr.rvs hg
  have ht := Gr.reps_trv hg
  have hE := hR.eqv
  let L := (g.repsTo (4 * (g.n * g.m))).flatMap fun r => g.ringOf r ++ (g.ringOf r).map g.rev
  have hmem : ∀ r, r ∈ g.repsTo (4 * (g.n * g.m)) → ∀ y, y ∈ g.ringOf r ++ (g.ringOf r).map g.rev → g.val y ∧ Same g.nx g.rev r y ∧ Cyc g.nx y := fun r hr y hy => by
    obtain ⟨vr, cr⟩ := ht.all r hr
    rcases List.mem_append.1 hy with hy | hy
    · obtain ⟨j, hj, e, v⟩ := Gr.ring_mem hg vr cr hy
      exact ⟨v, .inl ⟨j, e⟩, (cr.on ⟨j, e⟩).2⟩
    · obtain ⟨z, hz, rfl⟩ := List.mem_map.1 hy
      obtain ⟨j, hj, e, v⟩ := Gr.ring_mem hg vr cr hz
      exact ⟨Gr.rev_val hg v, .inr ⟨j, by rw [Gr.rev_rev hg v]; exact e⟩, hR.cyc_r v (cr.on ⟨j, e⟩).2⟩
  have hlen : L.length = 2 * ((g.repsTo (4 * (g.n * g.m))).map g.per).sum := by
    show (List.flatMap _ _).length = _
    rw [List.length_flatMap]
    generalize g.repsTo (4 * (g.n * g.m)) = l
    induction l with
    | nil => rfl
    | cons a l ih =>
      simp only [List.map_cons, List.sum_cons]
      rw [ih, List.length_append, List.length_map, Gr.ringOf_length]
      omega
  rw [← hlen, ← List.length_range (n := 4 * (g.n * g.m))]
  refine inj_len (fun x c => 4 * x.1 + x.2 = c) L (List.range (4 * (g.n * g.m))) (fun x hx => ?_) ?_
  · obtain ⟨r, hr, hy⟩ := List.mem_flatMap.1 hx
    exact ⟨_, List.mem_range.2 (hR.code_lt x (hmem r hr x hy).1), rfl⟩
  · have hne : L.Pairwise (· ≠ ·) := by
      refine List.pairwise_flatMap.2 ⟨fun r hr => ?_, ?_⟩
      · obtain ⟨vr, cr⟩ := ht.all r hr
        refine List.pairwise_append.2 ⟨Gr.ring_apart hg vr cr, ?_, fun y hy z' hz' => ?_⟩
        · rw [List.pairwise_map]
          refine List.Pairwise.imp_of_mem ?_ (Gr.ring_apart hg vr cr)
          intro y z hy hz hn e
          obtain ⟨_, _, _, vy⟩ := Gr.ring_mem hg vr cr hy
          obtain ⟨_, _, _, vz⟩ := Gr.ring_mem hg vr cr hz
          exact hn (by rw [← Gr.rev_rev hg vy, e, Gr.rev_rev hg vz])
        · obtain ⟨z, hz, rfl⟩ := List.mem_map.1 hz'
          exact Gr.ring_rev hg vr cr hy hz
      · refine List.Pairwise.imp_of_mem ?_ ht.apart
        intro r r' hr hr' hn y hy z hz e
        subst e
        obtain ⟨v, s, c⟩ := hmem r hr y hy
        obtain ⟨_, s', _⟩ := hmem r' hr' y hz
        exact hn (hE.trans _ _ _ (ht.all r hr) ⟨v, c⟩ (ht.all r' hr') s (hE.symm _ _ (ht.all r' hr') ⟨v, c⟩ s'))
    refine List.Pairwise.imp_of_mem ?_ hne
    intro x y hx hy hn c _ e1 e2
    obtain ⟨r, hr, hxr⟩ := List.mem_flatMap.1 hx
    obtain ⟨r', hr', hyr⟩ := List.mem_flatMap.1 hy
    exact hn (hR.code_inj x y (hmem r hr x hxr).1 (hmem r' hr' y hyr).1 (by rw [e1, e2]))
/-- At most twelve rounds. -/
theorem Gr.rmany_twelve : g.rmany ≤ 12 := by
  have h1 := Gr.rounds_sum hg
  have h2 := Gr.size_le hg
  have h3 : 4 * (g.repsTo (4 * (g.n * g.m))).length ≤ ((g.repsTo (4 * (g.n * g.m))).map g.per).sum := by
    have ht := Gr.reps_trv hg
    have : ∀ l : List Stt, (∀ r ∈ l, 4 ≤ g.per r) → 4 * l.length ≤ (l.map g.per).sum := by
      intro l
      induction l with
      | nil => intro _; simp
      | cons a l ih =>
        intro h
        have h4 := h a (by simp)
        have h5 := ih fun r hr => h r (by simp [hr])
        simp only [List.map_cons, List.sum_cons, List.length_cons]
        omega
    exact this _ fun r hr => (Gr.per_four hg (ht.all r hr).1 (ht.all r hr).2).1
  unfold Gr.rmany
  omega
end
end Go.Proofs.Ytoodfgfbppkbmaa
