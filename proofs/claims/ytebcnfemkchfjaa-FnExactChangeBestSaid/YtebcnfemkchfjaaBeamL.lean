/- Beams in grids: plain facts. -/
import Derived.Test.YtebcnfemkchfjaaGridL
import Derived.Test.YtebcnfemkchfjaaOrbit
namespace Go.Proofs.Ytebcnfemkchfjaa
set_option linter.unusedVariables false

/-- A grid: rows, columns, letters. -/
structure Gr where
  n : Nat
  m : Nat
  lt : Nat → Nat → Int
structure Gr.ok (g : Gr) : Prop where
  n1 : 1 ≤ g.n
  n5 : g.n ≤ 5
  m1 : 1 ≤ g.m
  m5 : g.m ≤ 5
  let' : ∀ i k, i < g.n → k < g.m → letB (g.lt i k) = true
def gr (ss : List ByteArray) : Gr := ⟨ss.length, (rowOf ss 0).size, fun i k => sgn (rowOf ss i) k⟩
theorem gr_ok {ss : List ByteArray} (h : gridB ss = true) : (gr ss).ok := by
  obtain ⟨h1, h2, h3⟩ := gridB_iff.1 h
  exact ⟨h1.1, h1.2, h3.1, h3.2, fun i k hi hk => (rowB_iff.1 (h2 i hi)).2 k hk⟩
theorem gr_row {ss : List ByteArray} (h : gridB ss = true) {i : Nat} (hi : i < ss.length) : (rowOf ss i).size = (gr ss).m :=
  (rowB_iff.1 ((gridB_iff.1 h).2.1 i hi)).1

/-- The direction behind a cell. -/
def bend (c : Int) (d : Nat) : Nat :=
  if c = 114 then (if d = 0 then 1 else if d = 1 then 0 else if d = 2 then 3 else 2) else if c = 102 then 3 - d else d
theorem bend_lt (c : Int) {d : Nat} (h : d < 4) : bend c d < 4 := by
  unfold bend; repeat' split
  all_goals omega
theorem bend_bend (c : Int) {d : Nat} (h : d < 4) : bend c (bend c d) = d := by
  have : d = 0 ∨ d = 1 ∨ d = 2 ∨ d = 3 := by omega
  unfold bend
  rcases this with rfl | rfl | rfl | rfl <;> (by_cases h1 : c = 114 <;> by_cases h2 : c = 102 <;> simp [h1, h2])

/-- A cell that is entered in a direction. -/
abbrev Stt := Nat × Nat
/-- The direction in which a state's cell is left. -/
def Gr.dir (g : Gr) (x : Stt) : Nat := bend (g.lt (x.1 / g.m) (x.1 % g.m)) x.2
/-- The next state, if the grid is not left. -/
def Gr.nx (g : Gr) (x : Stt) : Option Stt :=
  if g.dir x = 0 then (if x.1 / g.m = 0 then none else some (x.1 - g.m, 0))
  else if g.dir x = 1 then (if x.1 % g.m = g.m - 1 then none else some (x.1 + 1, 1))
  else if g.dir x = 2 then (if x.1 / g.m = g.n - 1 then none else some (x.1 + g.m, 2))
  else (if x.1 % g.m = 0 then none else some (x.1 - 1, 3))
/-- The port where it is left. -/
def Gr.out (g : Gr) (x : Stt) : Nat :=
  if g.dir x = 0 then x.1 % g.m
  else if g.dir x = 1 then g.m + x.1 / g.m
  else if g.dir x = 2 then g.m + g.n + g.m - 1 - x.1 % g.m
  else 2 * g.m + g.n + g.n - 1 - x.1 / g.m
/-- Where a port is entered. -/
def Gr.ent (g : Gr) (p : Nat) : Stt :=
  if p < g.m then (p, 2)
  else if p < g.m + g.n then ((p - g.m) * g.m + g.m - 1, 3)
  else if p < 2 * g.m + g.n then ((g.n - 1) * g.m + g.m - 1 - (p - g.m - g.n), 0)
  else ((g.n - 1 - (p - 2 * g.m - g.n)) * g.m, 1)
def Gr.val (g : Gr) (x : Stt) : Prop := x.1 < g.n * g.m ∧ x.2 < 4
def Gr.ports (g : Gr) : Nat := 2 * g.n + 2 * g.m

theorem Gr.dir_lt {g : Gr} {x : Stt} (h : g.val x) : g.dir x < 4 := bend_lt _ h.2

theorem Gr.cell_eq {g : Gr} (hg : g.ok) (c : Nat) : c / g.m * g.m + c % g.m = c := Nat.div_add_mod' c g.m
theorem Gr.div_of {g : Gr} (hg : g.ok) {i k : Nat} (hk : k < g.m) : (i * g.m + k) / g.m = i := by
  rw [Nat.mul_comm, Nat.mul_add_div hg.m1, Nat.div_eq_of_lt hk]; omega
theorem Gr.mod_of {g : Gr} (hg : g.ok) {i k : Nat} (hk : k < g.m) : (i * g.m + k) % g.m = k := by
  rw [Nat.mul_comm, Nat.mul_add_mod, Nat.mod_eq_of_lt hk]
theorem Gr.cell_lt {g : Gr} (hg : g.ok) {i k : Nat} (hi : i < g.n) (hk : k < g.m) : i * g.m + k < g.n * g.m := by
  have : (i + 1) * g.m ≤ g.n * g.m := Nat.mul_le_mul_right _ hi
  rw [Nat.succ_mul] at this
  omega

section
variable {g : Gr} (hg : g.ok)
include hg
theorem Gr.row_lt {c : Nat} (h : c < g.n * g.m) : c / g.m < g.n := (Nat.div_lt_iff_lt_mul hg.m1).2 h
theorem Gr.col_lt (c : Nat) : c % g.m < g.m := Nat.mod_lt _ hg.m1
theorem Gr.size_le : g.n * g.m ≤ 25 := by
  have := Nat.mul_le_mul hg.n5 hg.m5
  omega

theorem Gr.nx_val {x y : Stt} (h : g.val x) (e : g.nx x = some y) : g.val y := by
  have hr := Gr.row_lt hg h.1
  have hc := Gr.col_lt hg x.1
  have hx := Gr.cell_eq hg x.1
  unfold Gr.nx at e
  split at e
  · split at e
    · cases e
    · cases e; exact ⟨by have := h.1; simp; omega, by simp⟩
  · split at e
    · split at e
      · cases e
      · cases e
        refine ⟨?_, by simp⟩
        have := Gr.cell_lt hg hr (show x.1 % g.m + 1 < g.m by omega)
        simp; omega
    · split at e
      · split at e
        · cases e
        · rename_i hne
          cases e
          refine ⟨?_, by simp⟩
          have hrow : ∀ q, q < g.n → ¬ q = g.n - 1 → q + 1 < g.n := by intro q; omega
          have := Gr.cell_lt hg (hrow _ hr hne) hc
          rw [Nat.succ_mul] at this
          show x.1 + g.m < g.n * g.m
          omega
      · split at e
        · cases e
        · cases e; exact ⟨by have := h.1; simp; omega, by simp⟩

/-- From where a state is come to. -/
def Gr.pv (g : Gr) (y : Stt) : Stt :=
  let c := if y.2 = 0 then y.1 + g.m else if y.2 = 1 then y.1 - 1 else if y.2 = 2 then y.1 - g.m else y.1 + 1
  (c, bend (g.lt (c / g.m) (c % g.m)) y.2)
theorem Gr.pv_of {x y : Stt} (h : g.val x) (e : g.nx x = some y) : g.pv y = x := by
  have hr := Gr.row_lt hg h.1
  have hc := Gr.col_lt hg x.1
  have hx := Gr.cell_eq hg x.1
  have hm := hg.m1
  have hd := Gr.dir_lt h
  have hb : bend (g.lt (x.1 / g.m) (x.1 % g.m)) (g.dir x) = x.2 := bend_bend _ h.2
  unfold Gr.nx at e
  split at e
  · rename_i h0
    split at e
    · cases e
    · rename_i h1
      cases e
      have : g.m ≤ x.1 := by
        have : 1 * g.m ≤ x.1 / g.m * g.m := Nat.mul_le_mul_right _ (Nat.pos_of_ne_zero h1)
        omega
      rw [h0] at hb
      simp only [Gr.pv, if_true, Nat.sub_add_cancel this, hb]
  · split at e
    · rename_i h0
      split at e
      · cases e
      · cases e
        rw [h0] at hb
        simp [Gr.pv, hb]
    · split at e
      · rename_i h0
        split at e
        · cases e
        · cases e
          rw [h0] at hb
          simp [Gr.pv, hb]
      · rename_i h0 h1 h2
        split at e
        · cases e
        · rename_i h3
          cases e
          have h4 : g.dir x = 3 := by omega
          rw [h4] at hb
          have : 1 ≤ x.1 := by
            have : x.1 % g.m ≤ x.1 := Nat.mod_le _ _
            omega
          simp [Gr.pv, Nat.sub_add_cancel this, hb]

theorem Gr.steps : Steps g.nx g.val (fun x => 4 * x.1 + x.2) (4 * (g.n * g.m)) where
  stay := fun x y hx e => Gr.nx_val hg hx e
  inj := fun x x' y hx hx' e e' => by rw [← Gr.pv_of hg hx e, ← Gr.pv_of hg hx' e']
  code_lt := fun x hx => by have := hx.1; have := hx.2; omega
  code_inj := fun x y hx hy e => by
    have := hx.2
    have := hy.2
    have h1 : x.1 = y.1 := by omega
    have h2 : x.2 = y.2 := by omega
    exact Prod.ext h1 h2

theorem Gr.ent_val {p : Nat} (hp : p < g.ports) : g.val (g.ent p) := by
  have hn := hg.n1
  have hm := hg.m1
  unfold Gr.ports at hp
  unfold Gr.ent
  split
  · rename_i h
    have := Gr.cell_lt hg (show 0 < g.n by omega) h
    exact ⟨by simpa using this, by simp⟩
  · split
    · rename_i h0 h
      have := Gr.cell_lt hg (show p - g.m < g.n by omega) (show g.m - 1 < g.m by omega)
      exact ⟨by simp; omega, by simp⟩
    · split
      · rename_i h0 h1 h
        have := Gr.cell_lt hg (show g.n - 1 < g.n by omega) (show g.m - 1 - (p - g.m - g.n) < g.m by omega)
        exact ⟨by simp; omega, by simp⟩
      · have := Gr.cell_lt hg (show g.n - 1 - (p - 2 * g.m - g.n) < g.n by omega) (show 0 < g.m by omega)
        exact ⟨by simpa using this, by simp⟩

/-- No step leads to where a port is entered. -/
theorem Gr.ent_no {p : Nat} (hp : p < g.ports) (z : Stt) (hz : g.val z) : g.nx z ≠ some (g.ent p) := by
  intro e
  have hr := Gr.row_lt hg hz.1
  have hc := Gr.col_lt hg z.1
  have hx := Gr.cell_eq hg z.1
  have hn := hg.n1
  have hm := hg.m1
  unfold Gr.ports at hp
  unfold Gr.nx Gr.ent at e
  by_cases p1 : p < g.m
  · rw [if_pos p1] at e
    repeat' split at e
    all_goals first | (simp at e; done) | skip
    all_goals simp only [Option.some.injEq, Prod.mk.injEq] at e
    all_goals omega
  · rw [if_neg p1] at e
    by_cases p2 : p < g.m + g.n
    · rw [if_pos p2] at e
      repeat' split at e
      all_goals first | (simp at e; done) | skip
      all_goals simp only [Option.some.injEq, Prod.mk.injEq] at e
      all_goals first | omega | skip
      rename_i h0 h1 h2 h3
      have e1 : z.1 = (p - g.m + 1) * g.m + 0 := by rw [Nat.succ_mul]; omega
      rw [e1, Gr.mod_of hg (by omega)] at h3
      exact h3 rfl
    · rw [if_neg p2] at e
      by_cases p3 : p < 2 * g.m + g.n
      · rw [if_pos p3] at e
        repeat' split at e
        all_goals first | (simp at e; done) | skip
        all_goals simp only [Option.some.injEq, Prod.mk.injEq] at e
        all_goals first | omega | skip
        rename_i hne
        have h1 := hz.1
        have h2 : (g.n - 1 + 1) * g.m = (g.n - 1) * g.m + g.m := Nat.succ_mul _ _
        rw [show g.n - 1 + 1 = g.n by omega] at h2
        have h3 : g.m ≤ z.1 := by
          have : 1 * g.m ≤ z.1 / g.m * g.m := Nat.mul_le_mul_right _ (Nat.pos_of_ne_zero hne)
          omega
        omega
      · rw [if_neg p3] at e
        repeat' split at e
        all_goals first | (simp at e; done) | skip
        all_goals simp only [Option.some.injEq, Prod.mk.injEq] at e
        all_goals first | omega | skip
        rename_i h0 h1 h2
        have hq : z.1 = (g.n - 1 - (p - 2 * g.m - g.n)) * g.m - 1 := by omega
        generalize g.n - 1 - (p - 2 * g.m - g.n) = q at hq e
        cases q with
        | zero => simp at e
        | succ q =>
          rw [Nat.succ_mul] at hq
          have e1 : z.1 = q * g.m + (g.m - 1) := by omega
          rw [e1, Gr.mod_of hg (by omega)] at h2
          exact h2 rfl

/-- A beam ends. -/
theorem Gr.beam_ends {p : Nat} (hp : p < g.ports) : ∃ k y, k < 4 * (g.n * g.m) ∧ iter g.nx k (g.ent p) = some y ∧ g.nx y = none :=
  (Gr.steps hg).ends (Gr.ent_val hg hp) fun z hz => Gr.ent_no hg hp z hz
end
end Go.Proofs.Ytebcnfemkchfjaa
