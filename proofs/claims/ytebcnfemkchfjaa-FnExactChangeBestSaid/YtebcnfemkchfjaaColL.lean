/- The corners of a grid coloured by a way: each other way changes the colour where both cross: plain facts. -/
import Derived.Test.YtebcnfemkchfjaaWaysL
namespace Go.Proofs.Ytebcnfemkchfjaa
set_option linter.unusedVariables false
set_option linter.unusedSimpArgs false
set_option linter.unusedSectionVars false

/-- The states of some ways, gone forwards and backwards. -/
structure Gr.Curve (g : Gr) (C : Stt → Bool) : Prop where
  rev : ∀ x, g.val x → C (g.rev x) = C x
  nx : ∀ x y, g.val x → g.nx x = some y → C y = C x
def colTop (C : Stt → Bool) : Nat → Bool
  | 0 => false
  | k + 1 => colTop C k ^^ C (k, 2)
/-- The colour of a corner. -/
def Gr.col (g : Gr) (C : Stt → Bool) : Nat → Nat → Bool
  | 0, k => colTop C k
  | i + 1, k => g.col C i k ^^ (if k < g.m then C (i * g.m + k, 1) else C (i * g.m + (g.m - 1), 3))
/-- The colour of a corner of the edge by which a state's cell is entered. -/
def Gr.ecol (g : Gr) (C : Stt → Bool) (x : Stt) : Bool :=
  if x.2 = 0 then g.col C (x.1 / g.m + 1) (x.1 % g.m) else if x.2 = 3 then g.col C (x.1 / g.m) (x.1 % g.m + 1) else g.col C (x.1 / g.m) (x.1 % g.m)
/-- A state that goes across. -/
def across (x : Stt) : Stt := (x.1, if x.2 = 0 ∨ x.2 = 2 then 1 else 0)
def Gr.cr (g : Gr) (C : Stt → Bool) (x : Stt) : Bool := g.sig x.1 == 46 && C (across x)

section
variable {g : Gr} (hg : g.ok) {C : Stt → Bool} (hC : g.Curve C)
include hg hC
theorem Gr.nx_of_dir {x : Stt} (hx : g.val x) : g.nx x = if g.dir x = 0 then (if x.1 / g.m = 0 then none else some (x.1 - g.m, 0)) else if g.dir x = 1 then (if x.1 % g.m = g.m - 1 then none else some (x.1 + 1, 1))
    else if g.dir x = 2 then (if x.1 / g.m = g.n - 1 then none else some (x.1 + g.m, 2)) else (if x.1 % g.m = 0 then none else some (x.1 - 1, 3)) := rfl
theorem Gr.col_V {i k : Nat} (hi : i < g.n) (hk : k + 1 < g.m) : C (i * g.m + (k + 1), 1) = C (i * g.m + k, 3) := by
  have hv : g.val (i * g.m + (k + 1), 1) := ⟨Gr.cell_lt hg hi hk, by simp⟩
  have hd := Gr.dir_rev hg hv
  have hr := Gr.rev_val hg hv
  have hm1 := Gr.mod_of hg (i := i) hk
  have e : g.nx (g.rev (i * g.m + (k + 1), 1)) = some (i * g.m + k, 3) := by
    rw [Gr.nx_of_dir hg hC hr, hd]
    show (if opp 1 = 0 then _ else if opp 1 = 1 then _ else if opp 1 = 2 then _ else if (i * g.m + (k + 1)) % g.m = 0 then none else some (i * g.m + (k + 1) - 1, 3)) = _
    rw [hm1]
    simp [opp]
    first | done | omega
  rw [← hC.rev _ hv]
  exact (hC.nx _ _ hr e).symm
theorem Gr.col_H {i k : Nat} (hi : i + 1 < g.n) (hk : k < g.m) : C ((i + 1) * g.m + k, 2) = C (i * g.m + k, 0) := by
  have hv : g.val ((i + 1) * g.m + k, 2) := ⟨Gr.cell_lt hg hi hk, by simp⟩
  have hd := Gr.dir_rev hg hv
  have hr := Gr.rev_val hg hv
  have hm1 := Gr.div_of hg (i := i + 1) hk
  have e : g.nx (g.rev ((i + 1) * g.m + k, 2)) = some (i * g.m + k, 0) := by
    rw [Gr.nx_of_dir hg hC hr, hd]
    show (if opp 2 = 0 then (if ((i + 1) * g.m + k) / g.m = 0 then none else some ((i + 1) * g.m + k - g.m, 0)) else _) = _
    rw [hm1]
    simp [opp, Nat.succ_mul]
    first | done | omega
  rw [← hC.rev _ hv]
  exact (hC.nx _ _ hr e).symm
/-- The ways of a cell in pairs. -/
theorem Gr.pairs_at {i k : Nat} (hi : i < g.n) (hk : k < g.m) {d : Nat} (hd : d < 4) : C (i * g.m + k, opp (bend (g.lt i k) d)) = C (i * g.m + k, d) := by
  have hv : g.val (i * g.m + k, d) := ⟨Gr.cell_lt hg hi hk, hd⟩
  have := hC.rev _ hv
  have e : g.rev (i * g.m + k, d) = (i * g.m + k, opp (bend (g.lt i k) d)) := by
    show (i * g.m + k, opp (bend (g.lt ((i * g.m + k) / g.m) ((i * g.m + k) % g.m)) d)) = _
    rw [Gr.div_of hg hk, Gr.mod_of hg hk]
  rw [e] at this
  exact this
theorem Gr.col_E {i k : Nat} (hi : i < g.n) (hk : k < g.m) : (C (i * g.m + k, 0) ^^ C (i * g.m + k, 1) ^^ C (i * g.m + k, 2) ^^ C (i * g.m + k, 3)) = false := by
  have h0 := Gr.pairs_at hg hC hi hk (d := 0) (by omega)
  have h1 := Gr.pairs_at hg hC hi hk (d := 1) (by omega)
  have h2 := Gr.pairs_at hg hC hi hk (d := 2) (by omega)
  have hl := hg.let' i k hi hk
  simp [letB] at hl
  rcases hl with (h | h) | h <;> rw [h] at h0 h1 h2 <;> simp [bend, opp] at h0 h1 h2
  · rw [h0, h1]; cases C (i * g.m + k, 0) <;> cases C (i * g.m + k, 1) <;> rfl
  · rw [h0, h1]; cases C (i * g.m + k, 0) <;> cases C (i * g.m + k, 1) <;> rfl
  · rw [h0, h2]; cases C (i * g.m + k, 0) <;> cases C (i * g.m + k, 2) <;> rfl
theorem Gr.col_left {i k : Nat} (hk : k < g.m) : (g.col C (i + 1) k ^^ g.col C i k) = C (i * g.m + k, 1) := by
  show ((g.col C i k ^^ (if k < g.m then C (i * g.m + k, 1) else C (i * g.m + (g.m - 1), 3))) ^^ g.col C i k) = _
  rw [if_pos hk]
  cases g.col C i k <;> simp
theorem Gr.col_right {i k : Nat} (hi : i < g.n) (hk : k < g.m) : (g.col C (i + 1) (k + 1) ^^ g.col C i (k + 1)) = C (i * g.m + k, 3) := by
  show ((g.col C i (k + 1) ^^ (if k + 1 < g.m then C (i * g.m + (k + 1), 1) else C (i * g.m + (g.m - 1), 3))) ^^ g.col C i (k + 1)) = _
  have e : (if k + 1 < g.m then C (i * g.m + (k + 1), 1) else C (i * g.m + (g.m - 1), 3)) = C (i * g.m + k, 3) := by
    by_cases h : k + 1 < g.m
    · rw [if_pos h, Gr.col_V hg hC hi h]
    · rw [if_neg h, show g.m - 1 = k by omega]
  rw [e]
  cases g.col C i (k + 1) <;> simp
theorem Gr.col_tb : ∀ {i k : Nat}, i < g.n → k < g.m → (g.col C i k ^^ g.col C i (k + 1)) = C (i * g.m + k, 2) ∧ (g.col C (i + 1) k ^^ g.col C (i + 1) (k + 1)) = C (i * g.m + k, 0) := by
  intro i
  have low : ∀ {i k : Nat}, i < g.n → k < g.m → (g.col C i k ^^ g.col C i (k + 1)) = C (i * g.m + k, 2) → (g.col C (i + 1) k ^^ g.col C (i + 1) (k + 1)) = C (i * g.m + k, 0) := by
    intro i k hi hk h
    have hl := Gr.col_left hg hC (i := i) hk
    have hr := Gr.col_right hg hC hi hk
    have he := Gr.col_E hg hC hi hk
    rw [← h, ← hl, ← hr] at he
    generalize C (i * g.m + k, 0) = u at he ⊢
    revert he
    cases g.col C i k <;> cases g.col C i (k + 1) <;> cases g.col C (i + 1) k <;> cases g.col C (i + 1) (k + 1) <;> cases u <;> simp
  induction i with
  | zero =>
    intro k hi hk
    have h : (g.col C 0 k ^^ g.col C 0 (k + 1)) = C (0 * g.m + k, 2) := by
      show (colTop C k ^^ (colTop C k ^^ C (k, 2))) = _
      rw [Nat.zero_mul, Nat.zero_add]
      cases colTop C k <;> simp
    exact ⟨h, low hi hk h⟩
  | succ i ih =>
    intro k hi hk
    have h : (g.col C (i + 1) k ^^ g.col C (i + 1) (k + 1)) = C ((i + 1) * g.m + k, 2) := by
      rw [(ih (by omega) hk).2, Gr.col_H hg hC hi hk]
    exact ⟨h, low hi hk h⟩
theorem Gr.ecol_at {i k : Nat} (hk : k < g.m) (d : Nat) : g.ecol C (i * g.m + k, d) = if d = 0 then g.col C (i + 1) k else if d = 3 then g.col C i (k + 1) else g.col C i k := by
  unfold Gr.ecol
  simp only [Gr.div_of hg hk, Gr.mod_of hg hk]
/-- Through a cell the colour changes just if the ways cross there. -/
theorem Gr.ecol_cell {x : Stt} (hx : g.val x) (hn : C x = false) : (g.ecol C (g.rev x) ^^ g.ecol C x) = g.cr C x := by
  have hi := Gr.row_lt hg hx.1
  have hk := Gr.col_lt hg x.1
  have hc := Gr.cell_eq hg x.1
  have hd := hx.2
  have hp := Gr.pairs_at hg hC hi hk hd
  have hrev : g.rev x = (x.1 / g.m * g.m + x.1 % g.m, opp (bend (g.lt (x.1 / g.m) (x.1 % g.m)) x.2)) := by rw [hc]; rfl
  have hx2 : x = (x.1 / g.m * g.m + x.1 % g.m, x.2) := by rw [hc]
  have hcr : g.cr C x = (g.lt (x.1 / g.m) (x.1 % g.m) == 46 && C (x.1 / g.m * g.m + x.1 % g.m, if x.2 = 0 ∨ x.2 = 2 then 1 else 0)) := by rw [hc]; rfl
  rw [hrev, hcr]
  have hn2 : C (x.1 / g.m * g.m + x.1 % g.m, x.2) = false := by rw [← hx2]; exact hn
  have e2 : g.ecol C x = g.ecol C (x.1 / g.m * g.m + x.1 % g.m, x.2) := by rw [← hx2]
  rw [e2]
  clear hx2 hrev hcr e2 hc hn
  have hl := Gr.col_left hg hC (i := x.1 / g.m) hk
  have hr := Gr.col_right hg hC hi hk
  obtain ⟨ht, hb⟩ := Gr.col_tb hg hC hi hk
  have hlet := hg.let' _ _ hi hk
  generalize x.1 / g.m = i at *
  generalize x.1 % g.m = k at *
  generalize x.2 = d at *
  rw [Gr.ecol_at hg hC hk, Gr.ecol_at hg hC hk]
  rw [hn2] at hp
  simp [letB] at hlet
  have hd4 : d = 0 ∨ d = 1 ∨ d = 2 ∨ d = 3 := by omega
  rcases hlet with (h | h) | h <;> rcases hd4 with rfl | rfl | rfl | rfl <;> rw [h] at hp ⊢ <;> simp [bend, opp] at hp ⊢ <;> simp only [← hl, ← hr, ← ht, ← hb] at hp hn2 ⊢ <;> revert hp hn2 <;>
    cases g.col C i k <;> cases g.col C i (k + 1) <;> cases g.col C (i + 1) k <;> cases g.col C (i + 1) (k + 1) <;> simp
theorem Gr.ecol_step {x y : Stt} (hx : g.val x) (e : g.nx x = some y) : g.ecol C y = g.ecol C (g.rev x) := by
  have hi := Gr.row_lt hg hx.1
  have hk := Gr.col_lt hg x.1
  have hc := Gr.cell_eq hg x.1
  have hd := Gr.dir_lt hx
  have hrev : g.rev x = (x.1 / g.m * g.m + x.1 % g.m, opp (g.dir x)) := by rw [hc]; rfl
  rw [hrev, Gr.ecol_at hg hC hk]
  rw [Gr.nx_of_dir hg hC hx] at e
  have hd4 : g.dir x = 0 ∨ g.dir x = 1 ∨ g.dir x = 2 ∨ g.dir x = 3 := by omega
  rcases hd4 with h | h | h | h <;> rw [h] at e ⊢
  · rw [if_pos rfl] at e
    simp only [opp]
    by_cases h0 : x.1 / g.m = 0
    · rw [if_pos h0] at e
      cases e
    rw [if_neg h0] at e
    cases e
    have hpos := Nat.pos_of_ne_zero h0
    have : x.1 - g.m = (x.1 / g.m - 1) * g.m + x.1 % g.m := by
      have : 1 * g.m ≤ x.1 / g.m * g.m := Nat.mul_le_mul_right _ hpos
      rw [Nat.sub_mul]; omega
    rw [this, Gr.ecol_at hg hC hk]
    simp
    rw [show x.1 / g.m - 1 + 1 = x.1 / g.m from Nat.sub_add_cancel hpos]
  · simp [opp] at e ⊢
    obtain ⟨h0, rfl⟩ := e
    have : x.1 + 1 = x.1 / g.m * g.m + (x.1 % g.m + 1) := by omega
    rw [this, Gr.ecol_at hg hC (by omega)]
    simp
  · simp [opp] at e ⊢
    obtain ⟨h0, rfl⟩ := e
    have : x.1 + g.m = (x.1 / g.m + 1) * g.m + x.1 % g.m := by rw [Nat.succ_mul]; omega
    rw [this, Gr.ecol_at hg hC hk]
    simp
  · simp [opp] at e ⊢
    obtain ⟨h0, rfl⟩ := e
    have : x.1 - 1 = x.1 / g.m * g.m + (x.1 % g.m - 1) := by omega
    rw [this, Gr.ecol_at hg hC (by omega)]
    simp
    rw [show x.1 % g.m - 1 + 1 = x.1 % g.m by omega]
/-- Along a way. -/
theorem Gr.ecol_way {x : Stt} (hx : g.val x) (hn : C x = false) : ∀ k y, iter g.nx k x = some y → C y = false ∧ g.ecol C y = (g.ecol C x ^^ decide (cntN (fun j => g.cr C ((iter g.nx j x).getD x)) k % 2 = 1)) := by
  intro k
  induction k with
  | zero =>
    intro y e
    simp [iter] at e
    subst e
    exact ⟨hn, by simp [cntN, sumN]⟩
  | succ k ih =>
    intro y e
    obtain ⟨z, hz, hzy⟩ := iter_pred e
    obtain ⟨h1, h2⟩ := ih z hz
    have hzv := (Gr.steps hg).iter_stay k x z hx hz
    refine ⟨by rw [hC.nx z y hzv hzy]; exact h1, ?_⟩
    have h3 := Gr.ecol_cell hg hC hzv h1
    rw [Gr.ecol_step hg hC hzv hzy, cntN_succ, hz, Option.getD_some, ← h3]
    rw [h2] at h3 ⊢
    generalize cntN (fun j => g.cr C ((iter g.nx j x).getD x)) k = q at *
    have hq : q % 2 = 0 ∨ q % 2 = 1 := by omega
    cases g.ecol C (g.rev z) <;> cases g.ecol C x <;> rcases hq with hq | hq <;> simp [hq] <;> omega
/-- The colour ahead of a port on the border. -/
def Gr.bcol (g : Gr) (C : Stt → Bool) (t : Nat) : Bool :=
  if t ≤ g.m then g.col C 0 t else if t ≤ g.m + g.n then g.col C (t - g.m) g.m else if t ≤ 2 * g.m + g.n then g.col C g.n (2 * g.m + g.n - t) else g.col C (2 * g.m + 2 * g.n - t) 0
theorem Gr.bcol_port {t : Nat} (ht : t < g.ports) : (g.bcol C (t + 1) ^^ g.bcol C t) = C (g.ent t) ∧ (g.ecol C (g.ent t) = g.bcol C t ∨ g.ecol C (g.ent t) = g.bcol C (t + 1)) := by
  have hn := hg.n1
  have hm := hg.m1
  unfold Gr.ports at ht
  unfold Gr.ent
  by_cases p1 : t < g.m
  · rw [if_pos p1]
    have h := (Gr.col_tb hg hC (i := 0) (by omega) p1).1
    have b1 : g.bcol C (t + 1) = g.col C 0 (t + 1) := by unfold Gr.bcol; rw [if_pos (by omega)]
    have b2 : g.bcol C t = g.col C 0 t := by unfold Gr.bcol; rw [if_pos (by omega)]
    have e : ((t, 2) : Stt) = (0 * g.m + t, 2) := by simp
    rw [b1, b2, e, ← h, Gr.ecol_at hg hC p1]
    exact ⟨Bool.xor_comm _ _, .inl (by simp)⟩
  · rw [if_neg p1]
    by_cases p2 : t < g.m + g.n
    · rw [if_pos p2]
      have h := Gr.col_right hg hC (i := t - g.m) (k := g.m - 1) (by omega) (by omega)
      rw [show g.m - 1 + 1 = g.m by omega] at h
      have b1 : g.bcol C (t + 1) = g.col C (t - g.m + 1) g.m := by unfold Gr.bcol; rw [if_neg (by omega), if_pos (by omega), show t + 1 - g.m = t - g.m + 1 by omega]
      have b2 : g.bcol C t = g.col C (t - g.m) g.m := by
        unfold Gr.bcol
        by_cases e : t = g.m
        · subst e
          rw [if_pos (Nat.le_refl _), Nat.sub_self]
        · rw [if_neg (by omega), if_pos (by omega)]
      have e : (((t - g.m) * g.m + g.m - 1, 3) : Stt) = ((t - g.m) * g.m + (g.m - 1), 3) := by rw [Nat.add_sub_assoc hm]
      rw [b1, b2, e, ← h, Gr.ecol_at hg hC (by omega)]
      exact ⟨rfl, .inl (by simp; rw [show g.m - 1 + 1 = g.m by omega])⟩
    · rw [if_neg p2]
      by_cases p3 : t < 2 * g.m + g.n
      · rw [if_pos p3]
        have h := (Gr.col_tb hg hC (i := g.n - 1) (k := g.m - 1 - (t - g.m - g.n)) (by omega) (by omega)).2
        rw [show g.n - 1 + 1 = g.n by omega] at h
        have b1 : g.bcol C (t + 1) = g.col C g.n (g.m - 1 - (t - g.m - g.n)) := by
          unfold Gr.bcol
          rw [if_neg (by omega), if_neg (by omega), if_pos (by omega), show 2 * g.m + g.n - (t + 1) = g.m - 1 - (t - g.m - g.n) by omega]
        have b2 : g.bcol C t = g.col C g.n (g.m - 1 - (t - g.m - g.n) + 1) := by
          unfold Gr.bcol
          by_cases e : t = g.m + g.n
          · subst e
            rw [if_neg (by omega), if_pos (Nat.le_refl _), show g.m + g.n - g.m = g.n by omega, show g.m - 1 - (g.n - g.n) + 1 = g.m by omega]
          · rw [if_neg (by omega), if_neg (by omega), if_pos (by omega), show 2 * g.m + g.n - t = g.m - 1 - (t - g.m - g.n) + 1 by omega]
        have e : (((g.n - 1) * g.m + g.m - 1 - (t - g.m - g.n), 0) : Stt) = ((g.n - 1) * g.m + (g.m - 1 - (t - g.m - g.n)), 0) := by
          refine Prod.ext ?_ rfl
          show (g.n - 1) * g.m + g.m - 1 - (t - g.m - g.n) = (g.n - 1) * g.m + (g.m - 1 - (t - g.m - g.n))
          omega
        rw [b1, b2, e, ← h, Gr.ecol_at hg hC (by omega)]
        exact ⟨rfl, .inr (by simp; rw [show g.n - 1 + 1 = g.n by omega])⟩
      · rw [if_neg p3]
        have h := Gr.col_left hg hC (i := g.n - 1 - (t - 2 * g.m - g.n)) (k := 0) (by omega)
        have b1 : g.bcol C (t + 1) = g.col C (g.n - 1 - (t - 2 * g.m - g.n)) 0 := by
          unfold Gr.bcol
          rw [if_neg (by omega), if_neg (by omega), if_neg (by omega), show 2 * g.m + 2 * g.n - (t + 1) = g.n - 1 - (t - 2 * g.m - g.n) by omega]
        have b2 : g.bcol C t = g.col C (g.n - 1 - (t - 2 * g.m - g.n) + 1) 0 := by
          unfold Gr.bcol
          by_cases e : t = 2 * g.m + g.n
          · subst e
            rw [if_neg (by omega), if_neg (by omega), if_pos (Nat.le_refl _), Nat.sub_self, show g.n - 1 - (2 * g.m + g.n - 2 * g.m - g.n) + 1 = g.n by omega]
          · rw [if_neg (by omega), if_neg (by omega), if_neg (by omega), show 2 * g.m + 2 * g.n - t = g.n - 1 - (t - 2 * g.m - g.n) + 1 by omega]
        have e : (((g.n - 1 - (t - 2 * g.m - g.n)) * g.m, 1) : Stt) = ((g.n - 1 - (t - 2 * g.m - g.n)) * g.m + 0, 1) := rfl
        rw [b1, b2, e, ← h, Gr.ecol_at hg hC (by omega)]
        exact ⟨Bool.xor_comm _ _, .inr (by simp)⟩
end
end Go.Proofs.Ytebcnfemkchfjaa
