/- Sums: plain facts. -/
import Derived.Test.YtebcnfemkchfjaaSmall
namespace Go.Proofs.Ytebcnfemkchfjaa
set_option linter.unusedVariables false
set_option linter.unusedSimpArgs false

/-- f 0 + .. + f (n - 1). -/
def sumN (f : Nat → Nat) : Nat → Nat
  | 0 => 0
  | n + 1 => sumN f n + f n
/-- How many numbers below n are so. -/
def cntN (p : Nat → Bool) (n : Nat) : Nat := sumN (fun c => if p c then 1 else 0) n
theorem cntN_succ (p : Nat → Bool) (n : Nat) : cntN p (n + 1) = cntN p n + if p n then 1 else 0 := rfl
theorem sumN_congr {f g : Nat → Nat} : ∀ {n : Nat}, (∀ i, i < n → f i = g i) → sumN f n = sumN g n := by
  intro n
  induction n with
  | zero => intro _; rfl
  | succ n ih => intro h; rw [sumN, sumN, ih fun i hi => h i (by omega), h n (by omega)]
theorem cntN_congr {p q : Nat → Bool} {n : Nat} (h : ∀ i, i < n → p i = q i) : cntN p n = cntN q n := sumN_congr fun i hi => by rw [h i hi]
theorem sumN_add (f g : Nat → Nat) : ∀ n, sumN (fun i => f i + g i) n = sumN f n + sumN g n := by
  intro n
  induction n with
  | zero => rfl
  | succ n ih => simp only [sumN]; omega
theorem sumN_mul (a : Nat) (f : Nat → Nat) : ∀ n, sumN (fun i => a * f i) n = a * sumN f n := by
  intro n
  induction n with
  | zero => rfl
  | succ n ih => simp only [sumN]; rw [ih, Nat.mul_add]
theorem sumN_zero : ∀ n, sumN (fun _ => 0) n = 0 := by
  intro n
  induction n with
  | zero => rfl
  | succ n ih => simp only [sumN]; omega
theorem sumN_one (f : Nat → Nat) (x : Nat) : ∀ n, x < n → sumN (fun c => if c = x then f c else 0) n = f x := by
  intro n
  induction n with
  | zero => intro h; omega
  | succ n ih =>
    intro h
    simp only [sumN]
    by_cases e : n = x
    · subst e
      have : sumN (fun c => if c = n then f c else 0) n = 0 := by
        rw [sumN_congr (g := fun _ => 0) fun i hi => if_neg (by omega)]
        exact sumN_zero _
      rw [this]; simp
    · rw [ih (by omega), if_neg e, Nat.add_zero]
theorem sumN_le {f g : Nat → Nat} : ∀ {n : Nat}, (∀ i, i < n → f i ≤ g i) → sumN f n ≤ sumN g n := by
  intro n
  induction n with
  | zero => intro _; exact Nat.le_refl _
  | succ n ih => intro h; exact Nat.add_le_add (ih fun i hi => h i (by omega)) (h n (by omega))
theorem sumN_const (a : Nat) : ∀ n, sumN (fun _ => a) n = n * a := by
  intro n
  induction n with
  | zero => simp [sumN]
  | succ n ih => simp only [sumN]; rw [ih, Nat.succ_mul]
theorem sumN_bound {f : Nat → Nat} {a n : Nat} (h : ∀ i, i < n → f i ≤ a) : sumN f n ≤ n * a := by
  rw [← sumN_const]; exact sumN_le h
theorem cntN_le (p : Nat → Bool) (n : Nat) : cntN p n ≤ n := by
  have := sumN_bound (f := fun c => if p c then 1 else 0) (a := 1) (n := n) fun i _ => by split <;> omega
  rw [Nat.mul_one] at this
  exact this
/-- A sum over a list, counted by its elements. -/
theorem sum_count (f : Nat → Nat) (N : Nat) (xs : List Int) (h : ∀ j, j < xs.length → ∃ c : Nat, xs.getD j 0 = c ∧ c < N) :
    ∀ k, k ≤ xs.length → sumN (fun i => f (xs.getD i 0).toNat) k = sumN (fun c => (xs.take k).count (c : Int) * f c) N := by
  intro k
  induction k with
  | zero =>
    intro _
    rw [sumN_congr (g := fun _ => 0) (n := N) fun i _ => by simp, sumN_zero]
    rfl
  | succ k ih =>
    intro hk
    obtain ⟨c, hc, hcN⟩ := h k (by omega)
    have e : xs.take (k + 1) = xs.take k ++ [(c : Int)] := by
      rw [List.take_succ_eq_append_getElem (by omega), ← hc]
      simp [show k < xs.length by omega]
    rw [sumN, ih (by omega), hc, Int.toNat_natCast, ← sumN_one f c N hcN, ← sumN_add]
    refine sumN_congr fun i hi => ?_
    rw [e, List.count_append, List.count_singleton]
    by_cases hi2 : i = c
    · subst hi2; simp [Nat.add_mul]
    · have : ¬ ((c : Int) = (i : Int)) := by omega
      simp [hi2, this]
end Go.Proofs.Ytebcnfemkchfjaa
