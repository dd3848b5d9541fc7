/- Plain: the lengths of rounds and beams, for the law on lengths. -/
import Derived.Test.YtoodfgfbppkbmaaLen2L
import Derived.Test.YtoodfgfbppkbmaaSort2L
import Derived.Test.YtoodfgfbppkbmaaLensIW
namespace Go.Proofs.Ytoodfgfbppkbmaa
set_option linter.unusedVariables false
set_option linter.unusedSimpArgs false

theorem perm_sum {xs ys : List Int} (h : xs.Perm ys) : xs.sum = ys.sum := by
  induction h with
  | nil => rfl
  | cons x _ ih => simp only [List.sum_cons]; omega
  | swap x y l => simp only [List.sum_cons]; omega
  | trans _ _ h1 h2 => omega
theorem foldl_sum (xs : List Int) : ∀ a, xs.foldl (· + ·) a = a + xs.sum := by
  induction xs with
  | nil => intro a; simp
  | cons x l ih => intro a; rw [List.foldl_cons, ih, List.sum_cons]; omega
theorem sum_cast {α : Type} (f : α → Nat) (l : List α) : (l.map fun a => (f a : Int)).sum = ((l.map f).sum : Nat) := by
  induction l with
  | nil => rfl
  | cons a l ih => simp only [List.map_cons, List.sum_cons]; omega
theorem mem_le_sum {α : Type} (f : α → Nat) {l : List α} {a : α} (h : a ∈ l) : f a ≤ (l.map f).sum := by
  induction l with
  | nil => simp at h
  | cons b l ih =>
    rw [List.map_cons, List.sum_cons]
    rcases List.mem_cons.1 h with rfl | h
    · omega
    · have := ih h; omega
/-- What the law adds for the first i ports. -/
noncomputable def Gr.lessTo (g : Gr) (i : Nat) : Nat := (((List.range i).filter fun p => decide (p < g.endOf p)).map g.lenOf).sum
theorem Gr.lessTo_all (g : Gr) : g.lessTo g.ports = (g.lessP.map g.lenOf).sum := rfl
theorem Gr.lessTo_yes {g : Gr} {i : Nat} (h : i < g.endOf i) : g.lessTo (i + 1) = g.lessTo i + g.lenOf i := by
  unfold Gr.lessTo
  rw [List.range_succ, List.filter_append, List.map_append, List.sum_append]
  simp [h]
theorem Gr.lessTo_no {g : Gr} {i : Nat} (h : ¬ i < g.endOf i) : g.lessTo (i + 1) = g.lessTo i := by
  unfold Gr.lessTo
  rw [List.range_succ, List.filter_append, List.map_append, List.sum_append]
  simp [h]
theorem Gr.lessTo_le (g : Gr) (i : Nat) : ∀ d, g.lessTo i ≤ g.lessTo (i + d) := by
  intro d
  induction d with
  | zero => exact Nat.le_refl _
  | succ d ih =>
    rw [← Nat.add_assoc]
    by_cases h : i + d < g.endOf (i + d)
    · rw [Gr.lessTo_yes h]; omega
    · rw [Gr.lessTo_no h]; exact ih
theorem lens_facts {ss : List ByteArray} (hg : gridB ss = true) :
    ∃ A : Nat, (lensS ss).foldl (· + ·) 0 = (A : Int) ∧ A + (gr ss).lessTo (gr ss).ports = 2 * ((gr ss).n * (gr ss).m) ∧ (lensS ss).length ≤ 12 ∧ (∀ x ∈ lensS ss, 4 ≤ x ∧ x ≤ 50 ∧ x % 2 = 0) ∧ (lensS ss).Pairwise (· ≤ ·) := by
  have hok := gr_ok hg
  have h25 := Gr.size_le hok
  have e : lensS ss = sortL ((gr ss).lens (4 * ((gr ss).n * (gr ss).m))) := by simp [lensS, hg]
  have hall := Gr.len_all hok
  rw [e]
  refine ⟨(((gr ss).repsTo (4 * ((gr ss).n * (gr ss).m))).map (gr ss).per).sum, ?_, ?_, ?_, fun x hx => ?_, sortL_sorted _⟩
  · rw [foldl_sum, perm_sum (sortL_perm _), Int.zero_add]
    exact sum_cast _ _
  · rw [Gr.lessTo_all]; exact hall
  · rw [sortL_length, Gr.lens_length]
    exact Gr.rmany_twelve hok
  · have hx := (sortL_perm _).mem_iff.1 hx
    obtain ⟨r, hr, rfl⟩ := List.mem_map.1 hx
    obtain ⟨v, c⟩ := (Gr.reps_trv hok).all r hr
    have h4 := Gr.per_four hok v c
    have hle := mem_le_sum (gr ss).per hr
    omega
theorem lensS_le (ss : List ByteArray) : (lensS ss).length ≤ 1048576 := by
  cases hg : gridB ss
  · simp [lensS, hg]
  · obtain ⟨A, _, _, h, _⟩ := lens_facts hg
    omega
end Go.Proofs.Ytoodfgfbppkbmaa
