/- Pairings as lists of numbers: plain facts, no program in sight. -/
import Derived.Test.YtebcnfemkchfjaaSmall
namespace Go.Proofs.Ytebcnfemkchfjaa

/-- Place p of xs holds another place, which holds p. -/
def okAt (xs : List Int) (p : Nat) : Bool :=
  inB (xs.getD p 0) 0 ((xs.length : Int) - 1) && !(xs.getD p 0 == (p : Int)) && (xs.getD (xs.getD p 0).toNat 0 == (p : Int))

/-- All places of xs from 0 on to k. -/
def okTo (xs : List Int) (k : Nat) : Prop := ∀ j, j < k → okAt xs j = true

def pairsB (xs : List Int) : Bool := (List.range xs.length).all (okAt xs) && inB xs.length 4 20

theorem pairsB_iff {xs : List Int} : pairsB xs = true ↔ okTo xs xs.length ∧ inB xs.length 4 20 = true := by
  simp [pairsB, okTo]

theorem okTo_zero (xs : List Int) : okTo xs 0 := fun _ h => by omega
theorem okTo_succ {xs : List Int} {k : Nat} (h : okTo xs k) (hk : okAt xs k = true) : okTo xs (k + 1) := by
  intro j hj
  by_cases e : j = k
  · rw [e]; exact hk
  · exact h j (by omega)
theorem pairsB_no {xs : List Int} {k : Nat} (hk : k < xs.length) (h : okAt xs k = false) : pairsB xs = false := by
  cases hp : pairsB xs
  · rfl
  · have := (pairsB_iff.1 hp).1 k hk
    rw [h] at this; cases this
theorem pairsB_end {xs : List Int} (h : okTo xs xs.length) : pairsB xs = inB xs.length 4 20 := by
  have : (List.range xs.length).all (okAt xs) = true := by simpa [okTo] using h
  simp [pairsB, this]

/-- A list without repetition that an involution without fixed places maps into itself has an even length. -/
theorem even_of_invol (σ : Nat → Nat) : ∀ (n : Nat) (l : List Nat), l.length = n → l.Nodup → (∀ x ∈ l, σ x ∈ l ∧ σ x ≠ x ∧ σ (σ x) = x) → n % 2 = 0 := by
  intro n
  induction n using Nat.strongRecOn with
  | _ n ih =>
    intro l hl hd hs
    match l, hl with
    | [], hl => simp at hl; omega
    | a :: t, hl =>
      have ha := hs a (by simp)
      have hat : σ a ∈ t := by
        have := ha.1
        simp only [List.mem_cons] at this
        exact this.resolve_left ha.2.1
      have hdt := List.nodup_cons.1 hd
      have hlen : (t.erase (σ a)).length = t.length - 1 := List.length_erase_of_mem hat
      have hpos : 0 < t.length := List.length_pos_of_mem hat
      simp only [List.length_cons] at hl
      have := ih (n - 2) (by omega) (t.erase (σ a)) (by omega) (hdt.2.erase _) (by
        intro x hx
        have hx' := (List.Nodup.mem_erase_iff hdt.2).1 hx
        have h := hs x (by simp [hx'.2])
        refine ⟨(List.Nodup.mem_erase_iff hdt.2).2 ⟨fun e => ?_, ?_⟩, h.2.1, h.2.2⟩
        · have : x = a := by rw [← h.2.2, e, ha.2.2]
          exact hdt.1 (this ▸ hx'.2)
        · have h1 := h.1
          simp only [List.mem_cons] at h1
          refine h1.resolve_left fun e => hx'.1 ?_
          rw [← h.2.2, e])
      omega

/-- A list all of whose places hold partners has an even length. -/
theorem okTo_even {xs : List Int} (h : okTo xs xs.length) : xs.length % 2 = 0 := by
  refine even_of_invol (fun p => (xs.getD p 0).toNat) xs.length (List.range xs.length) (by simp) List.nodup_range ?_
  intro x hx
  have hx := List.mem_range.1 hx
  have := h x hx
  simp only [okAt, Bool.and_eq_true, inB_iff, Bool.not_eq_true', beq_eq_false_iff_ne, beq_iff_eq] at this
  refine ⟨List.mem_range.2 (by omega), by omega, ?_⟩
  rw [this.2]
  omega

end Go.Proofs.Ytebcnfemkchfjaa
