/- The best exchange: plain facts. -/
import Derived.Test.YtcacbkcckfgkjaaBestW
import Derived.Test.YtcacbkcckfgkjaaChangeL
namespace Go.Proofs.Ytcacbkcckfgkjaa
set_option linter.unusedVariables false
set_option linter.unusedSimpArgs false

/-- What the best exchange among the first k cells is. -/
structure BestOk (ss : List ByteArray) (k : Nat) (T : Int × Int) : Prop where
  none : T.1 < 0 → ∀ j, j < k → (gr ss).sig j = 46
  some : 0 ≤ T.1 → ∃ c : Nat, T.1 = c ∧ c < k ∧ (gr ss).sig c ≠ 46 ∧ T.2 = exP ss c ∧ ∀ j, j < k → (gr ss).sig j ≠ 46 → (exP ss j : Int) ≤ T.2 ∧ (j < c → (exP ss j : Int) < T.2)
theorem bestTo_ok (ss : List ByteArray) : ∀ k, BestOk ss k (bestTo ss k) := by
  intro k
  induction k with
  | zero => exact ⟨fun _ j hj => by omega, fun h => by exfalso; have : (0 : Int) ≤ -1 := h; omega⟩
  | succ k ih =>
    by_cases h46 : (gr ss).sig k = 46
    · rw [bestTo_dot h46]
      refine ⟨fun h j hj => ?_, fun h => ?_⟩
      · by_cases e : j = k
        · rw [e]; exact h46
        · exact ih.none h j (by omega)
      · obtain ⟨c, h1, h2, h3, h4, h5⟩ := ih.some h
        refine ⟨c, h1, by omega, h3, h4, fun j hj hs => ?_⟩
        by_cases e : j = k
        · rw [e] at hs; exact absurd h46 hs
        · exact h5 j (by omega) hs
    · by_cases hn : (bestTo ss k).1 < 0 ∨ (bestTo ss k).2 < exP ss k
      · rw [bestTo_new h46 hn]
        refine ⟨fun h => by exfalso; have : (k : Int) < 0 := h; omega, fun h => ⟨k, rfl, by omega, h46, rfl, fun j hj hs => ?_⟩⟩
        show (exP ss j : Int) ≤ exP ss k ∧ (j < k → (exP ss j : Int) < exP ss k)
        by_cases e : j = k
        · subst e; exact ⟨Int.le_refl _, fun h => by omega⟩
        · by_cases h0 : (bestTo ss k).1 < 0
          · exact absurd (ih.none h0 j (by omega)) hs
          · obtain ⟨c, h1, h2, h3, h4, h5⟩ := ih.some (by omega)
            have := (h5 j (by omega) hs).1
            have h6 : (bestTo ss k).2 < exP ss k := by omega
            exact ⟨by omega, fun _ => by omega⟩
      · rw [bestTo_old h46 hn]
        refine ⟨fun h => absurd (.inl h) hn, fun h => ?_⟩
        obtain ⟨c, h1, h2, h3, h4, h5⟩ := ih.some h
        refine ⟨c, h1, by omega, h3, h4, fun j hj hs => ?_⟩
        by_cases e : j = k
        · subst e
          exact ⟨by omega, fun h => by omega⟩
        · exact h5 j (by omega) hs
/-- What the law asks of each cell. -/
def BestAt (A c M : Int) (k : Nat) (b : Bool) (x : Int) : Prop :=
  -200 ≤ x ∧ x ≤ 200 ∧ (b = true → A + x ≤ M ∧ ((k : Int) < c → A + x < M)) ∧ ((k : Int) = c → b = true ∧ A + x = M)
theorem mirB_iff {ss : List ByteArray} (hg : gridB ss = true) {k : Nat} (hk : k < (gr ss).n * (gr ss).m) : mirB ss k = true ↔ (gr ss).sig k ≠ 46 := by
  simp only [mirB, cellB, hg, Bool.true_and, Bool.and_eq_true, inB_iff, Int.toNat_natCast, Bool.not_eq_true', beq_eq_false_iff_ne]
  exact ⟨fun h => h.2, fun h => ⟨by omega, h⟩⟩
theorem best_law {ss : List ByteArray} (hg : gridB ss = true) (hb : bestB ss = true) :
    ∀ k, k < (gr ss).n * (gr ss).m → BestAt ((gr ss).pmany : Nat) (bestC ss) (bestM ss) k (mirB ss k) (deltaL ss k) := by
  intro k hk
  have hT : bestC ss = (bestP ss).1 ∧ bestM ss = (bestP ss).2 := ⟨by simp [bestC, hb], by simp [bestM, hb]⟩
  have h0 : 0 ≤ (bestP ss).1 := by
    simp only [bestB, Bool.and_eq_true, decide_eq_true_iff] at hb
    exact hb.2
  obtain ⟨c, h1, h2, h3, h4, h5⟩ := (bestTo_ok ss _).some h0
  have h1' : (bestP ss).1 = c := h1
  have h4' : (bestP ss).2 = exP ss c := h4
  have h5' : ∀ j, j < (gr ss).n * (gr ss).m → (gr ss).sig j ≠ 46 → (exP ss j : Int) ≤ (bestP ss).2 ∧ (j < c → (exP ss j : Int) < (bestP ss).2) := h5
  have hp := pmany_le hg
  rw [hT.1, hT.2]
  unfold BestAt
  by_cases hm : mirB ss k = true
  · have hs := (mirB_iff hg hk).1 hm
    have hd : deltaL ss k = (exP ss k : Int) - ((gr ss).pmany : Nat) := by simp [deltaL, hm, putP, exP]
    have he := (exP_le hg hk).2
    have h6 := h5' k hk hs
    rw [hd, hm]
    refine ⟨by omega, by omega, fun _ => ⟨by omega, fun h => ?_⟩, fun h => ⟨rfl, ?_⟩⟩
    · have := h6.2 (by omega)
      omega
    · have e : k = c := by omega
      subst e
      omega
  · have hm' : mirB ss k = false := by simpa using hm
    have hd : deltaL ss k = 0 := by simp [deltaL, hm']
    rw [hd, hm']
    refine ⟨by omega, by omega, fun h => (by cases h), fun h => ?_⟩
    have e : k = c := by omega
    subst e
    exact absurd ((mirB_iff hg hk).2 h3) hm
end Go.Proofs.Ytcacbkcckfgkjaa
