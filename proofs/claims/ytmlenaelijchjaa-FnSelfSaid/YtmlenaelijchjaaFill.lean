/- Lists that are filled from the first place on: plain facts. -/
import Derived.Test.YtmlenaelijchjaaStS
namespace Go.Proofs.Ytmlenaelijchjaa

/-- The first k of N places hold f, the others 0. -/
def fillTo (f : Nat → Int) (N k : Nat) : List Int := (List.range N).map fun i => if i < k then f i else 0
theorem fillTo_length (f : Nat → Int) (N k : Nat) : (fillTo f N k).length = N := by simp [fillTo]
theorem fillTo_zero (f : Nat → Int) (N : Nat) : fillTo f N 0 = List.replicate N 0 := by
  apply List.ext_getElem
  · simp [fillTo]
  · intro i h1 h2; simp [fillTo]
theorem fillTo_set (f : Nat → Int) (N k : Nat) : (fillTo f N k).set k (f k) = fillTo f N (k + 1) := by
  apply List.ext_getElem
  · simp [fillTo]
  · intro i h1 h2
    simp only [fillTo, List.getElem_set, List.getElem_map, List.getElem_range]
    by_cases e : k = i
    · subst e; simp
    · by_cases e2 : i < k
      · have : i < k + 1 := by omega
        simp [e, e2, this]
      · have : ¬ i < k + 1 := by omega
        simp [e, e2, this]
/-- All N places hold f. -/
def fillN (f : Nat → Int) (N : Nat) : List Int := (List.range N).map f
theorem fillN_length (f : Nat → Int) (N : Nat) : (fillN f N).length = N := by simp [fillN]
theorem fillTo_all (f : Nat → Int) (N : Nat) : fillTo f N N = fillN f N := by
  apply List.ext_getElem
  · simp [fillTo, fillN]
  · intro i h1 h2
    simp only [fillTo, List.length_map, List.length_range] at h1
    simp [fillTo, fillN, h1]
theorem fillN_getD (f : Nat → Int) {N p : Nat} (h : p < N) : (fillN f N).getD p 0 = f p := by simp [fillN, h]
end Go.Proofs.Ytmlenaelijchjaa
