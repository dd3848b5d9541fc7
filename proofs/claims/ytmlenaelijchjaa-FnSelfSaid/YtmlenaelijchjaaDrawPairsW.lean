/- Contract: what l91Pairs draws: some list of so many numbers. -/
import Derived.Test.YtmlenaelijchjaaDrawGridL
import Derived.Test.YtmlenaelijchjaaStS
import Derived.Test.YtmlenaelijchjaaFill
namespace Go.Proofs.Ytmlenaelijchjaa
open Go.RowKit
set_option linter.unusedVariables false

def idL (k : Nat) : List Int := fillN (fun i => (i : Int)) k
theorem idL_succ (k : Nat) : idL k ++ [(k : Int)] = idL (k + 1) := by simp [idL, fillN, List.range_succ]
theorem idL_length (k : Nat) : (idL k).length = k := fillN_length _ _
theorem idL_bd (k : Nat) : ∀ x ∈ idL k, 0 ≤ x ∧ x < k := by
  intro x hx
  simp only [idL, fillN, List.mem_map, List.mem_range] at hx
  obtain ⟨i, hi, rfl⟩ := hx
  omega

theorem cells0 {W : World} {gl : Nat} {L : List Int} (h : CellsI W (some ⟨gl, 0, none⟩) L) : ∀ k, k < L.length → W.cell? ⟨gl, k, none⟩ = some (.int .i64 (L.getD k 0)) := by
  intro k hk
  obtain ⟨b', off', hab, hc, _⟩ := h.at hk
  cases hab
  have := hc k hk
  rwa [Nat.zero_add] at this
theorem news_take {W : World} {gl r : Nat} {L : List Int} (h : CellsI W (some ⟨gl, 0, none⟩) L) (hr : 1 + r ≤ L.length) :
    ∀ i u, (((L.drop 1).take r).map (Value.int .i64))[i]? = some u → W.cell? ((⟨gl, 1, none⟩ : Addr).add i) = some u := by
  intro i u hu
  rw [List.getElem?_map] at hu
  have hi : i < r := by
    have := (List.getElem?_eq_some_iff.1 (Option.map_eq_some_iff.1 hu).choose_spec.1).1
    simp at this; omega
  rw [Go.WideShapes.add_plain, cells0 h (1 + i) (by omega)]
  rw [← hu]
  simp [hi, show i + 1 < L.length by omega, Nat.add_comm 1 i]
theorem news_drop {W : World} {gl k : Nat} {L : List Int} (h : CellsI W (some ⟨gl, 0, none⟩) L) (hk : k ≤ L.length) :
    ∀ i u, ((L.drop k).map (Value.int .i64))[i]? = some u → W.cell? ((⟨gl, k, none⟩ : Addr).add i) = some u := by
  intro i u hu
  rw [List.getElem?_map] at hu
  have hi : i < L.length - k := by
    have := (List.getElem?_eq_some_iff.1 (Option.map_eq_some_iff.1 hu).choose_spec.1).1
    simpa using this
  rw [Go.WideShapes.add_plain, cells0 h (k + i) (by omega)]
  rw [← hu]
  simp [show k + i < L.length by omega]
/-- 's[k:]' at k = cap keeps the array's own address: nothing lies there. -/
theorem news_tail {gl k c : Nat} {L : List Int} (hk : k ≤ L.length) (hL : L.length ≤ c) :
    ∃ A, (if c = k then some (⟨gl, 0, none⟩ : Addr) else some ⟨gl, k, none⟩) = some A ∧
      ∀ W, CellsI W (some ⟨gl, 0, none⟩) L → ∀ i u, ((L.drop k).map (Value.int .i64))[i]? = some u → W.cell? (A.add i) = some u := by
  by_cases e : c = k
  · refine ⟨⟨gl, 0, none⟩, by rw [if_pos e], fun W _ i u hu => ?_⟩
    have : L.drop k = [] := List.drop_eq_nil_of_le (by omega)
    rw [this] at hu
    simp at hu
  · exact ⟨⟨gl, k, none⟩, by rw [if_neg e], fun W h => news_drop h hk⟩

/-- The length of a slice in a slot: a loop's measure. -/
def lenOf : Value → Nat | .slice _ n _ => n | _ => 0

end Go.Proofs.Ytmlenaelijchjaa
