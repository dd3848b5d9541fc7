/- The beams of an empty grid: plain facts. -/
import Derived.Test.YtgbfhpjdhacfmaaIsoL
import Derived.Test.YtgbfhpjdhacfmaaUnitW
import Derived.Test.YtgbfhpjdhacfmaaChordsL
namespace Go.Proofs.Ytgbfhpjdhacfmaa
set_option linter.unusedVariables false
set_option linter.unusedSimpArgs false
set_option linter.unusedSectionVars false

theorem Gr.Same.iso {g g' : Gr} (hg : g.ok) (h : g.Same g') : g.Iso g' id id where
  val := fun x hx => ⟨by show x.1 < g'.n * g'.m; rw [← h.n, ← h.m]; exact hx.1, hx.2⟩
  nx := fun x hx => by
    have hd : g'.dir x = g.dir x := by
      unfold Gr.dir
      rw [← h.m, ← h.lt _ _ (Gr.row_lt hg hx.1) (Gr.col_lt hg x.1)]
    show g'.nx x = (g.nx x).map id
    unfold Gr.nx
    rw [hd, ← h.m, ← h.n, Option.map_id_fun]
    rfl
  rev := fun x hx => by
    have hd : g'.dir x = g.dir x := by
      unfold Gr.dir
      rw [← h.m, ← h.lt _ _ (Gr.row_lt hg hx.1) (Gr.col_lt hg x.1)]
    show (x.1, opp (g'.dir x)) = (x.1, opp (g.dir x))
    rw [hd]
  port := fun p hp => by
    show p < g'.ports
    unfold Gr.ports at hp ⊢
    rw [← h.n, ← h.m]; exact hp
  ent := fun p hp => by
    show g'.ent p = g.ent p
    unfold Gr.ent
    rw [← h.n, ← h.m]

def emptyG (n m : Nat) : Gr := ⟨n, m, fun _ _ => 46⟩
def unitK (n m p : Nat) : Nat := if p < m ∨ (m + n ≤ p ∧ p < 2 * m + n) then n - 1 else m - 1
def unitOk (n m p : Nat) : Bool := match iter (emptyG n m).nx (unitK n m p) ((emptyG n m).ent p) with
  | some y => ((emptyG n m).nx y == none) && (((emptyG n m).out y : Int) == unitAt n m p)
  | none => false
theorem unit_all : ∀ n ∈ [1, 2, 3, 4, 5], ∀ m ∈ [1, 2, 3, 4, 5], ∀ p ∈ List.range (2 * n + 2 * m), unitOk n m p = true := by decide +kernel
theorem unit_chords : ∀ n ∈ [1, 2, 3, 4, 5], ∀ m ∈ [1, 2, 3, 4, 5], chordsN (unitL (n : Nat) (m : Nat)) = (n : Int) * (m : Int) ∧ pairsB (unitL (n : Nat) (m : Nat)) = true := by decide +kernel
theorem empty_ok {n m : Nat} (h1 : 1 ≤ n) (h2 : n ≤ 5) (h3 : 1 ≤ m) (h4 : m ≤ 5) : (emptyG n m).ok := ⟨h1, h2, h3, h4, fun _ _ _ _ => rfl⟩
theorem empty_end {n m p : Nat} (h1 : 1 ≤ n) (h2 : n ≤ 5) (h3 : 1 ≤ m) (h4 : m ≤ 5) (hp : p < 2 * n + 2 * m) : (((emptyG n m).endOf p : Nat) : Int) = unitAt n m p := by
  have h := unit_all n (by simp; omega) m (by simp; omega) p (List.mem_range.2 hp)
  unfold unitOk at h
  cases hi : iter (emptyG n m).nx (unitK n m p) ((emptyG n m).ent p) with
  | none => rw [hi] at h; cases h
  | some y =>
    rw [hi] at h
    simp only [Bool.and_eq_true, beq_iff_eq] at h
    have hB : (emptyG n m).Beam p (unitK n m p) y := ⟨by unfold unitK; split <;> omega, hi, h.1⟩
    rw [Gr.endOf_eq hB]
    exact h.2
theorem beams_empty {n m : Nat} (h1 : 1 ≤ n) (h2 : n ≤ 5) (h3 : 1 ≤ m) (h4 : m ≤ 5) {f : Nat → Nat → Int} (hf : ∀ i k, i < n → k < m → f i k = 46) :
    gridB (gridT n m f) = true ∧ beamsB (gridT n m f) = unitL n m := by
  have hl : ∀ i k, i < n → k < m → letB (f i k) = true := fun i k hi hk => by rw [hf i k hi hk]; rfl
  have hg := gridT_ok h1 h2 h3 h4 hl
  have hok := gr_ok hg
  have hS := gridT_gr h1 hl
  have hE : (gr (gridT n m f)).Same (emptyG n m) := ⟨hS.n, hS.m, fun i k hi hk => by
    have e1 : i < n := by have := hS.n; show i < (⟨n, m, f⟩ : Gr).n; rw [← this]; exact hi
    have e2 : k < m := by have := hS.m; show k < (⟨n, m, f⟩ : Gr).m; rw [← this]; exact hk
    rw [hS.lt i k hi hk]
    exact hf i k e1 e2⟩
  have hok' := empty_ok h1 h2 h3 h4
  have hI := Gr.Same.iso hok hE
  have hP : (gr (gridT n m f)).ports = 2 * n + 2 * m := by
    unfold Gr.ports
    rw [hE.n, hE.m]
    rfl
  refine ⟨hg, ?_⟩
  have e1 : beamsB (gridT n m f) = (gr (gridT n m f)).endsTo (2 * n + 2 * m) := by simp [beamsB, hg, hP]
  have e2 : unitL n m = fillN (unitAt n m) (2 * n + 2 * m) := by
    have : unitB n m = true := by simp [unitB, inB]; omega
    simp [unitL, this]
  rw [e1, e2]
  unfold Gr.endsTo fillN
  refine List.map_congr_left fun p hp => ?_
  have hp := List.mem_range.1 hp
  rw [← empty_end h1 h2 h3 h4 hp]
  have := Gr.Iso.endOf hok hok' hI (p := p) (by rw [hP]; exact hp)
  have h9 : (emptyG n m).endOf p = (gr (gridT n m f)).endOf p := this
  rw [h9]
end Go.Proofs.Ytgbfhpjdhacfmaa
