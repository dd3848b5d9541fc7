/- Rounds of two pairings beside each other, told by rows: plain facts. -/
import Derived.Test.YtfpcfolcdpdomaaJPlL
import Derived.Test.YtfpcfolcdpdomaaRounds3W
import Derived.Test.YtfpcfolcdpdomaaCloseL
namespace Go.Proofs.Ytfpcfolcdpdomaa
set_option linter.unusedVariables false
set_option linter.unusedSimpArgs false
set_option linter.unusedSectionVars false

/-- The row of a glued port. -/
def rhoR (n m N x : Nat) : Nat := if x < m + n then x - m else N - 1 - x
theorem rhoR_L {n m N r : Nat} (h : m + 2 * n ≤ N) (hr : r < n) : rhoR n m N (m + r) = r ∧ mtR n m N (m + r) = some (N - 1 - r) ∧ rhoR n m N (N - 1 - r) = r := by
  unfold rhoR mtR
  refine ⟨by rw [if_pos (by omega)]; omega, by rw [if_pos (by omega)]; congr 1; omega, by rw [if_neg (by omega)]; omega⟩
theorem rhoR_mem {n m N y z : Nat} (h : m + 2 * n ≤ N) (hz : mtR n m N y = some z) : rhoR n m N y < n ∧ (y = m + rhoR n m N y ∨ z = m + rhoR n m N y) := by
  unfold mtR at hz
  unfold rhoR
  split at hz
  · rename_i h1
    rw [if_pos (by omega)]
    exact ⟨by omega, .inl (by omega)⟩
  · split at hz
    · rename_i h1 h2
      have e : m + (N - 1 - y) = z := Option.some.inj hz
      rw [if_neg (by omega)]
      exact ⟨by omega, .inr (by omega)⟩
    · cases hz
section
variable {n m N : Nat} {nx : Nat → Nat} (h : Glue N nx (mtR n m N)) (hmn : m + 2 * n ≤ N)
include h hmn
theorem row_same {x r : Nat} (hx : x < N) (c : Cyc (gs nx (mtR n m N)) x) (hr : r < n) :
    Same (gs nx (mtR n m N)) nx x (m + r) ↔ ∃ j y, j < perS (gs nx (mtR n m N)) x ∧ iter (gs nx (mtR n m N)) j x = some y ∧ rhoR n m N y = r := by
  obtain ⟨r1, r2, r3⟩ := rhoR_L hmn hr
  constructor
  · rintro (o | o)
    · obtain ⟨j, hj, e⟩ := (perS_on c).1 o
      exact ⟨j, _, hj, e, r1⟩
    · obtain ⟨j, e⟩ := o
      have e2 : iter (gs nx (mtR n m N)) (j + 1) x = some (N - 1 - r) := by
        show (iter (gs nx (mtR n m N)) j x).bind (gs nx (mtR n m N)) = _
        rw [e]
        show mtR n m N (nx (nx (m + r))) = _
        rw [h.nx_nx _ (by omega), r2]
      obtain ⟨j', hj', e'⟩ := (perS_on c).1 ⟨j + 1, e2⟩
      exact ⟨j', _, hj', e', r3⟩
  · rintro ⟨j, y, hj, e, hy⟩
    have hyN := h.rv.steps.iter_stay j x y hx e
    obtain ⟨z, hz⟩ := h.cyc_mt (c.on ⟨j, e⟩).2
    rcases (rhoR_mem hmn hz).2 with h1 | h1
    · rw [hy] at h1
      exact .inl ⟨j, by rw [e, h1]⟩
    · rw [hy] at h1
      obtain ⟨p1, p2, _⟩ := perS_spec c
      have e2 : iter (gs nx (mtR n m N)) (perS (gs nx (mtR n m N)) x + j) x = some y := by rw [iter_add, p2]; exact e
      obtain ⟨y', hy', hs⟩ := iter_pred (k := perS (gs nx (mtR n m N)) x + j - 1) (by rw [show perS (gs nx (mtR n m N)) x + j - 1 + 1 = perS (gs nx (mtR n m N)) x + j by omega]; exact e2)
      have hy'N := h.rv.steps.iter_stay _ x y' hx hy'
      have h2 := h.mt_mt _ _ hs
      rw [hz] at h2
      have h3 : z = nx y' := Option.some.inj h2
      exact .inr ⟨perS (gs nx (mtR n m N)) x + j - 1, by rw [hy', ← h1, h3, h.nx_nx y' hy'N]⟩
/-- What the rows' marks tell. -/
def RowM (n m N : Nat) (nx : Nat → Nat) (e : Nat) (M : Nat → Bool) : Prop := ∀ r, r < n → (M r = true ↔ SeenL (gs nx (mtR n m N)) nx (fun e => m + e) e (m + r))
omit h hmn in
theorem RowM.zero : RowM n m N nx 0 fun _ => false := fun r hr => ⟨fun h => (by cases h), fun h => absurd h SeenL.zero⟩
theorem RowM.old {e : Nat} {M : Nat → Bool} (hM : RowM n m N nx e M) (he : e < n) (hs : Cyc (gs nx (mtR n m N)) (m + e) → SeenL (gs nx (mtR n m N)) nx (fun e => m + e) e (m + e)) : RowM n m N nx (e + 1) M := fun r hr => by
  rw [hM r hr, SeenL.old h.rv (L := fun e => m + e) (fun k hk => by show m + k < N; omega) hs (by show m + r < N; omega)]
def markL (M : Nat → Bool) (l : List Nat) : Nat → Bool := l.foldl updB M
omit h hmn in
theorem markL_iff : ∀ (l : List Nat) (M : Nat → Bool) (x : Nat), markL M l x = true ↔ x ∈ l ∨ M x = true := by
  intro l
  induction l with
  | nil => intro M x; simp [markL]
  | cons a l ih =>
    intro M x
    show markL (updB M a) l x = true ↔ _
    rw [ih]
    simp only [updB, Bool.or_eq_true, beq_iff_eq, List.mem_cons]
    constructor
    · rintro (h | h | h)
      · exact .inl (.inr h)
      · exact .inl (.inl h)
      · exact .inr h
    · rintro ((h | h) | h)
      · exact .inr (.inl h)
      · exact .inl h
      · exact .inr (.inr h)
omit h hmn in
theorem markL_succ (M : Nat → Bool) (l : List Nat) {i y : Nat} (h : l[i]? = some y) : updB (markL M (l.take i)) y = markL M (l.take (i + 1)) := by
  obtain ⟨hi, he⟩ := List.getElem?_eq_some_iff.1 h
  rw [List.take_succ_eq_append_getElem hi, he]
  unfold markL
  rw [List.foldl_append]
  rfl
/-- The rows that a way has met. -/
def metR (n m N : Nat) (nx : Nat → Nat) (x t : Nat) : List Nat := (List.range (t + 1)).map fun j => rhoR n m N ((iter (gs nx (mtR n m N)) j x).getD 0)
omit h hmn in
theorem metR_length (x t : Nat) : (metR n m N nx x t).length = t + 1 := by simp [metR]
omit h hmn in
theorem metR_succ {x t y : Nat} (e : iter (gs nx (mtR n m N)) (t + 1) x = some y) : metR n m N nx x t ++ [rhoR n m N y] = metR n m N nx x (t + 1) := by
  unfold metR
  rw [List.range_succ (n := t + 1), List.map_append]
  simp [e]
omit h hmn in
theorem metR_mem {x t r : Nat} (hd : ∀ u, u ≤ t → ∃ y, iter (gs nx (mtR n m N)) u x = some y) : r ∈ metR n m N nx x t ↔ ∃ j y, j < t + 1 ∧ iter (gs nx (mtR n m N)) j x = some y ∧ rhoR n m N y = r := by
  unfold metR
  rw [List.mem_map]
  constructor
  · rintro ⟨j, hj, e⟩
    have hj' := List.mem_range.1 hj
    obtain ⟨y, hy⟩ := hd j (by omega)
    rw [hy] at e
    exact ⟨j, y, hj', hy, e⟩
  · rintro ⟨j, y, hj, hy, e⟩
    exact ⟨j, List.mem_range.2 hj, by rw [hy]; exact e⟩
theorem RowM.new {e t : Nat} {M : Nat → Bool} (hM : RowM n m N nx e M) (he : e < n) (c : Cyc (gs nx (mtR n m N)) (m + e)) (hp : perS (gs nx (mtR n m N)) (m + e) = t + 1) : RowM n m N nx (e + 1) (markL M (metR n m N nx (m + e) t)) := fun r hr => by
  rw [markL_iff, SeenL.new (L := fun e => m + e) c, hM r hr, metR_mem fun u hu => perS_def c (by omega), row_same h hmn (by omega) c hr, hp]
  exact Or.comm
theorem row_count {c : Nat} (ht : Trs (gs nx (mtR n m N)) nx (fun e => m + e) n c) : c = grounds N nx (mtR n m N) :=
  ht.num h.rv (fun e he => by show m + e < N; omega) (fun x hx c => by
    obtain ⟨z, hz⟩ := h.cyc_mt c
    have h1 := (rhoR_mem hmn hz).1
    exact ⟨rhoR n m N x, h1, (row_same h hmn hx c h1).2 ⟨0, x, (perS_spec c).1, rfl, rfl⟩⟩) h.num
end
def chkR (n m k X : Nat) : Bool :=
  match mtR n m (4 * n + 2 * m + 2 * k) X with
  | none => true
  | some _ => plA n m k X == (rhoR n m (4 * n + 2 * m + 2 * k) X : Nat)
theorem chkR_all : ∀ n ∈ [1, 2, 3, 4, 5], ∀ m ∈ [1, 2, 3, 4], ∀ k ∈ List.range (6 - m), 1 ≤ k → ∀ X ∈ List.range (4 * n + 2 * m + 2 * k), chkR n m k X = true := by decide +kernel
theorem plJ_rho {n m k X z : Nat} (h : Two n m k) (hX : X < 4 * n + 2 * m + 2 * k) (hz : mtR n m (4 * n + 2 * m + 2 * k) X = some z) : (plJ n m k X).2 = rhoR n m (4 * n + 2 * m + 2 * k) X := by
  have hc := chkR_all n (mem_n h.n1 h.n5) m (mem_m h.m1 (by have := h.mk5; have := h.k1; omega)) k (List.mem_range.2 (by have := h.mk5; omega)) h.k1 X (List.mem_range.2 hX)
  unfold chkR at hc
  rw [hz] at hc
  have h2 := (plJ_cast h hX).2.1
  have h3 : plA n m k X = (rhoR n m (4 * n + 2 * m + 2 * k) X : Nat) := beq_iff_eq.1 hc
  omega
theorem plJ_L {n m k e : Nat} (h : Two n m k) (he : e < n) : plJ n m k (m + e) = (1, e) := by
  have hn := h.n1
  have hz := (rhoR_L (n := n) (m := m) (N := 4 * n + 2 * m + 2 * k) (r := e) (by omega) he).2.1
  have h1 := plJ_rho h (X := m + e) (by omega) hz
  rw [(rhoR_L (n := n) (m := m) (N := 4 * n + 2 * m + 2 * k) (r := e) (by omega) he).1] at h1
  obtain ⟨_, _, h2 | h2⟩ := plJ_some h (by omega) hz
  · exact Prod.ext h2.2.2.1 h1
  · omega
end Go.Proofs.Ytfpcfolcdpdomaa
