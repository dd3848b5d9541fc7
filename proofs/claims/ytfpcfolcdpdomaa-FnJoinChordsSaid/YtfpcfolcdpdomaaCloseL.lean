/- The places of ports that are glued: plain facts. -/
import Derived.Test.YtfpcfolcdpdomaaGlue2L
import Derived.Test.YtfpcfolcdpdomaaPlaceW
import Derived.Test.YtfpcfolcdpdomaaPlMapW
namespace Go.Proofs.Ytfpcfolcdpdomaa
set_option linter.unusedVariables false
set_option linter.unusedSimpArgs false
set_option linter.unusedSectionVars false

/-- The side and the row of a glued port. -/
def plR (n m N x : Nat) : Stt := if x < m + n then (1, x - m) else (3, N - 1 - x)
def lrR (n m N e : Nat) : Nat := if e < n then m + e else N - 1 - (e - n)
theorem close_place {n m N p : Nat} (hN : N = 2 * n + 2 * m) (hp : p < N) :
    (mtR n m N p = none ∧ (sideI n m p = 0 ∨ sideI n m p = 2)) ∨
    ∃ z, mtR n m N p = some z ∧ sideI n m p = ((plR n m N p).1 : Nat) ∧ atI n m p = ((plR n m N p).2 : Nat) ∧ plR n m N z = (4 - (plR n m N p).1, (plR n m N p).2) ∧ ((plR n m N p).1 = 1 ∨ (plR n m N p).1 = 3) ∧ (plR n m N p).2 < n := by
  by_cases h1 : m ≤ p ∧ p < m + n
  · right
    refine ⟨N - 1 - (p - m), by unfold mtR; rw [if_pos h1], ?_, ?_, ?_, ?_, ?_⟩
    · unfold sideI plR
      rw [if_neg (by omega), if_pos (by omega), if_pos h1.2]
      rfl
    · unfold atI plR
      rw [if_neg (by omega), if_pos (by omega), if_pos h1.2]
      show (p : Int) - m = ((p - m : Nat) : Int)
      omega
    · unfold plR
      rw [if_neg (by omega), if_pos h1.2]
      refine Prod.ext rfl ?_
      show N - 1 - (N - 1 - (p - m)) = p - m
      omega
    · unfold plR; rw [if_pos h1.2]; exact .inl rfl
    · unfold plR; rw [if_pos h1.2]; show p - m < n; omega
  · by_cases h2 : N - n ≤ p ∧ p < N
    · right
      refine ⟨m + (N - 1 - p), by unfold mtR; rw [if_neg h1, if_pos h2], ?_, ?_, ?_, ?_, ?_⟩
      · unfold sideI plR
        rw [if_neg (by omega), if_neg (by omega), if_neg (by omega), if_neg (by omega)]
        rfl
      · unfold atI plR
        rw [if_neg (by omega), if_neg (by omega), if_neg (by omega), if_neg (by omega)]
        show (n : Int) - 1 - (p - 2 * m - n) = ((N - 1 - p : Nat) : Int)
        omega
      · unfold plR
        rw [if_pos (by omega), if_neg (by omega)]
        refine Prod.ext rfl ?_
        show m + (N - 1 - p) - m = N - 1 - p
        omega
      · unfold plR; rw [if_neg (by omega)]; exact .inr rfl
      · unfold plR; rw [if_neg (by omega)]; show N - 1 - p < n; omega
    · left
      refine ⟨by unfold mtR; rw [if_neg h1, if_neg h2], ?_⟩
      unfold sideI
      by_cases h3 : p < m
      · rw [if_pos (by omega)]; exact .inl rfl
      · rw [if_neg (by omega), if_neg (by omega), if_pos (by omega)]; exact .inr rfl
theorem close_port {n m N x z : Nat} (hN : N = 2 * n + 2 * m) (hz : mtR n m N x = some z) : portI n m ((plR n m N x).1 : Nat) ((plR n m N x).2 : Nat) = x := by
  have hl := mtR_lt (by omega) hz
  unfold mtR at hz
  split at hz
  · rename_i h
    unfold plR
    rw [if_pos h.2]
    show portI n m 1 ((x - m : Nat) : Int) = x
    simp only [portI]
    simp
    omega
  · split at hz
    · rename_i h1 h2
      unfold plR
      rw [if_neg (by omega)]
      show portI n m 3 ((N - 1 - x : Nat) : Int) = x
      simp only [portI]
      simp
      omega
    · cases hz
theorem plR_inj {n m N x y z z' : Nat} (hN : N = 2 * n + 2 * m) (hx : mtR n m N x = some z) (hy : mtR n m N y = some z') (e : plR n m N x = plR n m N y) : x = y := by
  have h1 := close_port hN hx
  have h2 := close_port hN hy
  rw [e, h2] at h1
  omega
theorem lrR_facts {n m N e : Nat} (hN : N = 2 * n + 2 * m) (he : e < 2 * n) : lrR n m N e < N ∧ (∃ z, mtR n m N (lrR n m N e) = some z) ∧ plR n m N (lrR n m N e) = if e < n then (1, e) else (3, e - n) := by
  unfold lrR
  split
  · refine ⟨by omega, ⟨_, by unfold mtR; rw [if_pos (by omega)]⟩, ?_⟩
    unfold plR
    rw [if_pos (by omega)]
    refine Prod.ext rfl ?_
    show m + e - m = e
    omega
  · refine ⟨by omega, ⟨_, by unfold mtR; rw [if_neg (by omega), if_pos (by omega)]⟩, ?_⟩
    unfold plR
    rw [if_neg (by omega)]
    refine Prod.ext rfl ?_
    show N - 1 - (N - 1 - (e - n)) = e - n
    omega
theorem lrR_all {n m N x z : Nat} (hN : N = 2 * n + 2 * m) (hx : mtR n m N x = some z) : ∃ e, e < 2 * n ∧ lrR n m N e = x := by
  unfold mtR at hx
  split at hx
  · exact ⟨x - m, by omega, by unfold lrR; rw [if_pos (by omega)]; omega⟩
  · split at hx
    · exact ⟨n + (N - 1 - x), by omega, by unfold lrR; rw [if_neg (by omega)]; omega⟩
    · cases hx

/-- What the way from x has met after t steps: the states, and where they lead. -/
def metI (nx : Nat → Nat) (mt : Nat → Option Nat) (x : Nat) : Nat → List Nat
  | 0 => []
  | t + 1 => metI nx mt x t ++ [(iter (gs nx mt) t x).getD 0, nx ((iter (gs nx mt) t x).getD 0)]
theorem metI_succ {nx : Nat → Nat} {mt : Nat → Option Nat} {x t y : Nat} (h : iter (gs nx mt) t x = some y) : metI nx mt x (t + 1) = metI nx mt x t ++ [y, nx y] := by rw [metI, h]; rfl
theorem metI_length (nx : Nat → Nat) (mt : Nat → Option Nat) (x t : Nat) : (metI nx mt x t).length = 2 * t := by
  induction t with
  | zero => rfl
  | succ t ih => rw [metI, List.length_append, ih]; simp; omega
theorem metI_mem {nx : Nat → Nat} {mt : Nat → Option Nat} {x t : Nat} (hd : ∀ u, u < t → ∃ y, iter (gs nx mt) u x = some y) {q : Nat} : q ∈ metI nx mt x t ↔ ∃ u y, u < t ∧ iter (gs nx mt) u x = some y ∧ (q = y ∨ q = nx y) := by
  induction t with
  | zero => simp [metI]
  | succ t ih =>
    obtain ⟨y, hy⟩ := hd t (by omega)
    rw [metI_succ hy, List.mem_append, ih fun u hu => hd u (by omega)]
    constructor
    · rintro (⟨u, z, hu, hz, h⟩ | h)
      · exact ⟨u, z, by omega, hz, h⟩
      · simp at h
        exact ⟨t, y, by omega, hy, h⟩
    · rintro ⟨u, z, hu, hz, h⟩
      by_cases e : u = t
      · subst e
        rw [hy] at hz
        cases hz
        right; simp; exact h
      · exact .inl ⟨u, z, by omega, hz, h⟩
/-- The map of marks tells the rounds of the first e states of a list. -/
def GlueP (nx : Nat → Nat) (mt : Nat → Option Nat) (pl : Nat → Stt) (L : Nat → Nat) (e : Nat) (f : Stt → Option Bool) : Prop :=
  ∀ x z, mt x = some z → ((f (pl x)).getD false = true ↔ SeenL (gs nx mt) nx L e x)
/-- Marked one by one. -/
def putP1 (f : Stt → Option Bool) (l : List Stt) : Stt → Option Bool := l.foldl (fun f x => updP f x true) f
theorem putP1_iff {f : Stt → Option Bool} : ∀ (l : List Stt) (f : Stt → Option Bool) (y : Stt), ((putP1 f l) y).getD false = true ↔ y ∈ l ∨ (f y).getD false = true := by
  intro l
  induction l with
  | nil => intro f y; simp [putP1]
  | cons a l ih =>
    intro f y
    show ((putP1 (updP f a true) l) y).getD false = true ↔ _
    rw [ih]
    unfold updP
    by_cases e : y = a
    · simp [e]
    · simp [e]
theorem putP1_succ (f : Stt → Option Bool) (l : List Stt) {i : Nat} {y : Stt} (h : l[i]? = some y) : updP (putP1 f (l.take i)) y true = putP1 f (l.take (i + 1)) := by
  obtain ⟨hi, he⟩ := List.getElem?_eq_some_iff.1 h
  rw [List.take_succ_eq_append_getElem hi, he]
  unfold putP1
  rw [List.foldl_append]
  rfl
section
variable {N : Nat} {nx : Nat → Nat} {mt : Nat → Option Nat} (h : Glue N nx mt) {pl : Nat → Stt} {L : Nat → Nat}
include h
theorem GlueP.old {e : Nat} {f : Stt → Option Bool} (hf : GlueP nx mt pl L e f) (hL : ∀ k, k ≤ e → L k < N) (hs : Cyc (gs nx mt) (L e) → SeenL (gs nx mt) nx L e (L e)) : GlueP nx mt pl L (e + 1) f := fun x z hz => by
  rw [hf x z hz, SeenL.old h.rv hL hs (h.mt_lt _ _ hz).1]
theorem GlueP.new {e : Nat} {f : Stt → Option Bool} (hf : GlueP nx mt pl L e f) (hL : L e < N) (hinj : ∀ x y z z', mt x = some z → mt y = some z' → pl x = pl y → x = y) (c : Cyc (gs nx mt) (L e)) :
    GlueP nx mt pl L (e + 1) (putP1 f ((metI nx mt (L e) (perS (gs nx mt) (L e))).map pl)) := fun x z hz => by
  have hx := (h.mt_lt _ _ hz).1
  rw [putP1_iff (f := f), SeenL.new c, hf x z hz]
  have hd : ∀ u, u < perS (gs nx mt) (L e) → ∃ y, iter (gs nx mt) u (L e) = some y := fun u hu => perS_def c (by omega)
  have hmated : ∀ q, q ∈ metI nx mt (L e) (perS (gs nx mt) (L e)) → ∃ z, mt q = some z := by
    intro q hq
    obtain ⟨u, y, hu, hy, rfl | rfl⟩ := (metI_mem hd).1 hq
    · exact h.cyc_mt (c.on ⟨u, hy⟩).2
    · have hyv := h.rv.steps.iter_stay u _ y hL hy
      exact h.cyc_mt (h.rv.cyc_r hyv (c.on ⟨u, hy⟩).2)
  have key : pl x ∈ (metI nx mt (L e) (perS (gs nx mt) (L e))).map pl ↔ Same (gs nx mt) nx (L e) x := by
    rw [List.mem_map]
    constructor
    · rintro ⟨q, hq, he⟩
      obtain ⟨z', hz'⟩ := hmated q hq
      have : q = x := hinj q x z' z hz' hz he
      subst this
      obtain ⟨u, y, hu, hy, rfl | rfl⟩ := (metI_mem hd).1 hq
      · exact .inl ⟨u, hy⟩
      · refine .inr ⟨u, ?_⟩
        rw [h.nx_nx y (h.rv.steps.iter_stay u _ y hL hy)]
        exact hy
    · rintro (o | o)
      · obtain ⟨u, hu, hy⟩ := (perS_on c).1 o
        exact ⟨x, (metI_mem hd).2 ⟨u, x, hu, hy, .inl rfl⟩, rfl⟩
      · obtain ⟨u, hu, hy⟩ := (perS_on c).1 o
        exact ⟨x, (metI_mem hd).2 ⟨u, nx x, hu, hy, .inr (h.nx_nx x hx).symm⟩, rfl⟩
  rw [key]
  exact Or.comm
end
theorem Glue.way_le {N : Nat} {nx : Nat → Nat} {mt : Nat → Option Nat} (h : Glue N nx mt) {x t y : Nat} (hx : x < N) (hy : iter (gs nx mt) t x = some y) (hn : ∀ u, 0 < u → u ≤ t → iter (gs nx mt) u x ≠ some x) : t ≤ N := by
  rcases h.rv.steps.ends_or_returns hx with ⟨k, z, hk, e, hz⟩ | ⟨k, h1, h2, e⟩
  · apply Nat.le_of_not_lt
    intro hlt
    obtain ⟨v, hv⟩ := iter_lt hy (k + 1) (by omega)
    obtain ⟨v', hv', hv2⟩ := iter_pred hv
    rw [e] at hv'
    cases hv'
    rw [hz] at hv2
    cases hv2
  · apply Nat.le_of_not_lt
    intro hlt
    exact hn k h1 (by omega) e
theorem perS_eq {α : Type} {s : α → Option α} {x : α} {t : Nat} (ht : 0 < t) (e : iter s t x = some x) (hn : ∀ u, 0 < u → u < t → iter s u x ≠ some x) : Cyc s x ∧ perS s x = t := by
  have c : Cyc s x := ⟨t, ht, e⟩
  obtain ⟨h1, h2, h3⟩ := perS_spec c
  refine ⟨c, ?_⟩
  rcases Nat.lt_trichotomy (perS s x) t with h | h | h
  · exact absurd h2 (hn _ h1 h)
  · exact h
  · exact absurd e (h3 t ht h)
theorem plR_bd {n m N : Nat} (hN : N = 2 * n + 2 * m) (x : Nat) : (plR n m N x).1 ≤ 3 ∧ (plR n m N x).2 ≤ N := by
  unfold plR
  split
  · exact ⟨by show 1 ≤ 3; omega, by show x - m ≤ N; omega⟩
  · exact ⟨Nat.le_refl 3, by show N - 1 - x ≤ N; omega⟩
end Go.Proofs.Ytfpcfolcdpdomaa
