/- Grids that are turned or flipped have turned or flipped beams: plain facts. -/
import Derived.Test.YtmlenaelijchjaaMakeW
namespace Go.Proofs.Ytmlenaelijchjaa
set_option linter.unusedVariables false
set_option linter.unusedSimpArgs false
set_option linter.unusedSectionVars false

/-- T leads the states of one grid to those of another one, and τ its ports. -/
structure Gr.Iso (g g' : Gr) (T : Stt → Stt) (τ : Nat → Nat) : Prop where
  val : ∀ x, g.val x → g'.val (T x)
  nx : ∀ x, g.val x → g'.nx (T x) = (g.nx x).map T
  rev : ∀ x, g.val x → g'.rev (T x) = T (g.rev x)
  port : ∀ p, p < g.ports → τ p < g'.ports
  ent : ∀ p, p < g.ports → g'.ent (τ p) = T (g.ent p)

section
variable {g g' : Gr} (hg : g.ok) (hg' : g'.ok) {T : Stt → Stt} {τ : Nat → Nat} (h : g.Iso g' T τ)
include hg hg' h
theorem Gr.Iso.iter : ∀ k x, g.val x → iter g'.nx k (T x) = (iter g.nx k x).map T := by
  intro k
  induction k with
  | zero => intro x _; rfl
  | succ k ih =>
    intro x hx
    show (Proofs.Ytmlenaelijchjaa.iter g'.nx k (T x)).bind g'.nx = ((Proofs.Ytmlenaelijchjaa.iter g.nx k x).bind g.nx).map T
    rw [ih x hx]
    cases hz : Proofs.Ytmlenaelijchjaa.iter g.nx k x with
    | none => rfl
    | some z => exact h.nx z ((Gr.steps hg).iter_stay k x z hx hz)
theorem Gr.Iso.out {y : Stt} (hy : g.val y) (e : g.nx y = none) : g'.out (T y) = τ (g.out y) := by
  have e' : g'.nx (T y) = none := by rw [h.nx y hy, e]; rfl
  obtain ⟨h1, h2⟩ := Gr.ent_out hg hy e
  obtain ⟨h3, h4⟩ := Gr.ent_out hg' (h.val y hy) e'
  have h5 : g'.ent (g'.out (T y)) = g'.ent (τ (g.out y)) := by rw [h4, h.rev y hy, h.ent _ h1, h2]
  rw [← (Gr.out_ent hg' h3).2, h5, (Gr.out_ent hg' (h.port _ h1)).2]
theorem Gr.Iso.beam {p K : Nat} {y : Stt} (hp : p < g.ports) (hB : g.Beam p K y) : g'.Beam (τ p) K (T y) := by
  have hv := Gr.ent_val hg hp
  refine ⟨hB.lt, ?_, ?_⟩
  · rw [h.ent p hp, Gr.Iso.iter hg hg' h K _ hv, hB.way]; rfl
  · rw [h.nx y (Gr.beam_val hg hp hB), hB.last]; rfl
theorem Gr.Iso.endOf {p : Nat} (hp : p < g.ports) : g'.endOf (τ p) = τ (g.endOf p) := by
  obtain ⟨K, y, hB⟩ := Gr.beam_of hg hp
  rw [Gr.endOf_eq hB, Gr.endOf_eq (Gr.Iso.beam hg hg' h hp hB), Gr.Iso.out hg hg' h (Gr.beam_val hg hp hB) hB.last]
end

/-- A quarter to the right. -/
def turnT (g : Gr) (x : Stt) : Stt := (x.1 % g.m * g.n + (g.n - 1 - x.1 / g.m), (x.2 + 1) % 4)
def turnP (g : Gr) (p : Nat) : Nat := (p + g.n) % g.ports
theorem bend_turn {c : Int} (hc : letB c = true) {d : Nat} (h : d < 4) : bend (exch c) ((d + 1) % 4) = (bend c d + 1) % 4 := by
  simp [letB] at hc
  have : d = 0 ∨ d = 1 ∨ d = 2 ∨ d = 3 := by omega
  rcases hc with (rfl | rfl) | rfl <;> rcases this with rfl | rfl | rfl | rfl <;> rfl
theorem opp_turn {d : Nat} (h : d < 4) : opp ((d + 1) % 4) = (opp d + 1) % 4 := by
  have : d = 0 ∨ d = 1 ∨ d = 2 ∨ d = 3 := by omega
  rcases this with rfl | rfl | rfl | rfl <;> rfl
structure Gr.Turned (g g' : Gr) : Prop where
  n : g'.n = g.m
  m : g'.m = g.n
  lt : ∀ i k, i < g.n → k < g.m → g'.lt k (g.n - 1 - i) = exch (g.lt i k)

section
variable {g g' : Gr} (hg : g.ok) (hg' : g'.ok) (h : g.Turned g')
include hg hg' h
theorem Gr.Turned.parts {x : Stt} (hx : g.val x) : (turnT g x).1 / g'.m = x.1 % g.m ∧ (turnT g x).1 % g'.m = g.n - 1 - x.1 / g.m ∧ g'.dir (turnT g x) = (g.dir x + 1) % 4 ∧ g'.val (turnT g x) := by
  have hi := Gr.row_lt hg hx.1
  have hk := Gr.col_lt hg x.1
  have hk' : g.n - 1 - x.1 / g.m < g'.m := by
    rw [h.m]
    have := hg.n1
    exact Nat.lt_of_le_of_lt (Nat.sub_le _ _) (by omega)
  have e : (turnT g x).1 = x.1 % g.m * g'.m + (g.n - 1 - x.1 / g.m) := by rw [h.m]; rfl
  have e1 : (turnT g x).1 / g'.m = x.1 % g.m := by rw [e, Gr.div_of hg' hk']
  have e2 : (turnT g x).1 % g'.m = g.n - 1 - x.1 / g.m := by rw [e, Gr.mod_of hg' hk']
  refine ⟨e1, e2, ?_, ?_, ?_⟩
  · show bend (g'.lt ((turnT g x).1 / g'.m) ((turnT g x).1 % g'.m)) ((x.2 + 1) % 4) = _
    rw [e1, e2, h.lt _ _ hi hk, bend_turn (hg.let' _ _ hi hk) hx.2]
    rfl
  · rw [e]
    exact Gr.cell_lt hg' (by rw [h.n]; exact hk) hk'
  · show (x.2 + 1) % 4 < 4
    omega
theorem Gr.Turned.iso : g.Iso g' (turnT g) (turnP g) where
  val := fun x hx => (Gr.Turned.parts hg hg' h hx).2.2.2
  nx := fun x hx => by
    obtain ⟨p1, p2, p3, _⟩ := Gr.Turned.parts hg hg' h hx
    have hi := Gr.row_lt hg hx.1
    have hk := Gr.col_lt hg x.1
    have hc := Gr.cell_eq hg x.1
    have hD := Gr.dir_lt hx
    have e : (turnT g x).1 = x.1 % g.m * g.n + (g.n - 1 - x.1 / g.m) := rfl
    have d1 : ∀ i k, k < g.m → (i * g.m + k) / g.m = i := fun i k hk => Gr.div_of hg hk
    have d2 : ∀ i k, k < g.m → (i * g.m + k) % g.m = k := fun i k hk => Gr.mod_of hg hk
    have hn := hg.n1
    have hm := hg.m1
    have hT : ∀ i k d, k < g.m → turnT g (i * g.m + k, d) = (k * g.n + (g.n - 1 - i), (d + 1) % 4) := fun i k d hk => by
      show (((i * g.m + k) % g.m) * g.n + (g.n - 1 - (i * g.m + k) / g.m), (d + 1) % 4) = _
      rw [d1 i k hk, d2 i k hk]
    unfold Gr.nx
    rw [p1, p2, p3, h.m, h.n, e]
    clear p1 p2 p3
    generalize hI : x.1 / g.m = i at *
    generalize hK : x.1 % g.m = k at *
    rw [← hc]
    have hD4 : g.dir x = 0 ∨ g.dir x = 1 ∨ g.dir x = 2 ∨ g.dir x = 3 := by omega
    rcases hD4 with hd | hd | hd | hd <;> rw [hd]
    · by_cases h0 : i = 0
      · subst h0; simp
      · have c1 : ¬ g.n - 1 - i = g.n - 1 := by omega
        have e2 : i * g.m + k - g.m = (i - 1) * g.m + k := by
          have : 1 * g.m ≤ i * g.m := Nat.mul_le_mul_right _ (by omega)
          rw [Nat.sub_mul]; omega
        simp [h0, c1]
        rw [e2, hT _ _ _ hk]
        refine Prod.ext ?_ rfl
        show k * g.n + (g.n - 1 - i) + 1 = k * g.n + (g.n - 1 - (i - 1))
        omega
    · by_cases h0 : k = g.m - 1
      · simp [h0]
      · simp [h0]
        rw [show i * g.m + k + 1 = i * g.m + (k + 1) by omega, hT _ _ _ (by omega)]
        refine Prod.ext ?_ rfl
        show k * g.n + (g.n - 1 - i) + g.n = (k + 1) * g.n + (g.n - 1 - i)
        rw [Nat.succ_mul]; omega
    · by_cases h0 : i = g.n - 1
      · have c1 : g.n - 1 - i = 0 := by omega
        simp [h0]
      · have c1 : ¬ g.n - 1 - i = 0 := by omega
        simp [h0, c1]
        rw [show i * g.m + k + g.m = (i + 1) * g.m + k by rw [Nat.succ_mul]; omega, hT _ _ _ hk]
        refine Prod.ext ?_ rfl
        show k * g.n + (g.n - 1 - i) - 1 = k * g.n + (g.n - 1 - (i + 1))
        omega
    · by_cases h0 : k = 0
      · simp [h0]
      · simp [h0]
        rw [show i * g.m + k - 1 = i * g.m + (k - 1) by omega, hT _ _ _ (by omega)]
        refine Prod.ext ?_ rfl
        show k * g.n + (g.n - 1 - i) - g.n = (k - 1) * g.n + (g.n - 1 - i)
        have : 1 * g.n ≤ k * g.n := Nat.mul_le_mul_right _ (by omega)
        rw [Nat.sub_mul]; omega
  rev := fun x hx => by
    obtain ⟨_, _, p3, _⟩ := Gr.Turned.parts hg hg' h hx
    show ((turnT g x).1, opp (g'.dir (turnT g x))) = turnT g (x.1, opp (g.dir x))
    rw [p3, opp_turn (Gr.dir_lt hx)]
    rfl
  port := fun p hp => by
    have : g'.ports = g.ports := by unfold Gr.ports; rw [h.n, h.m]; omega
    rw [this]
    exact Nat.mod_lt _ (by omega)
  ent := fun p hp => by
    have hn := hg.n1
    have hm := hg.m1
    obtain ⟨e1, hi, hk, _⟩ := Gr.en3_ent hg hp
    have hP : g'.ports = g.ports := by unfold Gr.ports; rw [h.n, h.m]; omega
    have hq : turnP g p < g'.ports := by rw [hP]; exact Nat.mod_lt _ (by omega)
    obtain ⟨e2, _, _, _⟩ := Gr.en3_ent hg' hq
    rw [e1, e2]
    show _ = ((((en3 g.n g.m p).1 * g.m + (en3 g.n g.m p).2.1) % g.m) * g.n + (g.n - 1 - ((en3 g.n g.m p).1 * g.m + (en3 g.n g.m p).2.1) / g.m), ((en3 g.n g.m p).2.2 + 1) % 4)
    rw [Gr.div_of hg hk, Gr.mod_of hg hk, h.n, h.m]
    clear e1 e2 hi hk hq hP
    unfold Gr.ports at hp
    have hmod : turnP g p = if p < 2 * g.m + g.n then p + g.n else p + g.n - (2 * g.n + 2 * g.m) := by
      show (p + g.n) % (2 * g.n + 2 * g.m) = _
      split
      · exact Nat.mod_eq_of_lt (by omega)
      · rw [Nat.mod_eq_sub_mod (by omega)]
        exact Nat.mod_eq_of_lt (by omega)
    rw [hmod]
    clear hmod
    have key : ∀ a b : Nat × Nat × Nat, a = b → (a.1 * g.n + a.2.1, a.2.2) = (b.1 * g.n + b.2.1, b.2.2) := fun a b e => by rw [e]
    have goal : en3 g.m g.n (if p < 2 * g.m + g.n then p + g.n else p + g.n - (2 * g.n + 2 * g.m)) = ((en3 g.n g.m p).2.1, g.n - 1 - (en3 g.n g.m p).1, ((en3 g.n g.m p).2.2 + 1) % 4) := by
      unfold en3
      by_cases c1 : p < g.m
      · rw [if_pos (show p < 2 * g.m + g.n by omega), if_neg (by omega), if_pos (by omega), if_pos c1]
        simp
      · by_cases c2 : p < g.m + g.n
        · rw [if_pos (show p < 2 * g.m + g.n by omega), if_neg (by omega), if_neg (by omega), if_pos (by omega), if_neg c1, if_pos c2]
          simp; omega
        · by_cases c3 : p < 2 * g.m + g.n
          · rw [if_pos c3, if_neg (by omega), if_neg (by omega), if_neg (by omega), if_neg c1, if_neg c2, if_pos c3]
            simp; omega
          · rw [if_neg c3, if_pos (by omega), if_neg c1, if_neg c2, if_neg c3]
            simp; omega
    exact key _ _ goal
end

/-- Seen from behind. -/
def flipD (d : Nat) : Nat := (4 - d) % 4
def flipT (g : Gr) (x : Stt) : Stt := (x.1 / g.m * g.m + (g.m - 1 - x.1 % g.m), flipD x.2)
def flipP (g : Gr) (p : Nat) : Nat := (g.m + g.ports - 1 - p) % g.ports
theorem bend_flip {c : Int} (hc : letB c = true) {d : Nat} (h : d < 4) : bend (exch c) (flipD d) = flipD (bend c d) := by
  simp [letB] at hc
  have : d = 0 ∨ d = 1 ∨ d = 2 ∨ d = 3 := by omega
  rcases hc with (rfl | rfl) | rfl <;> rcases this with rfl | rfl | rfl | rfl <;> rfl
theorem opp_flip {d : Nat} (h : d < 4) : opp (flipD d) = flipD (opp d) := by
  have : d = 0 ∨ d = 1 ∨ d = 2 ∨ d = 3 := by omega
  rcases this with rfl | rfl | rfl | rfl <;> rfl
structure Gr.Flipped (g g' : Gr) : Prop where
  n : g'.n = g.n
  m : g'.m = g.m
  lt : ∀ i k, i < g.n → k < g.m → g'.lt i (g.m - 1 - k) = exch (g.lt i k)

section
variable {g g' : Gr} (hg : g.ok) (hg' : g'.ok) (h : g.Flipped g')
include hg hg' h
theorem Gr.Flipped.parts {x : Stt} (hx : g.val x) : (flipT g x).1 / g'.m = x.1 / g.m ∧ (flipT g x).1 % g'.m = g.m - 1 - x.1 % g.m ∧ g'.dir (flipT g x) = flipD (g.dir x) ∧ g'.val (flipT g x) := by
  have hi := Gr.row_lt hg hx.1
  have hk := Gr.col_lt hg x.1
  have hk' : g.m - 1 - x.1 % g.m < g'.m := by
    rw [h.m]
    have := hg.m1
    exact Nat.lt_of_le_of_lt (Nat.sub_le _ _) (by omega)
  have e : (flipT g x).1 = x.1 / g.m * g'.m + (g.m - 1 - x.1 % g.m) := by rw [h.m]; rfl
  have e1 : (flipT g x).1 / g'.m = x.1 / g.m := by rw [e, Gr.div_of hg' hk']
  have e2 : (flipT g x).1 % g'.m = g.m - 1 - x.1 % g.m := by rw [e, Gr.mod_of hg' hk']
  refine ⟨e1, e2, ?_, ?_, ?_⟩
  · show bend (g'.lt ((flipT g x).1 / g'.m) ((flipT g x).1 % g'.m)) (flipD x.2) = _
    rw [e1, e2, h.lt _ _ hi hk, bend_flip (hg.let' _ _ hi hk) hx.2]
    rfl
  · rw [e]
    exact Gr.cell_lt hg' (by rw [h.n]; exact hi) hk'
  · show (4 - x.2) % 4 < 4
    omega
theorem Gr.Flipped.iso : g.Iso g' (flipT g) (flipP g) where
  val := fun x hx => (Gr.Flipped.parts hg hg' h hx).2.2.2
  nx := fun x hx => by
    obtain ⟨p1, p2, p3, _⟩ := Gr.Flipped.parts hg hg' h hx
    have hi := Gr.row_lt hg hx.1
    have hk := Gr.col_lt hg x.1
    have hc := Gr.cell_eq hg x.1
    have hD := Gr.dir_lt hx
    have e : (flipT g x).1 = x.1 / g.m * g.m + (g.m - 1 - x.1 % g.m) := rfl
    have hn := hg.n1
    have hm := hg.m1
    have hT : ∀ i k d, k < g.m → flipT g (i * g.m + k, d) = (i * g.m + (g.m - 1 - k), flipD d) := fun i k d hk => by
      show (((i * g.m + k) / g.m) * g.m + (g.m - 1 - (i * g.m + k) % g.m), flipD d) = _
      rw [Gr.div_of hg hk, Gr.mod_of hg hk]
    unfold Gr.nx
    rw [p1, p2, p3, h.m, h.n, e]
    clear p1 p2 p3
    generalize hI : x.1 / g.m = i at *
    generalize hK : x.1 % g.m = k at *
    rw [← hc]
    have hD4 : g.dir x = 0 ∨ g.dir x = 1 ∨ g.dir x = 2 ∨ g.dir x = 3 := by omega
    rcases hD4 with hd | hd | hd | hd <;> rw [hd]
    · by_cases h0 : i = 0
      · subst h0; simp [flipD]
      · have e2 : i * g.m + k - g.m = (i - 1) * g.m + k := by
          have : 1 * g.m ≤ i * g.m := Nat.mul_le_mul_right _ (by omega)
          rw [Nat.sub_mul]; omega
        simp [h0, flipD]
        rw [e2, hT _ _ _ hk]
        refine Prod.ext ?_ rfl
        show i * g.m + (g.m - 1 - k) - g.m = (i - 1) * g.m + (g.m - 1 - k)
        have : 1 * g.m ≤ i * g.m := Nat.mul_le_mul_right _ (by omega)
        rw [Nat.sub_mul]; omega
    · by_cases h0 : k = g.m - 1
      · simp [h0, flipD]
      · have c1 : ¬ g.m - 1 - k = 0 := by omega
        simp [h0, flipD, c1]
        rw [show i * g.m + k + 1 = i * g.m + (k + 1) by omega, hT _ _ _ (by omega)]
        refine Prod.ext ?_ rfl
        show i * g.m + (g.m - 1 - k) - 1 = i * g.m + (g.m - 1 - (k + 1))
        omega
    · by_cases h0 : i = g.n - 1
      · simp [h0, flipD]
      · simp [h0, flipD]
        rw [show i * g.m + k + g.m = (i + 1) * g.m + k by rw [Nat.succ_mul]; omega, hT _ _ _ hk]
        refine Prod.ext ?_ rfl
        show i * g.m + (g.m - 1 - k) + g.m = (i + 1) * g.m + (g.m - 1 - k)
        rw [Nat.succ_mul]; omega
    · by_cases h0 : k = 0
      · simp [h0, flipD]
      · have c1 : ¬ g.m - 1 - k = g.m - 1 := by omega
        simp [h0, flipD, c1]
        rw [show i * g.m + k - 1 = i * g.m + (k - 1) by omega, hT _ _ _ (by omega)]
        refine Prod.ext ?_ rfl
        show i * g.m + (g.m - 1 - k) + 1 = i * g.m + (g.m - 1 - (k - 1))
        omega
  rev := fun x hx => by
    obtain ⟨_, _, p3, _⟩ := Gr.Flipped.parts hg hg' h hx
    show ((flipT g x).1, opp (g'.dir (flipT g x))) = flipT g (x.1, opp (g.dir x))
    rw [p3, opp_flip (Gr.dir_lt hx)]
    rfl
  port := fun p hp => by
    have : g'.ports = g.ports := by unfold Gr.ports; rw [h.n, h.m]
    rw [this]
    exact Nat.mod_lt _ (by omega)
  ent := fun p hp => by
    have hn := hg.n1
    have hm := hg.m1
    obtain ⟨e1, hi, hk, _⟩ := Gr.en3_ent hg hp
    have hP : g'.ports = g.ports := by unfold Gr.ports; rw [h.n, h.m]
    have hq : flipP g p < g'.ports := by rw [hP]; exact Nat.mod_lt _ (by omega)
    obtain ⟨e2, _, _, _⟩ := Gr.en3_ent hg' hq
    rw [e1, e2]
    show _ = (((en3 g.n g.m p).1 * g.m + (en3 g.n g.m p).2.1) / g.m * g.m + (g.m - 1 - ((en3 g.n g.m p).1 * g.m + (en3 g.n g.m p).2.1) % g.m), flipD (en3 g.n g.m p).2.2)
    rw [Gr.div_of hg hk, Gr.mod_of hg hk, h.n, h.m]
    clear e1 e2 hi hk hq hP
    unfold Gr.ports at hp
    have hmod : flipP g p = if p < g.m then g.m - 1 - p else g.m + (2 * g.n + 2 * g.m) - 1 - p := by
      show (g.m + (2 * g.n + 2 * g.m) - 1 - p) % (2 * g.n + 2 * g.m) = _
      split
      · rw [Nat.mod_eq_sub_mod (by omega), Nat.mod_eq_of_lt (by omega)]
        omega
      · exact Nat.mod_eq_of_lt (by omega)
    rw [hmod]
    clear hmod
    have key : ∀ a b : Nat × Nat × Nat, a = b → (a.1 * g.m + a.2.1, a.2.2) = (b.1 * g.m + b.2.1, b.2.2) := fun a b e => by rw [e]
    have goal : en3 g.n g.m (if p < g.m then g.m - 1 - p else g.m + (2 * g.n + 2 * g.m) - 1 - p) = ((en3 g.n g.m p).1, g.m - 1 - (en3 g.n g.m p).2.1, flipD (en3 g.n g.m p).2.2) := by
      unfold en3
      by_cases c1 : p < g.m
      · rw [if_pos c1, if_pos (by omega), if_pos c1]
        simp [flipD]
      · rw [if_neg c1]
        by_cases c2 : p < g.m + g.n
        · rw [if_neg (by omega), if_neg (by omega), if_neg (by omega), if_neg c1, if_pos c2]
          simp [flipD]; omega
        · by_cases c3 : p < 2 * g.m + g.n
          · rw [if_neg (by omega), if_neg (by omega), if_pos (by omega), if_neg c1, if_neg c2, if_pos c3]
            simp [flipD]; omega
          · rw [if_neg (by omega), if_pos (by omega), if_neg c1, if_neg c2, if_neg c3]
            simp [flipD]; omega
    exact key _ _ goal
end
end Go.Proofs.Ytmlenaelijchjaa
