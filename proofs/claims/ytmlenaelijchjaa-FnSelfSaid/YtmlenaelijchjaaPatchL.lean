/- What a cell's letter does to beams and rounds: plain facts. -/
import Derived.Test.YtmlenaelijchjaaRoundL
import Derived.Test.YtmlenaelijchjaaMakeW
import Derived.Test.YtmlenaelijchjaaRounds3W
namespace Go.Proofs.Ytmlenaelijchjaa
set_option linter.unusedVariables false
set_option linter.unusedSimpArgs false
set_option linter.unusedSectionVars false

/-- g' is g0 with the letter L in the cell c, which is empty in g0. -/
structure Gr.Pat (g0 g' : Gr) (c : Nat) (L : Int) : Prop where
  ok0 : g0.ok
  ok' : g'.ok
  lt : c < g0.n * g0.m
  dot : g0.lt (c / g0.m) (c % g0.m) = 46
  n : g'.n = g0.n
  m : g'.m = g0.m
  at' : ∀ i k, i < g0.n → k < g0.m → g'.lt i k = if i * g0.m + k = c then L else g0.lt i k

/-- The state whose way on in g0 is that in g'. -/
def beta (c : Nat) (L : Int) (x : Stt) : Stt := if x.1 = c then (c, bend L x.2) else x
theorem bend_dot (d : Nat) : bend 46 d = d := by unfold bend; simp
section
variable {g0 g' : Gr} {c : Nat} {L : Int} (h : g0.Pat g' c L)
include h
theorem Gr.Pat.val {x : Stt} : g'.val x ↔ g0.val x := by unfold Gr.val; rw [h.n, h.m]
theorem Gr.Pat.ports : g'.ports = g0.ports := by unfold Gr.ports; rw [h.n, h.m]
theorem Gr.Pat.ent (p : Nat) : g'.ent p = g0.ent p := by unfold Gr.ent; rw [h.n, h.m]
theorem Gr.Pat.dir {x : Stt} (hx : g0.val x) : g'.dir x = if x.1 = c then bend L x.2 else g0.dir x := by
  unfold Gr.dir
  rw [h.m, h.at' _ _ (Gr.row_lt h.ok0 hx.1) (Gr.col_lt h.ok0 x.1), Gr.cell_eq h.ok0 x.1]
  split <;> rfl
theorem Gr.Pat.dir0 (d : Nat) : g0.dir (c, d) = d := by
  show bend (g0.lt (c / g0.m) (c % g0.m)) d = d
  rw [h.dot, bend_dot]
theorem Gr.Pat.dirb {x : Stt} (hx : g0.val x) : g'.dir x = g0.dir (beta c L x) := by
  rw [h.dir hx]
  unfold beta
  split
  · rw [h.dir0]
  · rfl
theorem Gr.Pat.b1 (x : Stt) : (beta c L x).1 = x.1 := by
  unfold beta
  split
  · rename_i e; exact e.symm
  · rfl
theorem Gr.Pat.nx {x : Stt} (hx : g0.val x) : g'.nx x = g0.nx (beta c L x) := by
  unfold Gr.nx
  rw [h.dirb hx, h.n, h.m, h.b1]
theorem Gr.Pat.out {x : Stt} (hx : g0.val x) : g'.out x = g0.out (beta c L x) := by
  unfold Gr.out
  rw [h.dirb hx, h.n, h.m, h.b1]
theorem Gr.Pat.rev {x : Stt} (hx : g0.val x) (hc : x.1 ≠ c) : g'.rev x = g0.rev x := by
  unfold Gr.rev
  rw [h.dir hx, if_neg hc]
theorem Gr.Pat.revc {d : Nat} (hd : d < 4) : g'.rev (c, d) = (c, opp (bend L d)) := by
  unfold Gr.rev
  rw [h.dir ⟨h.lt, hd⟩, if_pos rfl]
theorem Gr.Pat.rev0 (d : Nat) : g0.rev (c, d) = (c, opp d) := by
  unfold Gr.rev
  rw [h.dir0]
/-- Ways that do not come to the cell are the same. -/
theorem Gr.Pat.far : ∀ k x, g0.val x → (∀ j z, j < k → iter g0.nx j x = some z → z.1 ≠ c) → iter g'.nx k x = iter g0.nx k x := by
  intro k
  induction k with
  | zero => intro x _ _; rfl
  | succ k ih =>
    intro x hx hn
    show (iter g'.nx k x).bind g'.nx = (iter g0.nx k x).bind g0.nx
    rw [ih x hx fun j z hj => hn j z (by omega)]
    cases hz : iter g0.nx k x with
    | none => rfl
    | some z =>
      show g'.nx z = g0.nx z
      rw [h.nx ((Gr.steps h.ok0).iter_stay k x z hx hz)]
      unfold beta
      rw [if_neg (hn k z (by omega) hz)]
theorem Gr.Pat.far' : ∀ k x, g0.val x → (∀ j z, j < k → iter g'.nx j x = some z → z.1 ≠ c) → iter g'.nx k x = iter g0.nx k x := by
  intro k
  induction k with
  | zero => intro x _ _; rfl
  | succ k ih =>
    intro x hx hn
    have e := ih x hx fun j z hj => hn j z (by omega)
    show (iter g'.nx k x).bind g'.nx = (iter g0.nx k x).bind g0.nx
    rw [← e]
    cases hz : iter g'.nx k x with
    | none => rfl
    | some z =>
      show g'.nx z = g0.nx z
      rw [h.nx ((Gr.steps h.ok0).iter_stay k x z hx (by rw [← e]; exact hz))]
      unfold beta
      rw [if_neg (hn k z (by omega) hz)]
theorem Gr.Pat.bval {x : Stt} (hx : g0.val x) : g0.val (beta c L x) := by
  unfold beta
  split
  · exact ⟨h.lt, bend_lt _ hx.2⟩
  · exact hx
/-- The way on from a state. -/
theorem Gr.Pat.near {x : Stt} (hx : g0.val x) : ∀ k, (∀ j z, 0 < j → j < k → iter g0.nx j (beta c L x) = some z → z.1 ≠ c) → 0 < k → iter g'.nx k x = iter g0.nx k (beta c L x) := by
  intro k hn hk
  obtain ⟨k, rfl⟩ : ∃ q, k = q + 1 := ⟨k - 1, by omega⟩
  rw [iter_succ', iter_succ', h.nx hx]
  cases hz : g0.nx (beta c L x) with
  | none => rfl
  | some z =>
    show iter g'.nx k z = iter g0.nx k z
    refine h.far k z (Gr.nx_val h.ok0 (h.bval hx) hz) fun j y hj hy => hn (j + 1) y (by omega) (by omega) ?_
    rw [iter_succ', hz]
    exact hy
theorem Gr.Pat.near' {x : Stt} (hx : g0.val x) : ∀ k, (∀ j z, 0 < j → j < k → iter g'.nx j x = some z → z.1 ≠ c) → 0 < k → iter g'.nx k x = iter g0.nx k (beta c L x) := by
  intro k hn hk
  obtain ⟨k, rfl⟩ : ∃ q, k = q + 1 := ⟨k - 1, by omega⟩
  rw [iter_succ', iter_succ', h.nx hx]
  cases hz : g0.nx (beta c L x) with
  | none => rfl
  | some z =>
    show iter g'.nx k z = iter g0.nx k z
    refine h.far' k z (Gr.nx_val h.ok0 (h.bval hx) hz) fun j y hj hy => hn (j + 1) y (by omega) (by omega) ?_
    rw [iter_succ', h.nx hx, hz]
    exact hy
/-- The first return to the cell. -/
theorem Gr.Pat.fst {d : Nat} (hd : d < 4) {y : Stt} : Fst g'.nx (fun z => z.1 = c) (c, d) y ↔ Fst g0.nx (fun z => z.1 = c) (c, bend L d) y := by
  have hx : g0.val (c, d) := ⟨h.lt, hd⟩
  have hb : beta c L (c, d) = (c, bend L d) := by unfold beta; rw [if_pos rfl]
  constructor
  · rintro ⟨k, hk, e, hT, hn⟩
    have key : ∀ j, j ≤ k → 0 < j → iter g'.nx j (c, d) = iter g0.nx j (c, bend L d) := fun j hj h0 => by
      rw [← hb]
      exact h.near' hx j (fun i z hi hij hz => hn i z hi (by omega) hz) h0
    exact ⟨k, hk, by rw [← key k (Nat.le_refl _) hk]; exact e, hT, fun j z hj hjk hz => hn j z hj hjk (by rw [key j (by omega) hj]; exact hz)⟩
  · rintro ⟨k, hk, e, hT, hn⟩
    have key : ∀ j, j ≤ k → 0 < j → iter g'.nx j (c, d) = iter g0.nx j (c, bend L d) := fun j hj h0 => by
      rw [← hb]
      exact h.near hx j (fun i z hi hij hz => hn i z hi (by omega) (by rw [← hb]; exact hz)) h0
    exact ⟨k, hk, by rw [key k (Nat.le_refl _) hk]; exact e, hT, fun j z hj hjk hz => hn j z hj hjk (by rw [← key j (by omega) hj]; exact hz)⟩
end
theorem Fst.unique {α : Type} {s : α → Option α} {T : α → Prop} {x y z : α} (h : Fst s T x y) (h' : Fst s T x z) : y = z := by
  obtain ⟨k, hk, e, hT, hn⟩ := h
  obtain ⟨k', hk', e', hT', hn'⟩ := h'
  rcases Nat.lt_trichotomy k k' with hlt | rfl | hlt
  · exact absurd hT (hn' k y hk hlt e)
  · rw [e] at e'; exact Option.some.inj e'
  · exact absurd hT' (hn k' z hk' hlt e')
/-- A way that comes to the kind T comes to a first such state. -/
theorem Fst.of_iter {α : Type} {s : α → Option α} {T : α → Prop} {x z : α} {k : Nat} (hk : 0 < k) (e : iter s k x = some z) (hT : T z) : ∃ y, Fst s T x y := by
  obtain ⟨k', h1, h2, ⟨y, h3, h4⟩, h5⟩ := least_pos (fun k => ∃ y, iter s k x = some y ∧ T y) k hk ⟨z, e, hT⟩
  exact ⟨y, k', h1, h3, h4, fun j u hj hjk hu hTu => h5 j hj hjk ⟨u, hu, hTu⟩⟩

open Classical in
/-- Where one comes back to the cell c that one has left in the direction a: the direction, or 4. -/
noncomputable def Gr.rr (g : Gr) (c a : Nat) : Nat := if h : ∃ b, b < 4 ∧ Fst g.nx (fun z => z.1 = c) (c, a) (c, b) then h.choose else 4
noncomputable def Gr.rT (g : Gr) (c : Nat) : List Nat := [g.rr c 0, g.rr c 1, g.rr c 2, g.rr c 3]
theorem Gr.rT_get (g : Gr) (c : Nat) {a : Nat} (ha : a < 4) : (g.rT c).getD a 4 = g.rr c a := by
  have : a = 0 ∨ a = 1 ∨ a = 2 ∨ a = 3 := by omega
  rcases this with rfl | rfl | rfl | rfl <;> rfl
theorem Gr.rr_lt (g : Gr) (c a : Nat) : g.rr c a ≤ 4 := by
  unfold Gr.rr
  split
  · rename_i h; have := h.choose_spec.1; omega
  · exact Nat.le_refl _
theorem Gr.rr_iff {g : Gr} {c a b : Nat} (hb : b < 4) : g.rr c a = b ↔ Fst g.nx (fun z => z.1 = c) (c, a) (c, b) := by
  unfold Gr.rr
  constructor
  · intro e
    split at e
    · rename_i h
      have := h.choose_spec.2
      rw [e] at this
      exact this
    · omega
  · intro hf
    have hx : ∃ b, b < 4 ∧ Fst g.nx (fun z => z.1 = c) (c, a) (c, b) := ⟨b, hb, hf⟩
    rw [dif_pos hx]
    have := hx.choose_spec.2.unique hf
    exact congrArg Prod.snd this
/-- The steps from entering the cell to entering it again. -/
def s4 (T : List Nat) (L : Int) (d : Nat) : Option Nat := if T.getD (bend L d) 4 < 4 then some (T.getD (bend L d) 4) else none
def r4 (L : Int) (d : Nat) : Nat := opp (bend L d)
def valT (T : List Nat) : Bool := (List.range 4).all fun a => decide (T.getD a 4 < 4 → T.getD (opp (T.getD a 4)) 4 = opp a ∧ T.getD a 4 ≠ opp a)
def cnt4 (T : List Nat) (L : Int) : Nat := roundsN (s4 T L) (r4 L) 4
theorem s4_rv {T : List Nat} {L : Int} (hT : valT T = true) : Rv (s4 T L) (r4 L) (· < 4) id 4 where
  stay := fun x y hx e => by
    unfold s4 at e
    split at e
    · rename_i h; cases e; exact h
    · cases e
  rv := fun x hx => opp_lt _
  rr := fun x hx => by
    unfold r4
    rw [bend_opp _ hx, opp_opp hx]
  back := fun x y hx e => by
    unfold s4 at e
    split at e
    · rename_i h
      cases e
      have := (List.all_eq_true.1 hT) (bend L x) (List.mem_range.2 (bend_lt _ hx))
      rw [decide_eq_true_iff] at this
      have hv := (this h).1
      unfold s4 r4
      rw [bend_opp _ h, hv, if_pos (opp_lt _)]
    · cases e
  code_lt := fun x hx => hx
  code_inj := fun x y hx hy e => e

section
variable {g0 g' : Gr} {c : Nat} {L : Int} (h : g0.Pat g' c L)
include h
theorem Gr.Pat.back {a b : Nat} (ha : a < 4) (hb : b < 4) (e : g0.rr c a = b) : g0.rr c (opp b) = opp a := by
  rw [Gr.rr_iff hb] at e
  rw [Gr.rr_iff (opp_lt _)]
  obtain ⟨k, hk, e1, _, hn⟩ := e
  have hva : g0.val (c, a) := ⟨h.lt, ha⟩
  have hvb : g0.val (c, b) := ⟨h.lt, hb⟩
  have e2 := (Gr.rvs h.ok0).iter_back k _ _ hva e1
  rw [h.rev0, h.rev0] at e2
  refine ⟨k, hk, e2, rfl, fun j z hj hjk hz hT => ?_⟩
  obtain ⟨z, d⟩ := z
  simp only at hT
  subst hT
  have hzv := (Gr.rvs h.ok0).steps.iter_stay j _ _ (⟨h.lt, opp_lt _⟩ : g0.val (z, opp b)) hz
  -- from the start to z in j steps; so from z back to (c, b) in j steps, and from (c, a) to rev z in k - j steps
  have e3 := (Gr.rvs h.ok0).iter_back j _ _ (⟨h.lt, opp_lt _⟩ : g0.val (z, opp b)) hz
  rw [h.rev0, h.rev0, opp_opp hb] at e3
  obtain ⟨u, hu⟩ := iter_lt e1 (k - j) (by omega)
  have huv := (Gr.rvs h.ok0).steps.iter_stay (k - j) _ _ hva hu
  have e4 : iter g0.nx j u = some (z, b) := by
    have := e1
    rw [show k = (k - j) + j by omega, iter_add, hu] at this
    exact this
  have hinj := (Gr.steps h.ok0).back j u (z, opp d) (z, b) huv ⟨h.lt, opp_lt _⟩ 0 e4 (by rw [Nat.add_zero]; exact e3)
  have : u = (z, opp d) := (Option.some.inj hinj).symm
  rw [this] at hu
  exact hn (k - j) _ (by omega) (by omega) hu rfl
theorem Gr.Pat.valT : valT (g0.rT c) = true := by
  unfold Proofs.Ytmlenaelijchjaa.valT
  rw [List.all_eq_true]
  intro a ha
  have ha := List.mem_range.1 ha
  rw [decide_eq_true_iff, Gr.rT_get g0 c ha]
  intro hb
  refine ⟨?_, fun e => ?_⟩
  · rw [Gr.rT_get g0 c (opp_lt _)]
    exact h.back ha hb rfl
  · have hf := (Gr.rr_iff (opp_lt a)).1 e
    obtain ⟨k, hk, e1, _⟩ := hf
    have := Gr.no_turn h.ok0 k (c, a) ⟨h.lt, ha⟩
    rw [h.rev0] at this
    exact this e1
theorem Gr.Pat.rvs : Rv g'.nx g'.rev g'.val (fun x => 4 * x.1 + x.2) (4 * (g'.n * g'.m)) := Gr.rvs h.ok'
theorem Gr.Pat.s4_some {d y : Nat} (hd : d < 4) : s4 (g0.rT c) L d = some y ↔ y < 4 ∧ Fst g'.nx (fun z => z.1 = c) (c, d) (c, y) := by
  rw [h.fst hd]
  unfold s4
  rw [Gr.rT_get g0 c (bend_lt _ hd)]
  constructor
  · intro e
    split at e
    · rename_i hlt
      cases e
      exact ⟨hlt, (Gr.rr_iff hlt).1 rfl⟩
    · cases e
  · rintro ⟨hy, hf⟩
    rw [(Gr.rr_iff hy).2 hf, if_pos hy]
theorem Gr.Pat.s4_none {d : Nat} (hd : d < 4) (e : s4 (g0.rT c) L d = none) : ∀ k z, 0 < k → iter g'.nx k (c, d) = some z → z.1 ≠ c := by
  intro k z hk hz hT
  obtain ⟨y, hf⟩ := Fst.of_iter (T := fun z : Stt => z.1 = c) hk hz hT
  have hy : y.1 = c := by obtain ⟨_, _, _, h4, _⟩ := hf; exact h4
  have hyv : y.2 < 4 := by
    obtain ⟨k', _, e', _⟩ := hf
    exact ((Gr.steps h.ok').iter_stay k' _ _ (h.val.2 ⟨h.lt, hd⟩) e').2
  obtain ⟨y1, y2⟩ := y
  simp only at hy
  subst hy
  have := (h.s4_some hd).2 ⟨hyv, hf⟩
  rw [e] at this
  cases this
theorem Gr.Pat.contr : Contr g'.nx g'.rev g'.val (fun z => z.1 = c) (s4 (g0.rT c) L) (r4 L) (· < 4) (fun d => (c, d)) where
  val := fun x hx => ⟨h.val.2 ⟨h.lt, hx⟩, rfl⟩
  inj := fun x y _ _ e => congrArg Prod.snd e
  surj := fun y hy hT _ => ⟨y.2, hy.2, Prod.ext hT.symm rfl⟩
  nxt := fun x y hx e => ((h.s4_some hx).1 e).2
  stop := fun x hx e => by
    rintro ⟨k, hk, e1⟩
    exact h.s4_none hx e k _ hk e1 rfl
  rev := fun x hx _ => by
    rw [h.revc hx]
    exact On.refl _ _
/-- The rounds that come to the cell. -/
theorem Gr.Pat.meet {n : Nat} (hn : Num (fun x => (g'.val x ∧ Cyc g'.nx x) ∧ ∃ y, g'.val y ∧ y.1 = c ∧ Proofs.Ytmlenaelijchjaa.Same g'.nx g'.rev x y) (Proofs.Ytmlenaelijchjaa.Same g'.nx g'.rev) n) : n = cnt4 (g0.rT c) L :=
  Contr.rounds h.rvs (s4_rv h.valT) h.contr hn (roundsN_num (s4_rv h.valT))
/-- That a way does not come to the cell. -/
theorem Gr.Pat.miss {x : Stt} (hx : g'.val x) : (¬ ∃ y, g'.val y ∧ y.1 = c ∧ Proofs.Ytmlenaelijchjaa.Same g'.nx g'.rev x y) ↔ ∀ k z, iter g'.nx k x = some z → z.1 ≠ c := by
  constructor
  · intro hn k z hz e
    exact hn ⟨z, (Gr.steps h.ok').iter_stay k x z hx hz, e, .inl ⟨k, hz⟩⟩
  · rintro hn ⟨y, hy, e, ⟨k, hk⟩ | ⟨k, hk⟩⟩
    · exact hn k y hk e
    · exact hn k _ hk e
theorem Gr.Pat.same_away {x : Stt} (hx : g0.val x) (hn : ∀ k z, iter g'.nx k x = some z → z.1 ≠ c) : ∀ k, iter g'.nx k x = iter g0.nx k x :=
  fun k => h.far' k x hx fun j z _ hz => hn j z hz
theorem Gr.Pat.same_away' {x : Stt} (hx : g0.val x) (hn : ∀ k z, iter g0.nx k x = some z → z.1 ≠ c) : ∀ k, iter g'.nx k x = iter g0.nx k x :=
  fun k => h.far k x hx fun j z _ hz => hn j z hz
end
theorem Gr.Pat.zero {g0 g' : Gr} {c : Nat} {L : Int} (h : g0.Pat g' c L) : g0.Pat g0 c 46 :=
  ⟨h.ok0, h.ok0, h.lt, h.dot, rfl, rfl, fun i k hi hk => by
    split
    · rename_i e
      have := h.dot
      rw [← e, Gr.div_of h.ok0 hk, Gr.mod_of h.ok0 hk] at this
      exact this
    · rfl⟩
theorem Gr.Pat.rest {g0 g' : Gr} {c : Nat} {L : Int} (h : g0.Pat g' c L) {n : Nat} (hn : Num (fun x => (g0.val x ∧ Cyc g0.nx x) ∧ ¬ ∃ y, g0.val y ∧ y.1 = c ∧ Proofs.Ytmlenaelijchjaa.Same g0.nx g0.rev x y) (Proofs.Ytmlenaelijchjaa.Same g0.nx g0.rev) n) :
    Num (fun x => (g'.val x ∧ Cyc g'.nx x) ∧ ¬ ∃ y, g'.val y ∧ y.1 = c ∧ Proofs.Ytmlenaelijchjaa.Same g'.nx g'.rev x y) (Proofs.Ytmlenaelijchjaa.Same g'.nx g'.rev) n := by
  have z := h.zero
  have key : ∀ x, g0.val x → (∀ k z, iter g0.nx k x = some z → z.1 ≠ c) → (Cyc g0.nx x ↔ Cyc g'.nx x) := fun x hx hn => by
    have e := h.same_away' hx hn
    unfold Cyc
    simp only [e]
  refine hn.congr ?_ ?_
  · intro x
    constructor
    · rintro ⟨⟨hx, cx⟩, hm⟩
      have h1 := (z.miss hx).1 hm
      refine ⟨⟨h.val.2 hx, (key x hx h1).1 cx⟩, (h.miss (h.val.2 hx)).2 fun k u hu => ?_⟩
      rw [h.same_away' hx h1] at hu
      exact h1 k u hu
    · rintro ⟨⟨hx, cx⟩, hm⟩
      have hx := h.val.1 hx
      have h1 := (h.miss (h.val.2 hx)).1 hm
      have h2 : ∀ k u, iter g0.nx k x = some u → u.1 ≠ c := fun k u hu => h1 k u (by rw [h.same_away hx h1]; exact hu)
      exact ⟨⟨hx, (key x hx h2).2 cx⟩, (z.miss hx).2 h2⟩
  · rintro x y ⟨⟨hx, cx⟩, hm⟩ ⟨⟨hy, cy⟩, hm'⟩
    have h1 := (z.miss hx).1 hm
    have h2 := (z.miss hy).1 hm'
    have e := h.same_away' hx h1
    have hr : g'.rev y = g0.rev y := h.rev hy (h2 0 y rfl)
    unfold Proofs.Ytmlenaelijchjaa.Same On
    rw [hr]
    simp only [e]
/-- The number of rounds, for each letter. -/
theorem Gr.patch {g0 : Gr} {c : Nat} (hz : g0.Pat g0 c 46) : ∃ A, ∀ g' L, g0.Pat g' c L → g'.rmany = A + cnt4 (g0.rT c) L := by
  obtain ⟨a, b, _, _, hb⟩ := Num.part (Gr.rvs hz.ok0).eqv (Gr.reps_num hz.ok0) ((Gr.rvs hz.ok0).meets fun z => z.1 = c)
  refine ⟨b, fun g' L h => ?_⟩
  obtain ⟨a', b', h1, h2, h3⟩ := Num.part (Gr.rvs h.ok').eqv (Gr.reps_num h.ok') ((Gr.rvs h.ok').meets fun z => z.1 = c)
  have e1 := h.meet h2
  have hE := (Gr.rvs h.ok').eqv
  have e2 : b' = b := Num.unique ⟨fun x hx => hE.refl x hx.1, fun x y hx hy => hE.symm x y hx.1 hy.1, fun x y z hx hy hz => hE.trans x y z hx.1 hy.1 hz.1⟩ h3 (h.rest hb)
  show (g'.repsTo (4 * (g'.n * g'.m))).length = _
  rw [h1, e1, e2]
  omega
/-- All ways in which the four sides may hang together. -/
def allT : List (List Nat) := (List.range 625).map fun k => [k % 5, k / 5 % 5, k / 25 % 5, k / 125]
theorem Gr.rT_mem (g : Gr) (c : Nat) : g.rT c ∈ allT := by
  have h0 := Gr.rr_lt g c 0
  have h1 := Gr.rr_lt g c 1
  have h2 := Gr.rr_lt g c 2
  have h3 := Gr.rr_lt g c 3
  unfold allT Gr.rT
  generalize g.rr c 0 = a0 at *
  generalize g.rr c 1 = a1 at *
  generalize g.rr c 2 = a2 at *
  generalize g.rr c 3 = a3 at *
  refine List.mem_map.2 ⟨a0 + 5 * a1 + 25 * a2 + 125 * a3, List.mem_range.2 (by omega), ?_⟩
  congr 1
  · omega
  · congr 1
    · omega
    · congr 1
      · omega
      · congr 1
        omega
def chk4 (T : List Nat) : Bool :=
  let a := cnt4 T 46; let b := cnt4 T 114; let c := cnt4 T 102
  let low := min a (min b c)
  (decide (a + b + c = 3 * low) || decide (a + b + c = 3 * low + 1)) && decide (a ≤ b + 1 ∧ b ≤ a + 1 ∧ a ≤ c + 1 ∧ c ≤ a + 1 ∧ b ≤ c + 1 ∧ c ≤ b + 1)
set_option maxRecDepth 100000 in
theorem chk4_all : (allT.all fun T => !(valT T) || chk4 T) = true := by decide +kernel
theorem chk4_of {T : List Nat} (h1 : T ∈ allT) (h2 : valT T = true) : chk4 T = true := by
  have := (List.all_eq_true.1 chk4_all) T h1
  simpa [h2] using this
theorem chk4_facts {T : List Nat} (h1 : T ∈ allT) (h2 : valT T = true) :
    (cnt4 T 46 + cnt4 T 114 + cnt4 T 102 = 3 * min (cnt4 T 46) (min (cnt4 T 114) (cnt4 T 102)) ∨ cnt4 T 46 + cnt4 T 114 + cnt4 T 102 = 3 * min (cnt4 T 46) (min (cnt4 T 114) (cnt4 T 102)) + 1) ∧
    cnt4 T 46 ≤ cnt4 T 114 + 1 ∧ cnt4 T 114 ≤ cnt4 T 46 + 1 ∧ cnt4 T 46 ≤ cnt4 T 102 + 1 ∧ cnt4 T 102 ≤ cnt4 T 46 + 1 ∧ cnt4 T 114 ≤ cnt4 T 102 + 1 ∧ cnt4 T 102 ≤ cnt4 T 114 + 1 := by
  have := chk4_of h1 h2
  simpa [chk4] using this
end Go.Proofs.Ytmlenaelijchjaa
