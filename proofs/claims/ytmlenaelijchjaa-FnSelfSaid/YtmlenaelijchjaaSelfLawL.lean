/- Plain: the law on cells that one path goes through twice. -/
import Derived.Test.YtmlenaelijchjaaSelfPW
import Derived.Test.YtmlenaelijchjaaChangeL
import Derived.Test.YtmlenaelijchjaaTurnGW
import Derived.Test.YtmlenaelijchjaaTurnPL
namespace Go.Proofs.Ytmlenaelijchjaa
set_option linter.unusedVariables false
set_option linter.unusedSimpArgs false
set_option linter.unusedSectionVars false

theorem Gr.Path.iso {g g' : Gr} (hg : g.ok) (hg' : g'.ok) {T : Stt → Stt} {τ : Nat → Nat} (h : g.Iso g' T τ) {x y : Stt} (hx : g.val x) (hy : g.val y) (p : g.Path x y) : g'.Path (T x) (T y) := by
  have on : ∀ {x y}, g.val x → On g.nx x y → On g'.nx (T x) (T y) := fun {x y} hx ⟨k, hk⟩ => ⟨k, by rw [h.iter hg hg' k x hx, hk]; rfl⟩
  have hr := Gr.rev_val hg hy
  have er := h.rev y hy
  rcases p with (p | p) | (p | p)
  · exact .inl (.inl (on hx p))
  · exact .inl (.inr (on hy p))
  · exact .inr (.inl (by rw [er]; exact on hx p))
  · exact .inr (.inr (by rw [er]; exact on hr p))
theorem Gr.Path.tri {g : Gr} (hg : g.ok) {x y z : Stt} (hx : g.val x) (hy : g.val y) (hz : g.val z) (p : g.Path x y) (r : g.Path x z) : g.Path y z := by
  by_cases hb : ∃ p, p < g.ports ∧ x ∈ g.wayOf p
  · obtain ⟨t, ht, hxt⟩ := hb
    obtain ⟨e1, e2, e3⟩ := Gr.endOf_pair hg ht
    rw [Gr.path_beam hg ht hxt hy] at p
    rw [Gr.path_beam hg ht hxt hz] at r
    rcases p with p | p
    · rw [Gr.path_beam hg ht p hz]; exact r
    · rw [Gr.path_beam hg e1 p hz, e3]; exact r.symm
  · have c := Gr.free_cyc hg hx fun q hq hqx => hb ⟨q, hq, hqx⟩
    rw [Gr.path_cyc hg hx hy c] at p
    rw [Gr.path_cyc hg hx hz c] at r
    have cy := Gr.same_cyc hg hx hy c p
    have cz := Gr.same_cyc hg hx hz c r
    rw [Gr.path_cyc hg hy hz cy]
    have hE := (Gr.rvs hg).eqv
    exact hE.trans _ _ _ ⟨hy, cy⟩ ⟨hx, c⟩ ⟨hz, cz⟩ (hE.symm _ _ ⟨hx, c⟩ ⟨hy, cy⟩ p) r

theorem Gr.Pat.on4 {g0 g' : Gr} {c : Nat} {L : Int} (h : g0.Pat g' c L) {a b : Nat} (ha : a < 4) (hb : b < 4) : On g'.nx (c, a) (c, b) ↔ On (s4 (g0.rT c) L) a b := by
  constructor
  · rintro ⟨k, hk⟩
    have key : ∀ n k a, k ≤ n → a < 4 → iter g'.nx k (c, a) = some (c, b) → On (s4 (g0.rT c) L) a b := by
      intro n
      induction n with
      | zero =>
        intro k a hkn ha e
        have : k = 0 := by omega
        subst this
        have := congrArg Prod.snd (Option.some.inj e)
        exact ⟨0, congrArg some this⟩
      | succ n ih =>
        intro k a hkn ha e
        rcases Nat.eq_zero_or_pos k with rfl | hpos
        · have := congrArg Prod.snd (Option.some.inj e)
          exact ⟨0, congrArg some this⟩
        · obtain ⟨y, hf⟩ := Fst.of_iter (T := fun z : Stt => z.1 = c) hpos e rfl
          obtain ⟨i, hi, e1, hT, hn⟩ := id hf
          have hyv := ((Gr.steps h.ok').iter_stay i _ _ (h.val.2 ⟨h.lt, ha⟩ : g'.val (c, a)) e1).2
          obtain ⟨y1, y2⟩ := y
          simp only at hT
          subst hT
          have hik : i ≤ k := by
            apply Classical.byContradiction
            intro hx
            exact hn k _ hpos (by omega) e rfl
          have hs := (h.s4_some ha).2 ⟨hyv, hf⟩
          rw [show k = i + (k - i) by omega, iter_add, e1] at e
          obtain ⟨j, hj⟩ := ih (k - i) y2 (by omega) hyv e
          refine ⟨1 + j, ?_⟩
          rw [iter_add]
          show ((s4 (g0.rT y1) L) a).bind _ = _
          rw [hs]
          exact hj
    exact key k k a (Nat.le_refl _) ha hk
  · rintro ⟨k, hk⟩
    have key : ∀ k a, a < 4 → iter (s4 (g0.rT c) L) k a = some b → On g'.nx (c, a) (c, b) := by
      intro k
      induction k with
      | zero => intro a ha e; cases e; exact ⟨0, rfl⟩
      | succ k ih =>
        intro a ha e
        rw [iter_succ'] at e
        cases hs : s4 (g0.rT c) L a with
        | none => rw [hs] at e; cases e
        | some y =>
          rw [hs] at e
          obtain ⟨hy, i, _, e1, _⟩ := (h.s4_some ha).1 hs
          exact On.trans ⟨i, e1⟩ (ih y hy e)
    exact key k a ha hk
def path4 (T : List Nat) (L : Int) (a b : Nat) : Bool := (onN (s4 T L) 4 a b || onN (s4 T L) 4 b a) || (onN (s4 T L) 4 a (r4 L b) || onN (s4 T L) 4 (r4 L b) a)
theorem Gr.Pat.path4 {g0 g' : Gr} {c : Nat} {L : Int} (h : g0.Pat g' c L) {a b : Nat} (ha : a < 4) (hb : b < 4) : g'.Path (c, a) (c, b) ↔ path4 (g0.rT c) L a b = true := by
  have hR := s4_rv (L := L) h.valT
  have hr4 := r4_lt L b
  unfold Gr.Path Proofs.Ytmlenaelijchjaa.path4
  rw [h.revc hb, show opp (bend L b) = r4 L b from rfl, h.on4 ha hb, h.on4 hb ha, h.on4 ha hr4, h.on4 hr4 ha]
  simp only [Bool.or_eq_true]
  rw [onN_iff hR ha, onN_iff hR hb, onN_iff hR ha, onN_iff hR hr4]
def chkS (T : List Nat) : Bool := [(114 : Int), 102].all fun L => !((List.range 4).all (path4 T L 0)) || decide (cnt4 T L ≤ cnt4 T (exch L))
set_option maxRecDepth 100000 in
theorem chkS_all : (allT.all fun T => !(valT T) || chkS T) = true := by decide +kernel
theorem chkS_facts {T : List Nat} (h1 : T ∈ allT) (h2 : valT T = true) {L : Int} (hL : L = 114 ∨ L = 102) (h : ∀ d, d < 4 → path4 T L 0 d = true) : cnt4 T L ≤ cnt4 T (exch L) := by
  have := (List.all_eq_true.1 chkS_all) T h1
  rw [h2] at this
  simp only [Bool.not_true, Bool.false_or] at this
  have := (List.all_eq_true.1 this) L (by rcases hL with rfl | rfl <;> simp)
  have ha : ((List.range 4).all (path4 T L 0)) = true := List.all_eq_true.2 fun d hd => h d (List.mem_range.1 hd)
  rw [ha] at this
  simpa using this
/-- Such an exchange makes no path less. -/
theorem self_delta {ss : List ByteArray} {q : Nat} (hg : gridB ss = true) (hq : q < (gr ss).n * (gr ss).m) (hs : selfB ss q = true) (hm : mirB ss q = true) : 0 ≤ deltaL ss q := by
  have hok := gr_ok hg
  have hp : (gr ss).passN q = 2 := by
    simp only [selfB, Bool.and_eq_true, beq_iff_eq, Int.toNat_natCast] at hs
    exact hs.2
  have hall := (Gr.self_all hok hq).1 hp
  have hs := sig_let hg hq
  have hs2 := exch_let hs
  have hne : (gr ss).sig q ≠ 46 := by
    simp only [mirB, Bool.and_eq_true, Bool.not_eq_true', beq_eq_false_iff_ne] at hm
    exact hm.2
  have h0 := pat_put hg hq (L := 46) rfl
  have h1 := pat_put hg hq hs
  have h2 := pat_put hg hq hs2
  rw [putS_self hg hq] at h1
  obtain ⟨A, hA⟩ := Gr.patch h0
  have e1 := hA _ _ h1
  have e2 := hA _ _ h2
  have hL : (gr ss).sig q = 114 ∨ (gr ss).sig q = 102 := by
    simp [letB] at hs
    omega
  have hle := chkS_facts (Gr.rT_mem (gr (putS ss q 46)) q) h1.valT hL fun d hd => (h1.path4 (by omega) hd).1 (hall d hd)
  have s2 := putS_sides hg q (exch ((gr ss).sig q))
  have e : deltaL ss q = ((gr (putS ss q (exch ((gr ss).sig q)))).pmany : Nat) - ((gr ss).pmany : Nat) := by simp [deltaL, hm, putP]
  rw [e]
  unfold Gr.pmany
  rw [e1, e2, s2.1, s2.2]
  omega
/-- The cell when the grid is turned. -/
def turnC (ss : List ByteArray) (q : Nat) : Nat := q % (gr ss).m * (gr ss).n + ((gr ss).n - 1 - q / (gr ss).m)
theorem self_turn {ss : List ByteArray} {q : Nat} (hg : gridB ss = true) (hq : q < (gr ss).n * (gr ss).m) (hs : selfB ss q = true) : gridB (turnS ss) = true ∧ selfB (turnS ss) (turnC ss q : Nat) = true := by
  have hok := gr_ok hg
  have hgt := turnS_ok hg
  have hok' := gr_ok hgt
  have ht := turnS_turned hg
  have hiso := Gr.Turned.iso hok hok' ht
  have hp : (gr ss).passN q = 2 := by
    simp only [selfB, Bool.and_eq_true, beq_iff_eq, Int.toNat_natCast] at hs
    exact hs.2
  have hall := (Gr.self_all hok hq).1 hp
  have hv : ∀ d, d < 4 → (gr ss).val (q, d) := fun d hd => ⟨hq, hd⟩
  have hT : ∀ d, turnT (gr ss) (q, d) = (turnC ss q, (d + 1) % 4) := fun d => rfl
  have hc : turnC ss q < (gr (turnS ss)).n * (gr (turnS ss)).m := by
    have := hiso.val _ (hv 0 (by omega))
    rw [hT] at this
    exact this.1
  have hv' : ∀ d, d < 4 → (gr (turnS ss)).val (turnC ss q, d) := fun d hd => ⟨hc, hd⟩
  have hP : ∀ e, e < 4 → (gr (turnS ss)).Path (turnC ss q, 1) (turnC ss q, e) := fun e he => by
    have h1 := Gr.Path.iso hok hok' hiso (hv 0 (by omega)) (hv ((e + 3) % 4) (by omega)) (hall _ (by omega))
    rw [hT, hT] at h1
    rw [show ((e + 3) % 4 + 1) % 4 = e by omega] at h1
    exact h1
  refine ⟨hgt, ?_⟩
  have h2 : (gr (turnS ss)).passN (turnC ss q) = 2 := (Gr.self_all hok' hc).2 fun d hd =>
    Gr.Path.tri hok' (hv' 1 (by omega)) (hv' 0 (by omega)) (hv' d hd) (hP 0 (by omega)) (hP d hd)
  simp only [selfB, cellB, Bool.and_eq_true, beq_iff_eq, Int.toNat_natCast, inB_iff]
  exact ⟨⟨hgt, by omega⟩, h2⟩
end Go.Proofs.Ytmlenaelijchjaa
