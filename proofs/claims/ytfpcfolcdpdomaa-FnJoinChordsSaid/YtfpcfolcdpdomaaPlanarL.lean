/- Joined pairings without crossings have none: plain facts. -/
import Derived.Test.YtfpcfolcdpdomaaJoinLawL
import Derived.Test.YtfpcfolcdpdomaaChordsL
import Derived.Test.YtfpcfolcdpdomaaChordsTL
namespace Go.Proofs.Ytfpcfolcdpdomaa
set_option linter.unusedVariables false
set_option linter.unusedSimpArgs false
set_option linter.unusedSectionVars false

theorem cntN_add (f : Nat → Bool) (a : Nat) : ∀ b, cntN f (a + b) = cntN f a + cntN (fun j => f (a + j)) b := by
  intro b
  induction b with
  | zero => rfl
  | succ b ih =>
    show cntN f (a + b + 1) = _
    rw [cntN_succ, cntN_succ, ih]
    omega
theorem cntN_split (f p : Nat → Bool) : ∀ n, cntN f n = cntN (fun e => f e && p e) n + cntN (fun e => f e && !p e) n := by
  intro n
  induction n with
  | zero => rfl
  | succ n ih =>
    rw [cntN_succ, cntN_succ, cntN_succ, ih]
    cases f n <;> cases p n <;> simp <;> omega
theorem cntN_below (f : Nat → Bool) {h : Nat} : ∀ n, h ≤ n → cntN (fun e => f e && decide (e < h)) n = cntN f h := by
  intro n
  induction n with
  | zero =>
    intro hn
    have e : h = 0 := by omega
    subst e
    rfl
  | succ n ih =>
    intro hn
    by_cases e : h = n + 1
    · subst e
      exact cntN_congr fun i hi => by simp [hi]
    · rw [cntN_succ, ih (by omega), decide_eq_false (by omega)]
      simp
theorem cntN_rev (R : Nat → Bool) (n : Nat) : ∀ s, s ≤ n → cntN R n = cntN R (n - s) + cntN (fun j => R (n - 1 - j)) s := by
  intro s
  induction s with
  | zero => intro _; rfl
  | succ s ih =>
    intro hs
    rw [ih (by omega), cntN_succ, show n - s = n - (s + 1) + 1 by omega, cntN_succ, show n - 1 - s = n - (s + 1) by omega]
    omega
theorem cntN_even {x : Nat → Nat} {P : Nat} (hlt : ∀ e, e < P → x e < P) (hxx : ∀ e, e < P → x (x e) = e) (hne : ∀ e, e < P → x e ≠ e) (D : Nat → Bool) (hD : ∀ e, e < P → D (x e) = D e) : cntN D P % 2 = 0 := by
  rw [cntN_split D (fun e => decide (e < x e)) P]
  have h1 : cntN (fun e => D e && decide (e < x e)) P ≤ cntN (fun e => D e && !decide (e < x e)) P :=
    cntN_inj x (fun c hc h => by
      simp only [Bool.and_eq_true, decide_eq_true_eq] at h
      refine ⟨hlt c hc, ?_⟩
      simp only [Bool.and_eq_true, Bool.not_eq_true', decide_eq_false_iff_not]
      exact ⟨by rw [hD c hc]; exact h.1, by rw [hxx c hc]; omega⟩) fun c c' hc hc' _ _ e => by rw [← hxx c hc, e, hxx c' hc']
  have h2 : cntN (fun e => D e && !decide (e < x e)) P ≤ cntN (fun e => D e && decide (e < x e)) P :=
    cntN_inj x (fun c hc h => by
      simp only [Bool.and_eq_true, Bool.not_eq_true', decide_eq_false_iff_not] at h
      refine ⟨hlt c hc, ?_⟩
      simp only [Bool.and_eq_true, decide_eq_true_eq]
      exact ⟨by rw [hD c hc]; exact h.1, by have := hne c hc; rw [hxx c hc]; omega⟩) fun c c' hc hc' _ _ e => by rw [← hxx c hc, e, hxx c' hc']
  omega
/-- No two chords cross. -/
def NCr (xs : List Int) : Prop := ∀ a c, a < xs.length → c < xs.length → ¬ (a < c ∧ c < cnx xs a ∧ cnx xs a < cnx xs c)
theorem rowTo_zero {xs : List Int} {a : Nat} : ∀ j, rowTo xs a j = 0 ↔ ∀ c, c < j → chAt xs a c = false := by
  intro j
  induction j with
  | zero => exact ⟨fun _ c hc => by omega, fun _ => rfl⟩
  | succ j ih =>
    constructor
    · intro h c hc
      have h0 : rowTo xs a j = 0 ∧ chAt xs a j = false := by
        cases hh : chAt xs a j
        · rw [rowTo_no hh] at h; exact ⟨h, rfl⟩
        · rw [rowTo_yes hh] at h; omega
      by_cases e : c = j
      · subst e; exact h0.2
      · exact (ih.1 h0.1) c (by omega)
    · intro h
      rw [rowTo_no (h j (by omega))]
      exact ih.2 fun c hc => h c (by omega)
theorem chTo_zero {xs : List Int} : ∀ i, chTo xs i = 0 ↔ ∀ a c, a < i → c < xs.length → chAt xs a c = false := by
  intro i
  induction i with
  | zero => exact ⟨fun _ a c ha => by omega, fun _ => rfl⟩
  | succ i ih =>
    rw [chTo_succ]
    constructor
    · intro h a c ha hc
      have h1 := ih.1 (by omega)
      have h2 := (rowTo_zero xs.length).1 (show rowTo xs i xs.length = 0 by omega)
      by_cases e : a = i
      · subst e; exact h2 c hc
      · exact h1 a c (by omega) hc
    · intro h
      have h1 := ih.2 fun a c ha hc => h a c (by omega) hc
      have h2 := (rowTo_zero xs.length).2 fun c hc => h i c (by omega) hc
      omega
theorem chords_zero {xs : List Int} (hp : pairsB xs = true) : chordsN xs = 0 ↔ NCr xs := by
  unfold chordsN
  rw [if_pos hp]
  have e : ((chTo xs xs.length : Nat) : Int) = 0 ↔ chTo xs xs.length = 0 := by omega
  rw [e, chTo_zero]
  unfold NCr
  constructor
  · intro h a c ha hc hh
    have h1 := h a c ha hc
    have ga := (cnx_get hp ha).1
    have gc := (cnx_get hp hc).1
    have : chAt xs a c = true := by
      unfold chAt
      rw [ga, gc]
      simp only [Bool.and_eq_true, decide_eq_true_eq]
      omega
    rw [h1] at this
    cases this
  · intro h a c ha hc
    have h1 := h a c ha hc
    have ga := (cnx_get hp ha).1
    have gc := (cnx_get hp hc).1
    cases hh : chAt xs a c
    · rfl
    · exfalso
      unfold chAt at hh
      rw [ga, gc] at hh
      simp only [Bool.and_eq_true, decide_eq_true_eq] at hh
      exact h1 ⟨by omega, by omega, by omega⟩
/-- The chords of a set lie on one side of another chord. -/
theorem nc_par {xs : List Int} (hp : pairsB xs = true) (hn : NCr xs) {E : Nat → Bool} (hE : ∀ e, e < xs.length → E (cnx xs e) = E e) {X : Nat} (hX : X < xs.length) (hEX : E X = false) : cntN E (cnx xs X) % 2 = cntN E X % 2 := by
  have gX := cnx_get hp hX
  have hEX2 : E (cnx xs X) = false := by rw [hE X hX]; exact hEX
  have key : ∀ lo hi, lo < hi → hi < xs.length → cnx xs lo = hi → cnx xs hi = lo → E lo = false → E hi = false → cntN E hi % 2 = cntN E lo % 2 := by
    intro lo hi hlh hhi e1 e2 f1 f2
    have h1 := cntN_below E (h := hi) xs.length (by omega)
    have h2 := cntN_below E (h := lo) xs.length (by omega)
    have h3 := cntN_split (fun e => E e && decide (e < hi)) (fun e => decide (e < lo)) xs.length
    have h4 : cntN (fun e => (E e && decide (e < hi)) && decide (e < lo)) xs.length = cntN (fun e => E e && decide (e < lo)) xs.length := cntN_congr fun e _ => by
      by_cases h : e < lo
      · simp [h, show e < hi by omega]
      · simp [h]
    have h5 : cntN (fun e => (E e && decide (e < hi)) && !decide (e < lo)) xs.length % 2 = 0 := by
      refine cntN_even (fun e he => (cnx_get hp he).2.1) (fun e he => (cnx_get hp he).2.2.2) (fun e he => (cnx_get hp he).2.2.1) _ fun e he => ?_
      have ge := cnx_get hp he
      rw [hE e he]
      cases hEe : E e
      · simp
      · have n1 : e ≠ lo := fun h => by rw [h, f1] at hEe; cases hEe
        have n2 : e ≠ hi := fun h => by rw [h, f2] at hEe; cases hEe
        have n3 : cnx xs e ≠ lo := fun h => by
          have := ge.2.2.2
          rw [h, e1] at this
          exact n2 this.symm
        have n4 : cnx xs e ≠ hi := fun h => by
          have := ge.2.2.2
          rw [h, e2] at this
          exact n1 this.symm
        have c1 := hn lo e (by omega) he
        have c2 := hn lo (cnx xs e) (by omega) ge.2.1
        have c3 := hn e lo he (by omega)
        have c4 := hn (cnx xs e) lo ge.2.1 (by omega)
        rw [e1] at c1 c2 c3 c4
        rw [ge.2.2.2] at c2 c4
        have : (cnx xs e < hi ∧ ¬ cnx xs e < lo) ↔ (e < hi ∧ ¬ e < lo) := by omega
        by_cases q : e < hi ∧ ¬ e < lo
        · have q2 := this.2 q
          simp [q.1, q.2, q2.1, q2.2]
        · have q2 : ¬ (cnx xs e < hi ∧ ¬ cnx xs e < lo) := fun h => q (this.1 h)
          have e3 : (decide (e < hi) && !decide (e < lo)) = false := by
            cases hh : (decide (e < hi) && !decide (e < lo))
            · rfl
            · exfalso
              simp only [Bool.and_eq_true, decide_eq_true_eq, Bool.not_eq_true', decide_eq_false_iff_not] at hh
              exact q hh
          have e4 : (decide (cnx xs e < hi) && !decide (cnx xs e < lo)) = false := by
            cases hh : (decide (cnx xs e < hi) && !decide (cnx xs e < lo))
            · rfl
            · exfalso
              simp only [Bool.and_eq_true, decide_eq_true_eq, Bool.not_eq_true', decide_eq_false_iff_not] at hh
              exact q2 hh
          rw [Bool.true_and, Bool.true_and, e3, e4]
    omega
  rcases Nat.lt_trichotomy X (cnx xs X) with h | h | h
  · exact key X (cnx xs X) h gX.2.1 rfl gX.2.2.2 hEX hEX2
  · exact absurd h.symm gX.2.2.1
  · exact (key (cnx xs X) X h hX gX.2.2.2 rfl hEX2 hEX).symm
end Go.Proofs.Ytfpcfolcdpdomaa
