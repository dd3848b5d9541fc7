/- Pairings whose ports are called by other numbers: plain facts. -/
import Derived.Test.YtmlenaelijchjaaFlipW
namespace Go.Proofs.Ytmlenaelijchjaa
set_option linter.unusedVariables false

/-- f calls the numbers below N anew, and g calls them back. -/
structure Ren (f g : Nat → Nat) (N : Nat) : Prop where
  to : ∀ p, p < N → f p < N
  back : ∀ q, q < N → g q < N
  gf : ∀ p, p < N → g (f p) = p
  fg : ∀ q, q < N → f (g q) = q

theorem okTo_val {xs : List Int} (h : okTo xs xs.length) {j : Nat} (hj : j < xs.length) : ∃ m : Nat, xs.getD j 0 = m ∧ m < xs.length ∧ m ≠ j ∧ xs.getD m 0 = j := by
  have := h j hj
  simp only [okAt, Bool.and_eq_true, inB_iff, Bool.not_eq_true', beq_eq_false_iff_ne, beq_iff_eq] at this
  obtain ⟨m, hm⟩ := Int.eq_ofNat_of_zero_le this.1.1.1
  refine ⟨m, hm, by omega, by omega, ?_⟩
  have h2 := this.2
  rw [hm, Int.toNat_natCast] at h2
  exact h2
theorem okTo_of {xs : List Int} (h : ∀ j, j < xs.length → ∃ m : Nat, xs.getD j 0 = m ∧ m < xs.length ∧ m ≠ j ∧ xs.getD m 0 = j) : okTo xs xs.length := by
  intro j hj
  obtain ⟨m, h1, h2, h3, h4⟩ := h j hj
  rw [okAt, h1, Int.toNat_natCast, h4]
  simp [inB]
  omega

theorem list_ext_getD {xs ys : List Int} (hl : xs.length = ys.length) (h : ∀ j, j < xs.length → xs.getD j 0 = ys.getD j 0) : xs = ys := by
  refine List.ext_getElem hl fun i h1 h2 => ?_
  have := h i h1
  simpa [h1, h2] using this

theorem mapTo_get {f : Nat → Nat} {xs : List Int} (hf : ∀ p, p < xs.length → f p < xs.length) (hi : ∀ p q, p < xs.length → q < xs.length → f p = f q → p = q) :
    ∀ j, j ≤ xs.length → ∀ p, p < j → (mapTo f xs j).getD (f p) 0 = (f (xs.getD p 0).toNat : Nat) := by
  intro j
  induction j with
  | zero => intro _ p hp; omega
  | succ j ih =>
    intro hj p hp
    rw [mapTo]
    have hlen := mapTo_length f xs j
    by_cases e : p = j
    · subst e
      have : f p < (mapTo f xs p).length := by rw [hlen]; exact hf p (by omega)
      simp [this]
    · have hne : f j ≠ f p := fun h => e (hi j p (by omega) (by omega) h).symm
      have := ih (by omega) p (by omega)
      rw [List.getD_eq_getElem?_getD] at this ⊢
      rw [List.getElem?_set_ne hne]
      exact this

theorem mapTo_eq {f g : Nat → Nat} {xs : List Int} (h : Ren f g xs.length) : mapTo f xs xs.length = fillN (fun q => (f (xs.getD (g q) 0).toNat : Nat)) xs.length := by
  refine list_ext_getD (by rw [mapTo_length, fillN_length]) fun q hq => ?_
  rw [mapTo_length] at hq
  have := mapTo_get (f := f) (xs := xs) h.to (fun p q hp hq e => by rw [← h.gf p hp, ← h.gf q hq, e]) xs.length (Nat.le_refl _) (g q) (h.back q hq)
  rw [h.fg q hq] at this
  rw [this, fillN_getD _ hq]

theorem mapTo_at {f g : Nat → Nat} {xs : List Int} (h : Ren f g xs.length) {q : Nat} (hq : q < xs.length) : (mapTo f xs xs.length).getD q 0 = (f (xs.getD (g q) 0).toNat : Nat) := by
  rw [mapTo_eq h, fillN_getD _ hq]

theorem mapTo_ok {f g : Nat → Nat} {xs : List Int} (h : Ren f g xs.length) (hok : okTo xs xs.length) : okTo (mapTo f xs xs.length) (mapTo f xs xs.length).length := by
  refine okTo_of fun q hq => ?_
  rw [mapTo_length] at hq ⊢
  obtain ⟨m, h1, h2, h3, h4⟩ := okTo_val hok (h.back q hq)
  refine ⟨f m, by rw [mapTo_at h hq, h1, Int.toNat_natCast], h.to m h2, fun e => ?_, ?_⟩
  · rw [← e, h.gf m h2] at h3
    exact h3 rfl
  · rw [mapTo_at h (h.to m h2), h.gf m h2, h4, Int.toNat_natCast, h.fg q hq]

theorem mapTo_pairs {f g : Nat → Nat} {xs : List Int} (h : Ren f g xs.length) (hp : pairsB xs = true) : pairsB (mapTo f xs xs.length) = true := by
  have := pairsB_iff.1 hp
  refine pairsB_iff.2 ⟨mapTo_ok h this.1, ?_⟩
  rw [mapTo_length]
  exact this.2

theorem mapTo_comp {f g f' g' : Nat → Nat} {xs : List Int} (h : Ren f g xs.length) (h' : Ren f' g' xs.length) (hok : okTo xs xs.length) :
    mapTo f' (mapTo f xs xs.length) xs.length = mapTo (fun p => f' (f p)) xs xs.length := by
  have hl := mapTo_length f xs xs.length
  have h2 : Ren f' g' (mapTo f xs xs.length).length := by rw [hl]; exact h'
  have h3 : Ren (fun p => f' (f p)) (fun q => g (g' q)) xs.length :=
    ⟨fun p hp => h'.to _ (h.to _ hp), fun q hq => h.back _ (h'.back _ hq), fun p hp => by show g (g' (f' (f p))) = p; rw [h'.gf _ (h.to _ hp), h.gf _ hp], fun q hq => by show f' (f (g (g' q))) = q; rw [h.fg _ (h'.back _ hq), h'.fg _ hq]⟩
  have e := mapTo_eq h2
  rw [hl] at e
  rw [e, mapTo_eq h3]
  refine list_ext_getD (by rw [fillN_length, fillN_length]) fun q hq => ?_
  rw [fillN_length] at hq
  rw [fillN_getD _ hq, fillN_getD _ hq, mapTo_at h (h'.back q hq), Int.toNat_natCast]

theorem mapTo_same {f f' : Nat → Nat} {xs : List Int} (hok : okTo xs xs.length) (he : ∀ p, p < xs.length → f p = f' p) : ∀ j, j ≤ xs.length → mapTo f xs j = mapTo f' xs j := by
  intro j
  induction j with
  | zero => intro _; rfl
  | succ j ih =>
    intro hj
    obtain ⟨m, h1, h2, _⟩ := okTo_val hok (show j < xs.length by omega)
    rw [mapTo, mapTo, ih (by omega), h1, Int.toNat_natCast, he j (by omega), he m h2]

theorem mapTo_id {f : Nat → Nat} {xs : List Int} (hok : okTo xs xs.length) (he : ∀ p, p < xs.length → f p = p) : mapTo f xs xs.length = xs := by
  have hr : Ren f f xs.length := ⟨fun p hp => by rw [he p hp]; exact hp, fun p hp => by rw [he p hp]; exact hp, fun p hp => by rw [he p hp, he p hp], fun p hp => by rw [he p hp, he p hp]⟩
  refine list_ext_getD (mapTo_length _ _ _) fun q hq => ?_
  rw [mapTo_length] at hq
  obtain ⟨m, h1, h2, _⟩ := okTo_val hok hq
  rw [mapTo_at hr hq, he q hq, h1, Int.toNat_natCast, he m h2]

theorem add_mod_sub {N a : Nat} (k : Nat) (hN : 0 < N) (ha : a < N) : ((a + k) % N + (N - k % N)) % N = a := by
  have hk := Nat.mod_lt k hN
  rw [Nat.add_mod a k N, Nat.mod_eq_of_lt ha]
  by_cases h : a + k % N < N
  · rw [Nat.mod_eq_of_lt h]
    have e : a + k % N + (N - k % N) = a + N := by omega
    rw [e, Nat.add_mod_right, Nat.mod_eq_of_lt ha]
  · have e1 : (a + k % N) % N = a + k % N - N := by rw [Nat.mod_eq_sub_mod (by omega), Nat.mod_eq_of_lt (by omega)]
    rw [e1]
    have e : a + k % N - N + (N - k % N) = a := by omega
    rw [e, Nat.mod_eq_of_lt ha]

/-- Turned by k. -/
theorem ren_turn (N k : Nat) (hN : 0 < N) : Ren (fun p => (p + k) % N) (fun q => (q + (N - k % N)) % N) N := by
  refine ⟨fun p _ => Nat.mod_lt _ hN, fun p _ => Nat.mod_lt _ hN, fun p hp => add_mod_sub k hN hp, fun q hq => ?_⟩
  show ((q + (N - k % N)) % N + k) % N = q
  have hk := Nat.mod_lt k hN
  rw [Nat.add_mod ((q + (N - k % N)) % N) k N, Nat.mod_mod, ← Nat.add_mod]
  have e : (q + (N - k % N) + k) % N = (q + (N - k % N) + k % N) % N := by rw [Nat.add_mod (q + (N - k % N)) k N, Nat.add_mod (q + (N - k % N)) (k % N) N, Nat.mod_mod]
  rw [e, show q + (N - k % N) + k % N = q + N by omega, Nat.add_mod_right, Nat.mod_eq_of_lt hq]

theorem turnTo_map (xs : List Int) (k : Nat) (hok : okTo xs xs.length) : turnTo xs k xs.length = mapTo (fun p => (p + k) % xs.length) xs xs.length :=
  (jturn_same xs k 0 hok xs.length (Nat.le_refl _)).symm

/-- What CrossTurn makes is a pairing. -/
theorem turnL_pairs {xs : List Int} {k : Int} (h : turnB xs k = true) : pairsB (turnL xs k) = true ∧ (turnL xs k).length = xs.length ∧ turnL xs k = mapTo (fun p => (p + k.toNat) % xs.length) xs xs.length := by
  have hp : pairsB xs = true := by simp only [turnB, Bool.and_eq_true] at h; exact h.1
  have h2 := pairsB_iff.1 hp
  have hlen := inB_iff.1 h2.2
  have e : turnL xs k = mapTo (fun p => (p + k.toNat) % xs.length) xs xs.length := by
    rw [← turnTo_map xs k.toNat h2.1]
    simp [turnL, h]
  rw [e]
  exact ⟨mapTo_pairs (ren_turn xs.length k.toNat (by omega)) hp, mapTo_length _ _ _, rfl⟩

theorem turn_turn {xs : List Int} {k l : Int} (h : turnB xs k = true) (h' : turnB (turnL xs k) l = true) :
    turnL (turnL xs k) l = mapTo (fun p => ((p + k.toNat) % xs.length + l.toNat) % xs.length) xs xs.length := by
  obtain ⟨h1, h2, h3⟩ := turnL_pairs h
  have hp : pairsB xs = true := by simp only [turnB, Bool.and_eq_true] at h; exact h.1
  have h4 := pairsB_iff.1 hp
  have hlen := inB_iff.1 h4.2
  rw [(turnL_pairs h').2.2, h2, h3]
  exact mapTo_comp (ren_turn xs.length k.toNat (by omega)) (ren_turn xs.length l.toNat (by omega)) h4.1

theorem turn_back {xs : List Int} {k : Nat} (h : turnB xs k = true) :
    turnB (turnL xs k) (((xs.length : Int) - (k : Int) % xs.length) % xs.length) = true ∧ turnL (turnL xs k) (((xs.length : Int) - (k : Int) % xs.length) % xs.length) = xs := by
  obtain ⟨h1, h2, h3⟩ := turnL_pairs h
  have hp : pairsB xs = true := by simp only [turnB, Bool.and_eq_true] at h; exact h.1
  have h4 := pairsB_iff.1 hp
  have hlen := inB_iff.1 h4.2
  have hk := Nat.mod_lt k (show 0 < xs.length by omega)
  have e : ((xs.length : Int) - (k : Int) % xs.length) % xs.length = ((xs.length - k % xs.length) % xs.length : Nat) := by
    rw [Int.natCast_emod]
    congr 1
    rw [← Int.natCast_emod]; omega
  have hm := Nat.mod_lt (xs.length - k % xs.length) (show 0 < xs.length by omega)
  have hT : turnB (turnL xs k) (((xs.length : Int) - (k : Int) % xs.length) % xs.length) = true := by
    rw [e, turnB, h1]
    simp [inB]; omega
  refine ⟨hT, ?_⟩
  rw [turn_turn h hT, e, Int.toNat_natCast, Int.toNat_natCast]
  refine mapTo_id h4.1 fun p hp2 => ?_
  show ((p + k) % xs.length + (xs.length - k % xs.length) % xs.length) % xs.length = p
  rw [Nat.add_mod_mod]
  exact add_mod_sub k (by omega) hp2

theorem ofB_map {f g : Nat → Nat} {n m n' m' : Int} {xs : List Int} (h : ofB n m xs = true) (hr : Ren f g xs.length) (h' : 1 ≤ n' ∧ n' ≤ 5 ∧ 1 ≤ m' ∧ m' ≤ 5 ∧ n' + m' = n + m) : ofB n' m' (mapTo f xs xs.length) = true := by
  obtain ⟨h1, h2, h3, h4, h5, h6⟩ := ofB_iff.1 h
  refine ofB_iff.2 ⟨h'.1, h'.2.1, h'.2.2.1, h'.2.2.2.1, ?_, mapTo_pairs hr h6⟩
  rw [mapTo_length]; omega

theorem jturn_facts {n m : Int} {xs : List Int} (h : ofB n m xs = true) :
    jturnL n m xs = mapTo (fun p => (p + n.toNat) % xs.length) xs xs.length ∧ ofB m n (jturnL n m xs) = true ∧ (jturnL n m xs).length = xs.length ∧ turnB xs n = true ∧ turnL xs n = jturnL n m xs := by
  obtain ⟨h1, h2, h3, h4, h5, h6⟩ := ofB_iff.1 h
  have e : jturnL n m xs = mapTo (fun p => (p + n.toNat) % xs.length) xs xs.length := by simp only [jturnL, h, if_true]; rfl
  have ht : turnB xs n = true := by simp [turnB, h6, inB]; omega
  refine ⟨e, ?_, by rw [e, mapTo_length], ht, by rw [(turnL_pairs ht).2.2, e]⟩
  rw [e]
  exact ofB_map h (ren_turn _ _ (by omega)) (by omega)

theorem jturn4 {n m : Int} {xs : List Int} (h : ofB n m xs = true) : jturnL m n (jturnL n m (jturnL m n (jturnL n m xs))) = xs := by
  obtain ⟨h1, h2, h3, h4, h5, h6⟩ := ofB_iff.1 h
  have hok := (pairsB_iff.1 h6).1
  have hN : 0 < xs.length := by omega
  obtain ⟨e1, b1, l1, _⟩ := jturn_facts h
  obtain ⟨e2, b2, l2, _⟩ := jturn_facts b1
  obtain ⟨e3, b3, l3, _⟩ := jturn_facts b2
  obtain ⟨e4, _, _, _⟩ := jturn_facts b3
  have l2' : (jturnL m n (jturnL n m xs)).length = xs.length := l2.trans l1
  have l3' : (jturnL n m (jturnL m n (jturnL n m xs))).length = xs.length := l3.trans l2'
  have r1 := ren_turn xs.length n.toNat hN
  have r2 := ren_turn xs.length m.toNat hN
  have comp : ∀ {f g f' g' : Nat → Nat}, Ren f g xs.length → Ren f' g' xs.length → Ren (fun p => f' (f p)) (fun q => g (g' q)) xs.length := fun h h' =>
    ⟨fun p hp => h'.to _ (h.to _ hp), fun q hq => h.back _ (h'.back _ hq), fun p hp => by show _ = p; rw [h'.gf _ (h.to _ hp), h.gf _ hp], fun q hq => by show _ = q; rw [h.fg _ (h'.back _ hq), h'.fg _ hq]⟩
  have c2 : jturnL m n (jturnL n m xs) = mapTo (fun p => ((p + n.toNat) % xs.length + m.toNat) % xs.length) xs xs.length := by
    rw [e2, l1, e1]
    exact mapTo_comp r1 r2 hok
  have c3 : jturnL n m (jturnL m n (jturnL n m xs)) = mapTo (fun p => (((p + n.toNat) % xs.length + m.toNat) % xs.length + n.toNat) % xs.length) xs xs.length := by
    rw [e3, l2', c2]
    exact mapTo_comp (comp r1 r2) r1 hok
  rw [e4, l3', c3, mapTo_comp (comp (comp r1 r2) r1) r2 hok]
  refine mapTo_id hok fun p hp => ?_
  show ((((p + n.toNat) % xs.length + m.toNat) % xs.length + n.toNat) % xs.length + m.toNat) % xs.length = p
  simp only [Nat.mod_add_mod]
  rw [show p + n.toNat + m.toNat + n.toNat + m.toNat = p + xs.length by omega, Nat.add_mod_right, Nat.mod_eq_of_lt hp]

theorem jflip_twice {n m N : Nat} (hn : 1 ≤ n) (hm : 1 ≤ m) (hN : N = 2 * n + 2 * m) {p : Nat} (hp : p < N) : jflipF n m N (jflipF n m N p) = p := by
  unfold jflipF
  by_cases h : m + N - 1 - p < N
  · rw [Nat.mod_eq_of_lt h]
    by_cases h2 : m + N - 1 - (m + N - 1 - p) < N
    · rw [Nat.mod_eq_of_lt h2]; omega
    · rw [Nat.mod_eq_sub_mod (by omega), Nat.mod_eq_of_lt (by omega)]; omega
  · rw [Nat.mod_eq_sub_mod (show N ≤ m + N - 1 - p by omega), Nat.mod_eq_of_lt (show m + N - 1 - p - N < N by omega)]
    rw [Nat.mod_eq_sub_mod (by omega), Nat.mod_eq_of_lt (by omega)]; omega
theorem ren_flip {n m N : Nat} (hn : 1 ≤ n) (hm : 1 ≤ m) (hN : N = 2 * n + 2 * m) : Ren (jflipF n m N) (jflipF n m N) N :=
  ⟨fun p _ => Nat.mod_lt _ (by omega), fun p _ => Nat.mod_lt _ (by omega), fun p hp => jflip_twice hn hm hN hp, fun p hp => jflip_twice hn hm hN hp⟩
theorem jflip_facts {n m : Int} {xs : List Int} (h : ofB n m xs = true) :
    jflipL n m xs = mapTo (jflipF n.toNat m.toNat xs.length) xs xs.length ∧ ofB n m (jflipL n m xs) = true ∧ (jflipL n m xs).length = xs.length ∧ jflipL n m (jflipL n m xs) = xs := by
  obtain ⟨h1, h2, h3, h4, h5, h6⟩ := ofB_iff.1 h
  have hok := (pairsB_iff.1 h6).1
  have e : jflipL n m xs = mapTo (jflipF n.toNat m.toNat xs.length) xs xs.length := by simp only [jflipL, h, if_true]
  have r := ren_flip (n := n.toNat) (m := m.toNat) (N := xs.length) (by omega) (by omega) (by omega)
  have hb : ofB n m (jflipL n m xs) = true := by rw [e]; exact ofB_map h r (by omega)
  have hl : (jflipL n m xs).length = xs.length := by rw [e, mapTo_length]
  refine ⟨e, hb, hl, ?_⟩
  have e2 : jflipL n m (jflipL n m xs) = mapTo (jflipF n.toNat m.toNat (jflipL n m xs).length) (jflipL n m xs) (jflipL n m xs).length := by
    generalize jflipL n m xs = ys at hb
    simp only [jflipL, hb, if_true]
  rw [e2, hl, e, mapTo_comp r r hok]
  exact mapTo_id hok fun p hp => jflip_twice (by omega) (by omega) (by omega) hp
end Go.Proofs.Ytmlenaelijchjaa
