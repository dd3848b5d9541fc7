/- The number of crossing pairs stays when ports are turned: plain facts. -/
import Derived.Test.YtmlenaelijchjaaChordsL
import Derived.Test.YtmlenaelijchjaaRen
import Derived.Test.YtmlenaelijchjaaRv
namespace Go.Proofs.Ytmlenaelijchjaa
set_option linter.unusedVariables false
set_option linter.unusedSimpArgs false

theorem cntN_list (p : Nat → Bool) : ∀ n, cntN p n = ((List.range n).filter p).length := by
  intro n
  induction n with
  | zero => rfl
  | succ n ih =>
    rw [cntN_succ, ih, List.range_succ, List.filter_append, List.length_append]
    by_cases h : p n = true
    · simp [h]
    · simp [h]
theorem cntN_inj {p q : Nat → Bool} {n m : Nat} (f : Nat → Nat) (h : ∀ c, c < n → p c = true → f c < m ∧ q (f c) = true) (hi : ∀ c c', c < n → c' < n → p c = true → p c' = true → f c = f c' → c = c') : cntN p n ≤ cntN q m := by
  rw [cntN_list, cntN_list]
  refine inj_len (fun x y => f x = y) _ _ (fun x hx => ?_) ?_
  · obtain ⟨h1, h2⟩ := List.mem_filter.1 hx
    obtain ⟨h3, h4⟩ := h x (List.mem_range.1 h1) h2
    exact ⟨f x, List.mem_filter.2 ⟨List.mem_range.2 h3, h4⟩, rfl⟩
  · refine List.Pairwise.imp_of_mem ?_ ((List.nodup_iff_pairwise_ne.1 List.nodup_range).filter p)
    rintro a b ha hb hne y hy rfl e
    obtain ⟨h1, h2⟩ := List.mem_filter.1 ha
    obtain ⟨h3, h4⟩ := List.mem_filter.1 hb
    exact hne (hi a b (List.mem_range.1 h1) (List.mem_range.1 h3) h2 h4 e.symm)
theorem sumN_split (f : Nat → Nat) (a : Nat) : ∀ b, sumN f (a + b) = sumN f a + sumN (fun i => f (a + i)) b := by
  intro b
  induction b with
  | zero => rfl
  | succ b ih => rw [← Nat.add_assoc, sumN, ih, sumN]; omega
/-- Rows behind one another. -/
theorem sumN_rows {m : Nat} (hm : 0 < m) (f : Nat → Nat → Nat) : ∀ n, sumN (fun i => sumN (f i) m) n = sumN (fun c => f (c / m) (c % m)) (n * m) := by
  intro n
  induction n with
  | zero => rw [Nat.zero_mul]; rfl
  | succ n ih =>
    rw [sumN, ih, Nat.succ_mul, sumN_split]
    congr 1
    refine sumN_congr fun k hk => ?_
    have e1 : (n * m + k) / m = n := by rw [Nat.mul_comm, Nat.mul_add_div hm, Nat.div_eq_of_lt hk]; omega
    have e2 : (n * m + k) % m = k := by rw [Nat.mul_comm, Nat.mul_add_mod, Nat.mod_eq_of_lt hk]
    rw [e1, e2]

/-- The crossing pairs of a pairing π of N ports. -/
def crP (π : Nat → Nat) (a c : Nat) : Bool := decide (a < c) && decide (c < π a) && decide (π a < π c)
def chF (π : Nat → Nat) (N : Nat) : Nat := sumN (fun a => cntN (crP π a) N) N
theorem chF_flat (π : Nat → Nat) {N : Nat} (hN : 0 < N) : chF π N = cntN (fun x => crP π (x / N) (x % N)) (N * N) := by
  unfold chF cntN
  exact sumN_rows hN (fun a c => if crP π a c then 1 else 0) N
structure Pairing (π : Nat → Nat) (N : Nat) : Prop where
  lt : ∀ p, p < N → π p < N
  ne : ∀ p, p < N → π p ≠ p
  inv : ∀ p, p < N → π (π p) = p
theorem chF_le {π π' : Nat → Nat} {N : Nat} (hN : 0 < N) (h : Pairing π N) (hr : ∀ q, q < N → π' ((q + 1) % N) = (π q + 1) % N) : chF π N ≤ chF π' N := by
  rw [chF_flat π hN, chF_flat π' hN]
  have key : ∀ a c, a < N → c < N → crP π a c = true → (if π c = N - 1 then 0 else a + 1) < N ∧ (if π c = N - 1 then a + 1 else c + 1) < N ∧ crP π' (if π c = N - 1 then 0 else a + 1) (if π c = N - 1 then a + 1 else c + 1) = true := by
    intro a c ha hc hcr
    simp only [crP, Bool.and_eq_true, decide_eq_true_iff] at hcr
    obtain ⟨⟨h1, h2⟩, h3⟩ := hcr
    have hpc := h.lt c hc
    have hpa := h.lt a ha
    have ra := hr a ha
    rw [Nat.mod_eq_of_lt (show a + 1 < N by omega), Nat.mod_eq_of_lt (show π a + 1 < N by omega)] at ra
    by_cases e : π c = N - 1
    · have r0 := hr (N - 1) (by omega)
      have hp1 : π (N - 1) = c := by rw [← e, h.inv c hc]
      rw [show N - 1 + 1 = N by omega, Nat.mod_self, hp1, Nat.mod_eq_of_lt (show c + 1 < N by omega)] at r0
      simp only [e, if_true, crP, Bool.and_eq_true, decide_eq_true_iff, r0, ra]
      omega
    · have rc := hr c hc
      rw [Nat.mod_eq_of_lt (show c + 1 < N by omega), Nat.mod_eq_of_lt (show π c + 1 < N by omega)] at rc
      simp only [e, if_false, crP, Bool.and_eq_true, decide_eq_true_iff, rc, ra]
      omega
  refine cntN_inj (fun x => (if π (x % N) = N - 1 then 0 else x / N + 1) * N + (if π (x % N) = N - 1 then x / N + 1 else x % N + 1)) (fun x hx hp => ?_) (fun x y hx hy hp hq e => ?_)
  · have ha : x / N < N := (Nat.div_lt_iff_lt_mul hN).2 hx
    have hc : x % N < N := Nat.mod_lt _ hN
    obtain ⟨k1, k2, k3⟩ := key _ _ ha hc hp
    generalize (if π (x % N) = N - 1 then 0 else x / N + 1) = u at *
    generalize (if π (x % N) = N - 1 then x / N + 1 else x % N + 1) = v at *
    have e1 : (u * N + v) / N = u := by rw [Nat.mul_comm, Nat.mul_add_div hN, Nat.div_eq_of_lt k2]; omega
    have e2 : (u * N + v) % N = v := by rw [Nat.mul_comm, Nat.mul_add_mod, Nat.mod_eq_of_lt k2]
    refine ⟨?_, ?_⟩
    · have : (u + 1) * N ≤ N * N := Nat.mul_le_mul_right _ k1
      rw [Nat.succ_mul] at this
      show u * N + v < N * N
      omega
    · show crP π' ((u * N + v) / N) ((u * N + v) % N) = true
      rw [e1, e2]
      exact k3
  · have hax : x / N < N := (Nat.div_lt_iff_lt_mul hN).2 hx
    have hcx : x % N < N := Nat.mod_lt _ hN
    have hay : y / N < N := (Nat.div_lt_iff_lt_mul hN).2 hy
    have hcy : y % N < N := Nat.mod_lt _ hN
    obtain ⟨k1, k2, _⟩ := key _ _ hax hcx hp
    obtain ⟨l1, l2, _⟩ := key _ _ hay hcy hq
    have hx2 := Nat.div_add_mod' x N
    have hy2 := Nat.div_add_mod' y N
    have split : ∀ u v u' v' : Nat, v < N → v' < N → u * N + v = u' * N + v' → u = u' ∧ v = v' := by
      intro u v u' v' hv hv' e
      have e1 : (u * N + v) / N = u := by rw [Nat.mul_comm, Nat.mul_add_div hN, Nat.div_eq_of_lt hv]; omega
      have e2 : (u * N + v) % N = v := by rw [Nat.mul_comm, Nat.mul_add_mod, Nat.mod_eq_of_lt hv]
      have e3 : (u' * N + v') / N = u' := by rw [Nat.mul_comm, Nat.mul_add_div hN, Nat.div_eq_of_lt hv']; omega
      have e4 : (u' * N + v') % N = v' := by rw [Nat.mul_comm, Nat.mul_add_mod, Nat.mod_eq_of_lt hv']
      rw [e] at e1 e2
      exact ⟨by rw [← e1, e3], by rw [← e2, e4]⟩
    obtain ⟨s1, s2⟩ := split _ _ _ _ k2 l2 e
    by_cases c1 : π (x % N) = N - 1
    · rw [if_pos c1] at s1 s2
      by_cases c2 : π (y % N) = N - 1
      · rw [if_pos c2] at s2
        have e1 : x % N = y % N := by rw [← h.inv _ hcx, c1, ← c2, h.inv _ hcy]
        have e2 : x / N = y / N := Nat.succ.inj s2
        rw [← hx2, ← hy2, e1, e2]
      · rw [if_neg c2] at s1
        cases s1
    · rw [if_neg c1] at s1 s2
      by_cases c2 : π (y % N) = N - 1
      · rw [if_pos c2] at s1
        cases s1
      · rw [if_neg c2] at s1 s2
        have e1 : x % N = y % N := Nat.succ.inj s2
        have e2 : x / N = y / N := Nat.succ.inj s1
        rw [← hx2, ← hy2, e1, e2]
/-- Turned by k. -/
def rotP (π : Nat → Nat) (N k : Nat) (q : Nat) : Nat := (π ((q + (N - k % N)) % N) + k) % N
theorem rotP_at {π : Nat → Nat} {N k q : Nat} (hN : 0 < N) (hq : q < N) : rotP π N k ((q + k) % N) = (π q + k) % N := by
  unfold rotP
  rw [add_mod_sub k hN hq]
theorem rotP_pairing {π : Nat → Nat} {N : Nat} (hN : 0 < N) (h : Pairing π N) (k : Nat) : Pairing (rotP π N k) N where
  lt := fun p hp => Nat.mod_lt _ hN
  ne := fun p hp e => by
    have hr := ren_turn N k hN
    have hb := hr.back p hp
    have hf := hr.fg p hp
    have h1 := rotP_at (π := π) (k := k) hN hb
    have hf' : ((p + (N - k % N)) % N + k) % N = p := hf
    rw [hf', e] at h1
    have h2 := hr.gf _ (h.lt _ hb)
    have h3 : ((π ((p + (N - k % N)) % N) + k) % N + (N - k % N)) % N = π ((p + (N - k % N)) % N) := h2
    rw [← h1] at h3
    exact h.ne _ hb h3.symm
  inv := fun p hp => by
    have hr := ren_turn N k hN
    have hb := hr.back p hp
    have hf : ((p + (N - k % N)) % N + k) % N = p := hr.fg p hp
    have h1 := rotP_at (π := π) (k := k) hN hb
    rw [hf] at h1
    rw [h1, rotP_at hN (h.lt _ hb), h.inv _ hb, hf]
theorem rotP_next {π : Nat → Nat} {N k q : Nat} (hN : 0 < N) (hq : q < N) : rotP π N (k + 1) ((q + 1) % N) = (rotP π N k q + 1) % N := by
  have hr := ren_turn N k hN
  have hb := hr.back q hq
  have hf : ((q + (N - k % N)) % N + k) % N = q := hr.fg q hq
  generalize (q + (N - k % N)) % N = r at hb hf
  have h1 := rotP_at (π := π) (k := k) hN hb
  have h2 := rotP_at (π := π) (k := k + 1) hN hb
  rw [hf] at h1
  have e : (r + (k + 1)) % N = (q + 1) % N := by rw [← Nat.add_assoc, ← Nat.mod_add_mod (r + k) N 1, hf]
  rw [e] at h2
  rw [h1, h2, Nat.mod_add_mod, Nat.add_assoc]
theorem chF_congr {π π' : Nat → Nat} {N : Nat} (h : ∀ p, p < N → π p = π' p) : chF π N = chF π' N := by
  unfold chF
  refine sumN_congr fun a ha => cntN_congr fun c hc => ?_
  simp only [crP, h a ha, h c hc]
theorem chF_rot {π : Nat → Nat} {N : Nat} (hN : 0 < N) (h : Pairing π N) (k : Nat) (hk : k ≤ N) : chF (rotP π N k) N = chF π N := by
  have step : ∀ k, chF (rotP π N k) N ≤ chF (rotP π N (k + 1)) N := fun k => chF_le hN (rotP_pairing hN h k) fun q hq => rotP_next hN hq
  have mono : ∀ d k, chF (rotP π N k) N ≤ chF (rotP π N (k + d)) N := by
    intro d
    induction d with
    | zero => intro k; exact Nat.le_refl _
    | succ d ih => intro k; exact Nat.le_trans (ih k) (step (k + d))
  have e0 : chF (rotP π N 0) N = chF π N := chF_congr fun p hp => by
    have := rotP_at (π := π) (k := 0) hN hp
    rw [Nat.add_zero, Nat.add_zero, Nat.mod_eq_of_lt hp, Nat.mod_eq_of_lt (h.lt p hp)] at this
    exact this
  have eN : chF (rotP π N N) N = chF π N := chF_congr fun p hp => by
    have := rotP_at (π := π) (k := N) hN hp
    rw [Nat.add_mod_right, Nat.add_mod_right, Nat.mod_eq_of_lt hp, Nat.mod_eq_of_lt (h.lt p hp)] at this
    exact this
  have h1 := mono k 0
  have h2 := mono (N - k) k
  rw [Nat.zero_add, e0] at h1
  rw [show k + (N - k) = N by omega, eN] at h2
  omega

/-- Openers: ports that are less than their partners. -/
theorem openers {π : Nat → Nat} {N : Nat} (h : Pairing π N) : 2 * cntN (fun p => decide (p < π p)) N = N := by
  have e1 : cntN (fun p => decide (p < π p)) N + cntN (fun p => decide (π p < p)) N = N := by
    unfold cntN
    rw [← sumN_add]
    have : sumN (fun _ => 1) N = N := by rw [sumN_const]; omega
    refine Eq.trans (sumN_congr fun p hp => ?_) this
    have := h.ne p hp
    by_cases c : p < π p
    · have : ¬ π p < p := by omega
      simp [c, this]
    · have : π p < p := by omega
      simp [c, this]
  have e2 : cntN (fun p => decide (p < π p)) N ≤ cntN (fun p => decide (π p < p)) N := by
    refine cntN_inj π (fun p hp h1 => ⟨h.lt p hp, ?_⟩) (fun p q hp hq _ _ e => by rw [← h.inv p hp, e, h.inv q hq])
    rw [h.inv p hp]
    exact h1
  have e3 : cntN (fun p => decide (π p < p)) N ≤ cntN (fun p => decide (p < π p)) N := by
    refine cntN_inj π (fun p hp h1 => ⟨h.lt p hp, ?_⟩) (fun p q hp hq _ _ e => by rw [← h.inv p hp, e, h.inv q hq])
    rw [h.inv p hp]
    exact h1
  omega
theorem pairs_bound (o : Nat → Bool) : ∀ n, 2 * sumN (fun c => if o c then cntN o c else 0) n = cntN o n * (cntN o n - 1) := by
  intro n
  induction n with
  | zero => rfl
  | succ n ih =>
    rw [sumN, cntN_succ, Nat.mul_add, ih]
    cases o n
    · simp
    · simp only [if_true, Nat.add_sub_cancel]
      generalize cntN o n = q
      cases q with
      | zero => rfl
      | succ q =>
        simp only [Nat.succ_mul, Nat.add_sub_cancel, Nat.mul_succ]
        omega
theorem sumN_swap (f : Nat → Nat → Nat) (m : Nat) : ∀ n, sumN (fun a => sumN (f a) m) n = sumN (fun c => sumN (fun a => f a c) n) m := by
  intro n
  induction n with
  | zero => simp only [sumN]; rw [sumN_zero]
  | succ n ih => simp only [sumN]; rw [ih, ← sumN_add]
theorem chF_bound {π : Nat → Nat} {N : Nat} (h : Pairing π N) : 2 * chF π N ≤ N / 2 * (N / 2 - 1) := by
  have ho := openers h
  have e : N / 2 = cntN (fun p => decide (p < π p)) N := by omega
  rw [e, ← pairs_bound]
  refine Nat.mul_le_mul_left 2 ?_
  unfold chF cntN
  rw [sumN_swap]
  refine sumN_le fun c hc => ?_
  by_cases o : c < π c
  · simp only [o, decide_true, if_true]
    have e2 : sumN (fun a => if crP π a c = true then 1 else 0) N = sumN (fun a => if crP π a c = true then 1 else 0) c := by
      rw [show N = c + (N - c) by omega, sumN_split]
      have : sumN (fun i => if crP π (c + i) c = true then 1 else 0) (N - c) = 0 := by
        rw [sumN_congr (g := fun _ => 0) fun i _ => by
          have : ¬ c + i < c := by omega
          simp [crP, this]]
        exact sumN_zero _
      omega
    rw [e2]
    refine sumN_le fun a ha => ?_
    by_cases cr : crP π a c = true
    · have : a < π a := by
        simp only [crP, Bool.and_eq_true, decide_eq_true_iff] at cr
        omega
      simp [cr, this]
    · simp [cr]
  · have : sumN (fun a => if crP π a c = true then 1 else 0) N = 0 := by
      rw [sumN_congr (g := fun _ => 0) fun a ha => ?_]
      · exact sumN_zero _
      · have : crP π a c = false := by
          cases hcr : crP π a c
          · rfl
          · simp only [crP, Bool.and_eq_true, decide_eq_true_iff] at hcr
            omega
        simp [this]
    rw [this]
    exact Nat.zero_le _
/-- A list's pairing. -/
def piOf (xs : List Int) (p : Nat) : Nat := (xs.getD p 0).toNat
theorem piOf_pairing {xs : List Int} (h : okTo xs xs.length) : Pairing (piOf xs) xs.length where
  lt := fun p hp => by
    obtain ⟨m, h1, h2, _⟩ := okTo_val h hp
    unfold piOf
    rw [h1, Int.toNat_natCast]; exact h2
  ne := fun p hp => by
    obtain ⟨m, h1, _, h3, _⟩ := okTo_val h hp
    unfold piOf
    rw [h1, Int.toNat_natCast]; exact h3
  inv := fun p hp => by
    obtain ⟨m, h1, h2, h3, h4⟩ := okTo_val h hp
    unfold piOf
    rw [h1, Int.toNat_natCast, h4, Int.toNat_natCast]
theorem rowTo_cnt (xs : List Int) (a : Nat) : ∀ j, rowTo xs a j = cntN (chAt xs a) j := by
  intro j
  induction j with
  | zero => rfl
  | succ j ih => rw [rowTo, cntN_succ, ih]
theorem chTo_sum (xs : List Int) : ∀ i, chTo xs i = sumN (fun a => cntN (chAt xs a) xs.length) i := by
  intro i
  induction i with
  | zero => rfl
  | succ i ih => rw [chTo, sumN, ih, rowTo_cnt]
theorem chTo_chF {xs : List Int} (h : okTo xs xs.length) : chTo xs xs.length = chF (piOf xs) xs.length := by
  rw [chTo_sum]
  unfold chF
  refine sumN_congr fun a ha => cntN_congr fun c hc => ?_
  obtain ⟨m, h1, _⟩ := okTo_val h ha
  obtain ⟨l, k1, _⟩ := okTo_val h hc
  unfold chAt crP piOf
  rw [h1, k1, Int.toNat_natCast, Int.toNat_natCast]
  congr 1
  · congr 1
    · exact decide_eq_decide.2 (by omega)
    · exact decide_eq_decide.2 (by omega)
  · exact decide_eq_decide.2 (by omega)
theorem chordsN_turn {xs : List Int} {k : Nat} (hp : pairsB xs = true) (hk : k ≤ xs.length) (hk2 : k ≤ 20) : chordsN (turnL xs k) = chordsN xs := by
  have hT : turnB xs k = true := by
    simp only [turnB, hp, Bool.true_and, inB_iff]
    omega
  obtain ⟨t1, t2, t3⟩ := turnL_pairs hT
  have ok := (pairsB_iff.1 hp).1
  have ok2 := (pairsB_iff.1 t1).1
  have hl := inB_iff.1 (pairsB_iff.1 hp).2
  have hN : 0 < xs.length := by omega
  unfold chordsN
  rw [if_pos hp, if_pos t1, chTo_chF ok, chTo_chF ok2, t2]
  rw [← chF_rot hN (piOf_pairing ok) k hk]
  refine congrArg _ (chF_congr fun q hq => ?_)
  have hr := ren_turn xs.length k hN
  unfold piOf
  rw [t3, Int.toNat_natCast]
  rw [mapTo_at hr hq, Int.toNat_natCast]
  rfl
theorem chordsN_bound {xs : List Int} (hp : pairsB xs = true) : 0 ≤ chordsN xs ∧ 2 * chordsN xs ≤ ((xs.length / 2 * (xs.length / 2 - 1) : Nat) : Int) := by
  have ok := (pairsB_iff.1 hp).1
  have := chF_bound (piOf_pairing ok)
  unfold chordsN
  rw [if_pos hp, chTo_chF ok]
  omega
end Go.Proofs.Ytmlenaelijchjaa
