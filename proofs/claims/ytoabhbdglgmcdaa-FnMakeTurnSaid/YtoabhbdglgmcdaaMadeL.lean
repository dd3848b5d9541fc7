/- Grids by their numbers, and those that have a pairing: plain facts. -/
import Derived.Test.YtoabhbdglgmcdaaTurnPL
import Derived.Test.YtoabhbdglgmcdaaGridOfW
import Derived.Test.YtoabhbdglgmcdaaChordsTL
import Derived.Test.YtoabhbdglgmcdaaTwiceW
namespace Go.Proofs.Ytoabhbdglgmcdaa
open Go.RowKit
set_option linter.unusedVariables false
set_option linter.unusedSimpArgs false

/-- The grid of a number. -/
def gN (n m k : Nat) : List ByteArray := gridT n m (ofF k m)
/-- Whether the grid of a number has a pairing. -/
noncomputable def hasB (n m : Nat) (xs : List Int) (k : Nat) : Bool := eqL (beamsB (gN n m k)) xs
/-- The numbers below j of grids that have a pairing. -/
noncomputable def madeTo (n m : Nat) (xs : List Int) (j : Nat) : List Nat := (List.range j).filter (hasB n m xs)
noncomputable def madeL (n m : Nat) (xs : List Int) : List Nat := madeTo n m xs (3 ^ (n * m))
theorem madeTo_yes {n m : Nat} {xs : List Int} {j : Nat} (h : hasB n m xs j = true) : madeTo n m xs (j + 1) = madeTo n m xs j ++ [j] := by
  simp [madeTo, List.range_succ, h]
theorem madeTo_no {n m : Nat} {xs : List Int} {j : Nat} (h : hasB n m xs j = false) : madeTo n m xs (j + 1) = madeTo n m xs j := by
  simp [madeTo, List.range_succ, h]
theorem madeTo_zero (n m : Nat) (xs : List Int) : madeTo n m xs 0 = [] := rfl
theorem mem_madeTo {n m : Nat} {xs : List Int} {j k : Nat} : k ∈ madeTo n m xs j ↔ k < j ∧ hasB n m xs k = true := by
  simp [madeTo]
theorem madeTo_le (n m : Nat) (xs : List Int) (j : Nat) : (madeTo n m xs j).length ≤ j := by
  unfold madeTo
  exact Nat.le_trans (List.length_filter_le _ _) (by simp)
theorem madeTo_cnt (n m : Nat) (xs : List Int) (j : Nat) : (madeTo n m xs j).length = cntN (hasB n m xs) j := by
  rw [cntN_list]; rfl
/-- The least number of mirrors. -/
def leastL (f : Nat → Nat) (b : Nat) (L : List Nat) : Nat := L.foldl (fun b k => min b (f k)) b
theorem leastL_snoc (f : Nat → Nat) (b : Nat) (L : List Nat) (k : Nat) : leastL f b (L ++ [k]) = min (leastL f b L) (f k) := by
  simp [leastL, List.foldl_append]
theorem leastL_base (f : Nat → Nat) (L : List Nat) : ∀ b, leastL f b L ≤ b := by
  induction L with
  | nil => intro b; exact Nat.le_refl _
  | cons x L ih => intro b; exact Nat.le_trans (ih _) (Nat.min_le_left _ _)
theorem leastL_le (f : Nat → Nat) {x : Nat} {L : List Nat} : ∀ {b : Nat}, x ∈ L → leastL f b L ≤ f x := by
  induction L with
  | nil => intro b h; simp at h
  | cons y L ih =>
    intro b h
    rcases List.mem_cons.1 h with rfl | h
    · exact Nat.le_trans (leastL_base f L _) (Nat.min_le_right _ _)
    · exact ih h
theorem leastL_ge (f : Nat → Nat) {v : Nat} {L : List Nat} : ∀ {b : Nat}, v ≤ b → (∀ x ∈ L, v ≤ f x) → v ≤ leastL f b L := by
  induction L with
  | nil => intro b h _; exact h
  | cons y L ih =>
    intro b h hL
    exact ih (Nat.le_min.2 ⟨h, hL y List.mem_cons_self⟩) fun x hx => hL x (List.mem_cons_of_mem _ hx)

/-- The number of digits below 3. -/
def numD (d : Nat → Nat) : Nat → Nat
  | 0 => 0
  | j + 1 => numD d j + d j * 3 ^ j
theorem numD_lt {d : Nat → Nat} (h : ∀ c, d c < 3) : ∀ j, numD d j < 3 ^ j := by
  intro j
  induction j with
  | zero => exact Nat.zero_lt_one
  | succ j ih =>
    have h1 : d j * 3 ^ j ≤ 2 * 3 ^ j := Nat.mul_le_mul_right _ (by have := h j; omega)
    have h2 : 3 ^ (j + 1) = 3 ^ j * 3 := Nat.pow_succ 3 j
    show numD d j + d j * 3 ^ j < _
    omega
theorem numD_dig {d : Nat → Nat} (h : ∀ c, d c < 3) : ∀ j c, c < j → numD d j / 3 ^ c % 3 = d c := by
  intro j
  induction j with
  | zero => intro c hc; omega
  | succ j ih =>
    intro c hc
    show (numD d j + d j * 3 ^ j) / 3 ^ c % 3 = d c
    have hp : 0 < 3 ^ c := Nat.pow_pos (by omega)
    by_cases hj : c = j
    · subst hj
      rw [Nat.add_mul_div_right _ _ hp, Nat.div_eq_of_lt (numD_lt h c), Nat.zero_add]
      exact Nat.mod_eq_of_lt (h c)
    · have e : d j * 3 ^ j = (d j * 3 ^ (j - c - 1) * 3) * 3 ^ c := by
        have h1 : 3 ^ j = 3 ^ (j - c - 1) * 3 * 3 ^ c := by
          rw [← Nat.pow_succ, ← Nat.pow_add]
          congr 1
          omega
        rw [h1]
        simp only [Nat.mul_assoc]
      rw [e, Nat.add_mul_div_right _ _ hp, Nat.add_mul_mod_self_right]
      exact ih c (by omega)
theorem dig_ext : ∀ (N k k' : Nat), k < 3 ^ N → k' < 3 ^ N → (∀ c, c < N → k / 3 ^ c % 3 = k' / 3 ^ c % 3) → k = k' := by
  intro N
  induction N with
  | zero => intro k k' h h' _; omega
  | succ N ih =>
    intro k k' h h' hc
    have h0 := hc 0 (by omega)
    rw [Nat.pow_zero, Nat.div_one, Nat.div_one] at h0
    have hp : 3 ^ (N + 1) = 3 ^ N * 3 := Nat.pow_succ 3 N
    have := ih (k / 3) (k' / 3) (by omega) (by omega) fun c hcN => by
      have := hc (c + 1) (by omega)
      rw [show 3 ^ (c + 1) = 3 * 3 ^ c by rw [Nat.pow_succ, Nat.mul_comm], ← Nat.div_div_eq_div_mul, ← Nat.div_div_eq_div_mul] at this
      exact this
    omega
def dig (c : Int) : Nat := if c = 46 then 0 else if c = 114 then 1 else 2
theorem dig_lt (c : Int) : dig c < 3 := by
  unfold dig
  split
  · omega
  · split <;> omega
theorem dgl_dig {c : Int} (h : letB c = true) : dgl (dig c) = c := by
  simp [letB] at h
  rcases h with (h | h) | h <;> subst h <;> rfl
theorem dig_dgl {d : Nat} (h : d < 3) : dig (dgl d) = d := by
  have : d = 0 ∨ d = 1 ∨ d = 2 := by omega
  rcases this with rfl | rfl | rfl <;> rfl

theorem gN_ok {n m : Nat} (k : Nat) (hn1 : 1 ≤ n) (hn5 : n ≤ 5) (hm1 : 1 ≤ m) (hm5 : m ≤ 5) : gridB (gN n m k) = true :=
  gridT_ok hn1 hn5 hm1 hm5 fun _ _ _ _ => dgl_let _
theorem gN_n (n m k : Nat) : (gr (gN n m k)).n = n := gridT_length _ _ _
theorem gN_m {n m : Nat} (k : Nat) (hn1 : 1 ≤ n) : (gr (gN n m k)).m = m := by
  show (rowOf (gridT n m (ofF k m)) 0).size = m
  rw [gridT_row (show 0 < n by omega), rowT_size]
theorem gN_lt {n m i j : Nat} (k : Nat) (hi : i < n) (hj : j < m) : (gr (gN n m k)).lt i j = ofF k m i j := by
  show sgn (rowOf (gridT n m (ofF k m)) i) j = _
  have hb : 0 ≤ ofF k m i j ∧ ofF k m i j < 256 := letB_bd (dgl_let _)
  rw [gridT_row hi, rowT_sgn hj hb]
theorem gridB_sizes' {ss : List ByteArray} (hg : gridB ss = true) : ∀ s ∈ ss, 1 ≤ s.size ∧ s.size ≤ 5 := fun s hs => by
  obtain ⟨i, hi, rfl⟩ := List.getElem_of_mem hs
  have hok := gr_ok hg
  have h1 := gr_row hg hi
  have h2 : rowOf ss i = ss[i] := by simp [rowOf, hi]
  rw [h2] at h1
  have := hok.m1
  have := hok.m5
  omega
/-- The number of a grid. -/
def numG (ss : List ByteArray) : Nat := numD (fun c => dig ((gr ss).lt (c / (gr ss).m) (c % (gr ss).m))) ((gr ss).n * (gr ss).m)
theorem cell_lt {n m i k : Nat} (hi : i < n) (hk : k < m) : i * m + k < n * m := by
  have h1 : (i + 1) * m ≤ n * m := Nat.mul_le_mul_right m hi
  rw [Nat.succ_mul] at h1
  omega
theorem cell_div {m i k : Nat} (hk : k < m) : (i * m + k) / m = i ∧ (i * m + k) % m = k := by
  constructor
  · rw [Nat.mul_comm, Nat.mul_add_div (by omega), Nat.div_eq_of_lt hk, Nat.add_zero]
  · rw [Nat.mul_comm, Nat.mul_add_mod, Nat.mod_eq_of_lt hk]
theorem numG_lt (ss : List ByteArray) : numG ss < 3 ^ ((gr ss).n * (gr ss).m) := numD_lt (fun _ => dig_lt _) _
theorem gN_num {ss : List ByteArray} (hg : gridB ss = true) : gN (gr ss).n (gr ss).m (numG ss) = ss := by
  have hok := gr_ok hg
  refine Eq.trans ?_ (gridT_of hg)
  refine gridT_congr fun i k hi hk => ?_
  show dgl (numG ss / 3 ^ (i * (gr ss).m + k) % 3) = _
  unfold numG
  rw [numD_dig (fun _ => dig_lt _) _ _ (cell_lt hi hk), (cell_div hk).1, (cell_div hk).2, dgl_dig (hok.let' i k hi hk)]
theorem gN_inj {n m k k' : Nat} (hk : k < 3 ^ (n * m)) (hk' : k' < 3 ^ (n * m)) (h : ∀ i j, i < n → j < m → ofF k m i j = ofF k' m i j) : k = k' := by
  refine dig_ext (n * m) k k' hk hk' fun c hc => ?_
  have hm : 0 < m := Nat.pos_of_ne_zero fun e => by rw [e, Nat.mul_zero] at hc; omega
  have h1 : c / m < n := (Nat.div_lt_iff_lt_mul hm).2 hc
  have h2 : c % m < m := Nat.mod_lt _ hm
  have e := h (c / m) (c % m) h1 h2
  unfold ofF at e
  rw [show c / m * m + c % m = c by rw [Nat.mul_comm]; exact Nat.div_add_mod c m] at e
  have e2 : dig (dgl (k / 3 ^ c % 3)) = dig (dgl (k' / 3 ^ c % 3)) := by rw [e]
  rw [dig_dgl (Nat.mod_lt _ (by omega)), dig_dgl (Nat.mod_lt _ (by omega))] at e2
  exact e2

theorem ofF_let (k m i j : Nat) : letB (ofF k m i j) = true := dgl_let _
theorem exch2 {c : Int} (h : letB c = true) : exch (exch c) = c := by
  simp [letB] at h
  rcases h with (h | h) | h <;> subst h <;> rfl
theorem exch46 {c : Int} (h : letB c = true) : (exch c == 46) = (c == 46) := by
  simp [letB] at h
  rcases h with (h | h) | h <;> subst h <;> rfl
/-- The number of the grid turned. -/
def turnN (n m k : Nat) : Nat := numG (turnS (gN n m k))
section
variable {n m : Nat} (hn1 : 1 ≤ n) (hn5 : n ≤ 5) (hm1 : 1 ≤ m) (hm5 : m ≤ 5)
include hn1 hn5 hm1 hm5
theorem turnS_n (k : Nat) : (gr (turnS (gN n m k))).n = m := by
  rw [(turnS_turned (gN_ok k hn1 hn5 hm1 hm5)).n, gN_m k hn1]
theorem turnS_m (k : Nat) : (gr (turnS (gN n m k))).m = n := by
  rw [(turnS_turned (gN_ok k hn1 hn5 hm1 hm5)).m, gN_n]
theorem turnN_lt (k : Nat) : turnN n m k < 3 ^ (m * n) := by
  have := numG_lt (turnS (gN n m k))
  rw [turnS_n hn1 hn5 hm1 hm5, turnS_m hn1 hn5 hm1 hm5] at this
  exact this
theorem gN_turnN (k : Nat) : gN m n (turnN n m k) = turnS (gN n m k) := by
  have := gN_num (turnS_ok (gN_ok k hn1 hn5 hm1 hm5))
  rw [turnS_n hn1 hn5 hm1 hm5, turnS_m hn1 hn5 hm1 hm5] at this
  exact this
theorem turnN_lt' (k : Nat) {i j : Nat} (hi : i < m) (hj : j < n) : (gr (turnS (gN n m k))).lt i j = exch (ofF k m (n - 1 - j) i) := by
  have hg := gN_ok k hn1 hn5 hm1 hm5
  rw [← gN_turnN hn1 hn5 hm1 hm5, gN_lt _ hi hj]
  have e : gridT m n (ofF (turnN n m k) n) = gridT m n (fun r c => exch (ofF k m (n - 1 - c) r)) := by
    have h1 := gN_turnN hn1 hn5 hm1 hm5 k
    rw [turnS_eq hg, gN_m k hn1, gN_n] at h1
    refine Eq.trans h1 (gridT_congr fun r c hr hc => ?_)
    show exch ((gr (gN n m k)).lt ((gr (gN n m k)).n - 1 - c) r) = _
    rw [gN_n, gN_lt k (by omega) hr]
  have e1 : sgn (rowOf (gridT m n (ofF (turnN n m k) n)) i) j = sgn (rowOf (gridT m n (fun r c => exch (ofF k m (n - 1 - c) r))) i) j := by rw [e]
  have b1 := letB_bd (ofF_let (turnN n m k) n i j)
  have b2 := letB_bd (exch_let (ofF_let k m (n - 1 - j) i))
  rw [gridT_row hi, gridT_row hi, rowT_sgn (f := ofF (turnN n m k) n i) hj b1, rowT_sgn (f := fun c => exch (ofF k m (n - 1 - c) i)) hj b2] at e1
  exact e1
theorem turnN_inj {k k' : Nat} (hk : k < 3 ^ (n * m)) (hk' : k' < 3 ^ (n * m)) (h : turnN n m k = turnN n m k') : k = k' := by
  refine gN_inj hk hk' fun i j hi hj => ?_
  have e1 := turnN_lt' hn1 hn5 hm1 hm5 k (i := j) (j := n - 1 - i) hj (by omega)
  have e2 := turnN_lt' hn1 hn5 hm1 hm5 k' (i := j) (j := n - 1 - i) hj (by omega)
  rw [← gN_turnN hn1 hn5 hm1 hm5, h, gN_turnN hn1 hn5 hm1 hm5, e2] at e1
  rw [show n - 1 - (n - 1 - i) = i by omega] at e1
  have := congrArg exch e1
  rw [exch2 (ofF_let _ _ _ _), exch2 (ofF_let _ _ _ _)] at this
  exact this.symm
theorem hasB_turn {k : Nat} {xs : List Int} (h : hasB n m xs k = true) : hasB m n (jturnL n m xs) (turnN n m k) = true := by
  have hg := gN_ok k hn1 hn5 hm1 hm5
  have e : beamsB (gN n m k) = xs := by simpa [hasB, eqL] using h
  have := beams_turn hg
  rw [gN_n, gN_m k hn1, e] at this
  unfold hasB
  rw [gN_turnN hn1 hn5 hm1 hm5, ← this]
  exact eqL_true rfl
theorem made_turn_le (xs : List Int) : (madeL n m xs).length ≤ (madeL m n (jturnL n m xs)).length := by
  unfold madeL
  rw [madeTo_cnt, madeTo_cnt]
  exact cntN_inj (turnN n m) (fun c hc hp => ⟨turnN_lt hn1 hn5 hm1 hm5 c, hasB_turn hn1 hn5 hm1 hm5 hp⟩) fun c c' hc hc' _ _ e => turnN_inj hn1 hn5 hm1 hm5 hc hc' e
end
theorem sumN_rev (f : Nat → Nat) : ∀ n, sumN (fun k => f (n - 1 - k)) n = sumN f n := by
  intro n
  induction n with
  | zero => rfl
  | succ n ih =>
    have h := sumN_split (fun k => f (n + 1 - 1 - k)) 1 n
    rw [Nat.add_comm 1 n] at h
    rw [h]
    have e1 : sumN (fun k => f (n + 1 - 1 - k)) 1 = f n := by
      show 0 + f (n + 1 - 1 - 0) = f n
      rw [Nat.zero_add]
      rfl
    have e2 : sumN (fun i => f (n + 1 - 1 - (1 + i))) n = sumN f n := by
      rw [← ih]
      exact sumN_congr fun i hi => by rw [show n + 1 - 1 - (1 + i) = n - 1 - i by omega]
    rw [e1, e2]
    show _ = sumN f n + f n
    omega
/-- The mirrors of the grid of a number. -/
def mirK (n m k : Nat) : Nat := (gr (gN n m k)).mirN
theorem mirK_eq {n m : Nat} (k : Nat) (hn1 : 1 ≤ n) : mirK n m k = sumN (fun i => sumN (fun j => if !(ofF k m i j == 46) then 1 else 0) m) n := by
  unfold mirK Gr.mirN Gr.mirR cntN
  rw [gN_n, gN_m k hn1]
  exact sumN_congr fun i hi => sumN_congr fun j hj => by show (if !((gr (gN n m k)).lt i j == 46) then 1 else 0) = _; rw [gN_lt k hi hj]
theorem mirK_le {n m : Nat} (k : Nat) (hn1 : 1 ≤ n) : mirK n m k ≤ n * m := by
  unfold mirK Gr.mirN Gr.mirR
  rw [gN_n, gN_m k hn1]
  exact sumN_bound fun i _ => cntN_le _ _
section
variable {n m : Nat} (hn1 : 1 ≤ n) (hn5 : n ≤ 5) (hm1 : 1 ≤ m) (hm5 : m ≤ 5)
include hn1 hn5 hm1 hm5
theorem mirK_turn (k : Nat) : mirK m n (turnN n m k) = mirK n m k := by
  have e1 : mirK m n (turnN n m k) = sumN (fun i => sumN (fun j => if !(ofF k m (n - 1 - j) i == 46) then 1 else 0) n) m := by
    unfold mirK Gr.mirN Gr.mirR cntN
    rw [gN_turnN hn1 hn5 hm1 hm5, turnS_n hn1 hn5 hm1 hm5, turnS_m hn1 hn5 hm1 hm5]
    refine sumN_congr fun i hi => sumN_congr fun j hj => ?_
    show (if !((gr (turnS (gN n m k))).lt i j == 46) then 1 else 0) = _
    rw [turnN_lt' hn1 hn5 hm1 hm5 k hi hj, exch46 (ofF_let _ _ _ _)]
  rw [e1, mirK_eq k hn1, sumN_swap]
  exact sumN_rev (fun a => sumN (fun c => if !(ofF k m a c == 46) then 1 else 0) m) n
theorem least_turn_le (xs : List Int) : leastL (mirK m n) (m * n) (madeL m n (jturnL n m xs)) ≤ leastL (mirK n m) (n * m) (madeL n m xs) := by
  refine leastL_ge _ (by rw [Nat.mul_comm n m]; exact leastL_base _ _ _) fun x hx => ?_
  have hx := mem_madeTo.1 hx
  rw [← mirK_turn hn1 hn5 hm1 hm5 x]
  exact leastL_le _ (mem_madeTo.2 ⟨turnN_lt hn1 hn5 hm1 hm5 x, hasB_turn hn1 hn5 hm1 hm5 hx.2⟩)
end
/-- Turned pairings are made as often, with as few mirrors. -/
theorem made_turn {n m : Nat} {xs : List Int} (h : ofB n m xs = true) : (madeL m n (jturnL n m xs)).length = (madeL n m xs).length ∧ leastL (mirK m n) (m * n) (madeL m n (jturnL n m xs)) = leastL (mirK n m) (n * m) (madeL n m xs) := by
  obtain ⟨h1, h2, h3, h4, _⟩ := ofB_iff.1 h
  have a1 := made_turn_le (n := n) (m := m) (by omega) (by omega) (by omega) (by omega) xs
  have a2 := made_turn_le (n := m) (m := n) (by omega) (by omega) (by omega) (by omega) (jturnL n m xs)
  have a3 := made_turn_le (n := n) (m := m) (by omega) (by omega) (by omega) (by omega) (jturnL m n (jturnL n m xs))
  have a4 := made_turn_le (n := m) (m := n) (by omega) (by omega) (by omega) (by omega) (jturnL n m (jturnL m n (jturnL n m xs)))
  have b1 := least_turn_le (n := n) (m := m) (by omega) (by omega) (by omega) (by omega) xs
  have b2 := least_turn_le (n := m) (m := n) (by omega) (by omega) (by omega) (by omega) (jturnL n m xs)
  have b3 := least_turn_le (n := n) (m := m) (by omega) (by omega) (by omega) (by omega) (jturnL m n (jturnL n m xs))
  have b4 := least_turn_le (n := m) (m := n) (by omega) (by omega) (by omega) (by omega) (jturnL n m (jturnL m n (jturnL n m xs)))
  rw [jturn4 h] at a4 b4
  exact ⟨by omega, by omega⟩
end Go.Proofs.Ytoabhbdglgmcdaa
