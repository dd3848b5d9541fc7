/- What a change of a cell does to the number of paths: plain facts on lists of texts. -/
import Derived.Test.YtmlenaelijchjaaPatchL
import Derived.Test.YtmlenaelijchjaaChangeW
namespace Go.Proofs.Ytmlenaelijchjaa
set_option linter.unusedVariables false
set_option linter.unusedSimpArgs false

theorem putS_lt {ss : List ByteArray} (hg : gridB ss = true) (q : Nat) {L : Int} (hL : letB L = true) {i k : Nat} (hi : i < (gr ss).n) (hk : k < (gr ss).m) : (gr (putS ss q L)).lt i k = (gr ss).putF q L i k := by
  have hok := gr_ok hg
  have h := gridT_gr (n := (gr ss).n) (m := (gr ss).m) (f := (gr ss).putF q L) hok.n1 fun i k hi hk => putF_let hok hL hi hk
  exact h.lt i k (by rw [h.n]; exact hi) (by rw [h.m]; exact hk)
theorem pat_put {ss : List ByteArray} (hg : gridB ss = true) {q : Nat} (hq : q < (gr ss).n * (gr ss).m) {L : Int} (hL : letB L = true) : (gr (putS ss q 46)).Pat (gr (putS ss q L)) q L := by
  have hok := gr_ok hg
  have s1 := putS_sides hg q 46
  have s2 := putS_sides hg q L
  refine ⟨gr_ok (putS_ok hg q rfl), gr_ok (putS_ok hg q hL), by rw [s1.1, s1.2]; exact hq, ?_, by rw [s1.1, s2.1], by rw [s1.2, s2.2], fun i k hi hk => ?_⟩
  · rw [s1.2, putS_lt hg q rfl (Gr.row_lt hok hq) (Gr.col_lt hok q)]
    unfold Gr.putF
    rw [if_pos (Gr.cell_eq hok q)]
  · rw [s1.1] at hi
    rw [s1.2] at hk ⊢
    rw [putS_lt hg q hL hi hk, putS_lt hg q rfl hi hk]
    unfold Gr.putF
    split <;> rfl
theorem putS_self {ss : List ByteArray} (hg : gridB ss = true) {q : Nat} (hq : q < (gr ss).n * (gr ss).m) : putS ss q ((gr ss).sig q) = ss := by
  have hok := gr_ok hg
  refine Eq.trans (gridT_congr fun i k hi hk => ?_) (gridT_of hg)
  unfold Gr.putF
  split
  · rename_i e
    unfold Gr.sig
    rw [← e, Gr.div_of hok hk, Gr.mod_of hok hk]
  · rfl
theorem sig_let {ss : List ByteArray} (hg : gridB ss = true) {q : Nat} (hq : q < (gr ss).n * (gr ss).m) : letB ((gr ss).sig q) = true :=
  (gr_ok hg).let' _ _ (Gr.row_lt (gr_ok hg) hq) (Gr.col_lt (gr_ok hg) q)
theorem sig_put {ss : List ByteArray} (hg : gridB ss = true) {q : Nat} (hq : q < (gr ss).n * (gr ss).m) {L : Int} (hL : letB L = true) : (gr (putS ss q L)).sig q = L := by
  have hok := gr_ok hg
  unfold Gr.sig
  rw [(putS_sides hg q L).2, putS_lt hg q hL (Gr.row_lt hok hq) (Gr.col_lt hok q)]
  unfold Gr.putF
  rw [if_pos (Gr.cell_eq hok q)]
theorem putS_putS {ss : List ByteArray} (hg : gridB ss = true) (q : Nat) {L L' : Int} (hL : letB L = true) : putS (putS ss q L) q L' = putS ss q L' := by
  have hok := gr_ok hg
  have s1 := putS_sides hg q L
  show gridT _ _ _ = gridT _ _ _
  rw [s1.1, s1.2]
  refine gridT_congr fun i k hi hk => ?_
  unfold Gr.putF
  rw [s1.2, putS_lt hg q hL hi hk]
  unfold Gr.putF
  split <;> rfl
theorem gridB_sizes {ss : List ByteArray} (hg : gridB ss = true) : ∀ s ∈ ss, s.size ≤ maxLen := fun s hs => by
  obtain ⟨i, hi, rfl⟩ := List.getElem_of_mem hs
  have h1 := gr_row hg hi
  have h2 := (gr_ok hg).m5
  have h3 : rowOf ss i = ss[i] := by simp [rowOf, hi]
  rw [← h3, h1]
  unfold maxLen
  omega
theorem exch_exch {c : Int} (h : letB c = true) : exch (exch c) = c := by
  simp [letB] at h
  unfold exch
  rcases h with (h | h) | h <;> subst h <;> rfl
/-- The number of paths for each letter of a cell. -/
theorem put_paths {ss : List ByteArray} (hg : gridB ss = true) {q : Nat} (hq : q < (gr ss).n * (gr ss).m) :
    ∃ (A : Nat) (T : List Nat), T ∈ allT ∧ valT T = true ∧ ∀ L, letB L = true → (gr (putS ss q L)).pmany = A + cnt4 T L := by
  have hz := (pat_put hg hq (L := 46) rfl)
  obtain ⟨A, hA⟩ := Gr.patch hz
  refine ⟨A + (gr ss).n + (gr ss).m, (gr (putS ss q 46)).rT q, Gr.rT_mem _ _, hz.valT, fun L hL => ?_⟩
  have s2 := putS_sides hg q L
  unfold Gr.pmany
  rw [hA _ L (pat_put hg hq hL), s2.1, s2.2]
  omega
theorem empty_facts {ss : List ByteArray} {q : Nat} (hb : mirB ss q = true) (hg : gridB ss = true) (hq : q < (gr ss).n * (gr ss).m) :
    emptyL ss q = ((gr (putS ss q 46)).pmany : Int) - (gr ss).pmany ∧ -1 ≤ emptyL ss q ∧ emptyL ss q ≤ 1 := by
  have e : emptyL ss q = ((gr (putS ss q 46)).pmany : Nat) - ((gr ss).pmany : Nat) := by simp [emptyL, hb, putP]
  obtain ⟨A, T, h1, h2, h3⟩ := put_paths hg hq
  have hs := sig_let hg hq
  have e1 := h3 46 rfl
  have e2 := h3 _ hs
  rw [putS_self hg hq] at e2
  have hc := chk4_facts h1 h2
  refine ⟨e, ?_⟩
  rw [e, e1, e2]
  simp [letB] at hs
  rcases hs with (h | h) | h <;> rw [h] <;> omega
theorem delta_facts {ss : List ByteArray} {q : Nat} (hb : mirB ss q = true) (hg : gridB ss = true) (hq : q < (gr ss).n * (gr ss).m) :
    -1 ≤ deltaL ss q ∧ deltaL ss q ≤ 1 ∧ mirB (putS ss q (exch ((gr ss).sig q))) q = true ∧ deltaL (putS ss q (exch ((gr ss).sig q))) q = - deltaL ss q := by
  have e : deltaL ss q = ((gr (putS ss q (exch ((gr ss).sig q)))).pmany : Nat) - ((gr ss).pmany : Nat) := by simp [deltaL, hb, putP]
  obtain ⟨A, T, h1, h2, h3⟩ := put_paths hg hq
  have hs := sig_let hg hq
  have hs2 := exch_let hs
  have e1 := h3 _ hs2
  have e2 := h3 _ hs
  have hgp := putS_ok hg q hs2
  have s1 := putS_sides hg q (exch ((gr ss).sig q))
  have hsp := sig_put hg hq hs2
  have hne : (gr ss).sig q ≠ 46 := by
    simp only [mirB, Bool.and_eq_true, Bool.not_eq_true', beq_eq_false_iff_ne] at hb
    exact hb.2
  have hne2 : exch ((gr ss).sig q) ≠ 46 := by
    intro h
    have := exch_exch hs
    rw [h] at this
    exact hne this.symm
  have hb2 : mirB (putS ss q (exch ((gr ss).sig q))) q = true := by
    simp only [mirB, cellB, Bool.and_eq_true, Bool.not_eq_true', beq_eq_false_iff_ne, inB_iff]
    rw [Int.toNat_natCast, hsp, s1.1, s1.2]
    exact ⟨⟨hgp, by omega⟩, hne2⟩
  have e3 : deltaL (putS ss q (exch ((gr ss).sig q))) q = ((gr ss).pmany : Nat) - ((gr (putS ss q (exch ((gr ss).sig q)))).pmany : Nat) := by
    simp only [deltaL, hb2, if_pos, putP, Int.toNat_natCast, hsp]
    rw [exch_exch hs, putS_putS hg q hs2, putS_self hg hq]
  rw [putS_self hg hq] at e2
  have hc := chk4_facts h1 h2
  refine ⟨?_, ?_, hb2, by rw [e3, e]; omega⟩
  all_goals
    rw [e, e1, e2]
    simp [letB] at hs
    rcases hs with (h | h) | h <;> rw [h] <;> simp only [exch] <;> simp <;> omega
theorem three_facts {ss : List ByteArray} {q : Nat} (hg : gridB ss = true) (hq : q < (gr ss).n * (gr ss).m) :
    ∃ a b c : Nat, putP ss q 46 = a ∧ putP ss q 114 = b ∧ putP ss q 102 = c ∧ a ≤ 200 ∧ b ≤ 200 ∧ c ≤ 200 ∧ (a + b + c = 3 * min a (min b c) ∨ a + b + c = 3 * min a (min b c) + 1) := by
  obtain ⟨A, T, h1, h2, h3⟩ := put_paths hg hq
  have hc := (chk4_facts h1 h2).1
  refine ⟨A + cnt4 T 46, A + cnt4 T 114, A + cnt4 T 102, ?_, ?_, ?_, ?_, ?_, ?_, by omega⟩
  · show ((gr (putS ss q 46)).pmany : Int) = _
    rw [h3 46 rfl]
  · show ((gr (putS ss q 114)).pmany : Int) = _
    rw [h3 114 rfl]
  · show ((gr (putS ss q 102)).pmany : Int) = _
    rw [h3 102 rfl]
  · rw [← h3 46 rfl]; exact pmany_le (putS_ok hg q rfl)
  · rw [← h3 114 rfl]; exact pmany_le (putS_ok hg q rfl)
  · rw [← h3 102 rfl]; exact pmany_le (putS_ok hg q rfl)
end Go.Proofs.Ytmlenaelijchjaa
