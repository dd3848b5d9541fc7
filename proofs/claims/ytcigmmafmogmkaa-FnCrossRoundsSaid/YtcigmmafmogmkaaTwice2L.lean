/- Plain: rounds that cross go twice through the cell. -/
import Derived.Test.YtcigmmafmogmkaaCross2L
import Derived.Test.YtcigmmafmogmkaaTimesRW
namespace Go.Proofs.Ytcigmmafmogmkaa
set_option linter.unusedVariables false
set_option linter.unusedSimpArgs false
set_option linter.unusedSectionVars false

theorem sum_idx (F : Stt → Nat) : ∀ l : List Stt, (l.map F).sum = sumN (fun k => F (l.getD k (0, 0))) l.length := by
  intro l
  induction l with
  | nil => rfl
  | cons a t ih =>
    rw [List.map_cons, List.sum_cons, ih, List.length_cons, Nat.add_comm t.length 1, sumN_split]
    have e : ∀ i, (a :: t).getD (1 + i) (0, 0) = t.getD i (0, 0) := fun i => by rw [Nat.add_comm]; rfl
    simp only [e]
    show F a + _ = (0 + F a) + _
    omega
theorem count_flat (f : Stt → List Stt) (c : Nat) : ∀ l : List Stt, ((l.flatMap f).map fun y => (y.1 : Int)).count (c : Int) = (l.map fun r => ((f r).map fun y => (y.1 : Int)).count (c : Int)).sum := by
  intro l
  induction l with
  | nil => rfl
  | cons a t ih => rw [List.flatMap_cons, List.map_append, List.count_append, ih, List.map_cons, List.sum_cons]
section
variable {g : Gr} (hg : g.ok)
include hg
theorem Gr.twice_at {c : Nat} (hc : c < g.n * g.m) (h : (g.crB c && g.rdB c) = true) : (((g.repsTo (4 * (g.n * g.m))).flatMap g.roundOf).map fun y => (y.1 : Int)).count (c : Int) = 2 := by
  have ht := Gr.reps_trv hg
  have v0 : g.val (c, 0) := ⟨hc, by show 0 < 4; omega⟩
  have v1 : g.val (c, 1) := ⟨hc, by show 1 < 4; omega⟩
  rw [(Gr.crB_lv hg hc).2] at h
  simp only [Gr.lvG, Bool.and_eq_true, beq_iff_eq, Bool.not_eq_true', decide_eq_false_iff_not, decide_eq_true_iff] at h
  obtain ⟨hs, hne, h0, h1⟩ := h
  obtain ⟨i, hi⟩ : ∃ i, g.lv (c, 0) = i + 1 := ⟨g.lv (c, 0) - 1, by omega⟩
  obtain ⟨j, hj⟩ : ∃ j, g.lv (c, 1) = j + 1 := ⟨g.lv (c, 1) - 1, by omega⟩
  have hij : i ≠ j := by omega
  have il := Gr.lv_le hg v0
  have jl := Gr.lv_le hg v1
  have r0 : g.rev (c, 0) = (c, 2) := Gr.rev_dot hg hs
  have r1 : g.rev (c, 1) = (c, 3) := Gr.rev_dot hg hs
  have l2 : g.lv (c, 2) = i + 1 := by rw [← r0, Gr.lv_rev hg v0, hi]
  have l3 : g.lv (c, 3) = j + 1 := by rw [← r1, Gr.lv_rev hg v1, hj]
  have v2 : g.val (c, 2) := ⟨hc, by show 2 < 4; omega⟩
  have v3 : g.val (c, 3) := ⟨hc, by show 3 < 4; omega⟩
  rw [count_flat, sum_idx]
  have key : ∀ k, k < (g.repsTo (4 * (g.n * g.m))).length → ((g.roundOf ((g.repsTo (4 * (g.n * g.m))).getD k (0, 0))).map fun y => (y.1 : Int)).count (c : Int) = (if k = i then 1 else 0) + (if k = j then 1 else 0) := by
    intro k hk
    have hget : (g.repsTo (4 * (g.n * g.m)))[k]? = some ((g.repsTo (4 * (g.n * g.m))).getD k (0, 0)) := by
      rw [List.getD_eq_getElem?_getD, List.getElem?_eq_getElem hk]; rfl
    generalize (g.repsTo (4 * (g.n * g.m))).getD k (0, 0) = r at hget
    obtain ⟨vr, cr⟩ := ht.all r (List.mem_of_getElem? hget)
    have e1 : ((g.roundOf r).map fun y => (y.1 : Int)).count (c : Int) = cntN (g.fw r c) 4 := Gr.count_cyc hg vr cr c
    rw [e1, cnt4_eq]
    have on_lv : ∀ d, d < 4 → On g.nx r (c, d) → g.lv (c, d) = k + 1 := fun d hd o => (Gr.lv_iff hg ⟨hc, hd⟩).2 ⟨r, hget, .inl o⟩
    have pair : ∀ x, g.val x → g.lv x = k + 1 → ((On g.nx r x ∧ ¬ On g.nx r (g.rev x)) ∨ (¬ On g.nx r x ∧ On g.nx r (g.rev x))) := fun x vx lx => by
      obtain ⟨r', hr', hs'⟩ := (Gr.lv_iff hg vx).1 lx
      rw [hget] at hr'
      cases hr'
      have hno := Gr.no_rev hg vx
      rcases hs' with o | o
      · exact .inl ⟨o, fun o2 => hno (on_total o o2)⟩
      · exact .inr ⟨fun o2 => hno (on_total o2 o), o⟩
    have hf : ∀ d, ¬ On g.nx r (c, d) → g.fw r c d = false := fun d hn => by
      cases h : g.fw r c d
      · rfl
      · exact absurd (Gr.fw_iff.1 h) hn
    have a02 : (if g.fw r c 0 = true then 1 else 0) + (if g.fw r c 2 = true then 1 else 0) = if k = i then 1 else 0 := by
      by_cases e : k = i
      · rw [if_pos e]
        have := pair (c, 0) v0 (by rw [hi, e])
        rw [r0] at this
        rcases this with ⟨o, n⟩ | ⟨n, o⟩
        · rw [Gr.fw_iff.2 o, hf 2 n]; rfl
        · rw [hf 0 n, Gr.fw_iff.2 o]; rfl
      · rw [if_neg e, hf 0 fun o => e (by have := on_lv 0 (by omega) o; omega), hf 2 fun o => e (by have := on_lv 2 (by omega) o; omega)]
        rfl
    have a13 : (if g.fw r c 1 = true then 1 else 0) + (if g.fw r c 3 = true then 1 else 0) = if k = j then 1 else 0 := by
      by_cases e : k = j
      · rw [if_pos e]
        have := pair (c, 1) v1 (by rw [hj, e])
        rw [r1] at this
        rcases this with ⟨o, n⟩ | ⟨n, o⟩
        · rw [Gr.fw_iff.2 o, hf 3 n]; rfl
        · rw [hf 1 n, Gr.fw_iff.2 o]; rfl
      · rw [if_neg e, hf 1 fun o => e (by have := on_lv 1 (by omega) o; omega), hf 3 fun o => e (by have := on_lv 3 (by omega) o; omega)]
        rfl
    omega
  rw [sumN_congr key, sumN_add, sumN_one (fun _ => 1) i _ (by omega), sumN_one (fun _ => 1) j _ (by omega)]
theorem Gr.rd_twice : g.crN g.rdB ≤ g.rtwoN := by
  unfold Gr.crN Gr.rtwoN
  exact cntN_sub fun c hc h => by rw [Gr.twice_at hg hc h]; rfl
end
end Go.Proofs.Ytcigmmafmogmkaa
