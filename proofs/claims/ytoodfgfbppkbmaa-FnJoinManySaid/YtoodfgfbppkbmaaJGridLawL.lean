/- Columns joined give the grid's beams and rounds: plain facts. -/
import Derived.Test.YtoodfgfbppkbmaaBeside2L
import Derived.Test.YtoodfgfbppkbmaaJGridL
namespace Go.Proofs.Ytoodfgfbppkbmaa
set_option linter.unusedVariables false
set_option linter.unusedSimpArgs false
set_option linter.unusedSectionVars false

section
variable {g g' : Gr} (hg : g.ok) (hg' : g'.ok) (hn : g'.n = g.n) (hm : g'.m = g.m) (hl : ∀ i k, i < g.n → k < g.m → g'.lt i k = g.lt i k)
include hg hn hm hl
theorem Gr.like_dir {x : Stt} (hx : g.val x) : g'.dir x = g.dir x := by
  unfold Gr.dir
  rw [hm, hl _ _ (Gr.row_lt hg hx.1) (Gr.col_lt hg x.1)]
theorem Gr.like_nx {x : Stt} (hx : g.val x) : g'.nx x = g.nx x := by
  unfold Gr.nx
  rw [Gr.like_dir hg hn hm hl hx, hm, hn]
theorem Gr.like_out {x : Stt} (hx : g.val x) : g'.out x = g.out x := by
  unfold Gr.out
  rw [Gr.like_dir hg hn hm hl hx, hm, hn]
theorem Gr.like_iter : ∀ k x, g.val x → iter g'.nx k x = iter g.nx k x := by
  intro k
  induction k with
  | zero => intro x hx; rfl
  | succ k ih =>
    intro x hx
    show (iter g'.nx k x).bind g'.nx = (iter g.nx k x).bind g.nx
    rw [ih x hx]
    cases hz : iter g.nx k x with
    | none => rfl
    | some z => exact Gr.like_nx hg hn hm hl ((Gr.rvs hg).steps.iter_stay k x z hx hz)
omit hg hl in
theorem Gr.like_ports : g'.ports = g.ports := by unfold Gr.ports; rw [hn, hm]
omit hg hl in
theorem Gr.like_ent (p : Nat) : g'.ent p = g.ent p := by unfold Gr.ent; rw [hn, hm]
theorem Gr.like_ends : g'.endsTo g'.ports = g.endsTo g.ports := by
  rw [Gr.like_ports hn hm]
  unfold Gr.endsTo
  refine List.map_congr_left fun p hp => ?_
  have hp' := List.mem_range.1 hp
  obtain ⟨K, y, h1, h2, h3⟩ := Gr.beam_ends hg hp'
  have hK : K < 100 := by have := Gr.size_le hg; omega
  have hB : g.Beam p K y := ⟨hK, h2, h3⟩
  have hev := Gr.ent_val hg hp'
  have hy := Gr.beam_val hg hp' hB
  have hB' : g'.Beam p K y := ⟨hK, by rw [Gr.like_ent hn hm, Gr.like_iter hg hn hm hl K _ hev]; exact h2, by rw [Gr.like_nx hg hn hm hl hy]; exact h3⟩
  rw [Gr.endOf_eq hB, Gr.endOf_eq hB', Gr.like_out hg hn hm hl hy]
include hg' in
theorem Gr.like_rmany : g'.rmany = g.rmany := by
  have hR := Gr.rvs hg
  have hR' := Gr.rvs hg'
  have hv : ∀ x, g'.val x ↔ g.val x := fun x => by unfold Gr.val; rw [hn, hm]
  have hon : ∀ x y, g.val x → (On g'.nx x y ↔ On g.nx x y) := fun x y hx => by
    constructor
    · rintro ⟨k, e⟩; exact ⟨k, by rw [← Gr.like_iter hg hn hm hl k x hx]; exact e⟩
    · rintro ⟨k, e⟩; exact ⟨k, by rw [Gr.like_iter hg hn hm hl k x hx]; exact e⟩
  have hc : ∀ x, g.val x → (Cyc g'.nx x ↔ Cyc g.nx x) := fun x hx => by
    constructor
    · rintro ⟨k, hk, e⟩; exact ⟨k, hk, by rw [← Gr.like_iter hg hn hm hl k x hx]; exact e⟩
    · rintro ⟨k, hk, e⟩; exact ⟨k, hk, by rw [Gr.like_iter hg hn hm hl k x hx]; exact e⟩
  have h1 : Rounds g.nx g.rev g.val g.rmany := Gr.reps_num hg
  have h2 : Rounds g'.nx g'.rev g'.val g'.rmany := Gr.reps_num hg'
  refine Num.unique hR'.eqv h2 (h1.congr (fun x => ?_) fun x y hx hy => ?_)
  · constructor
    · rintro ⟨a, b⟩; exact ⟨(hv x).2 a, (hc x a).2 b⟩
    · rintro ⟨a, b⟩; exact ⟨(hv x).1 a, (hc x ((hv x).1 a)).1 b⟩
  · have e : g'.rev y = g.rev y := by unfold Gr.rev; rw [Gr.like_dir hg hn hm hl hy.1]
    unfold Proofs.Ytoodfgfbppkbmaa.Same
    rw [e, hon x y hx.1, hon x _ hx.1]
end
/-- The columns up to k. -/
def preG (ss : List ByteArray) (k : Nat) : Gr := ⟨(gr ss).n, k + 1, (gr ss).lt⟩
section
variable {ss : List ByteArray} (hg : gridB ss = true)
include hg
theorem preG_ok {k : Nat} (hk : k < (gr ss).m) : (preG ss k).ok := by
  have h := gr_ok hg
  exact ⟨h.n1, h.n5, by show 1 ≤ k + 1; omega, by have := h.m5; show k + 1 ≤ 5; omega, fun i j hi hj => h.let' i j hi (by have : j < k + 1 := hj; omega)⟩
theorem preG_bes {k : Nat} (hk : k + 1 < (gr ss).m) : Bes (fun b => if b then gr (colS ss (k + 1)) else preG ss k) (preG ss (k + 1)) := by
  obtain ⟨c1, c2, c3, c4⟩ := colS_ok hg hk
  refine ⟨fun b => ?_, preG_ok hg hk, fun b => ?_, ?_, fun b i j hi hj => ?_⟩
  · cases b
    · exact preG_ok hg (by omega)
    · exact gr_ok c1
  · cases b
    · rfl
    · exact c2
  · show k + 1 + 1 = k + 1 + (gr (colS ss (k + 1))).m
    rw [c3]
  · cases b
    · show (gr ss).lt i (0 + j) = (gr ss).lt i j
      rw [Nat.zero_add]
    · have hj0 : j = 0 := by
        have : j < (gr (colS ss (k + 1))).m := hj
        omega
      subst hj0
      exact (c4 i hi).symm
theorem preG_all : ∀ k, k < (gr ss).m → (preG ss k).endsTo (preG ss k).ports = jgP ss k ∧ (preG ss k).rmany = jgN ss k := by
  intro k
  induction k with
  | zero =>
    intro hk
    obtain ⟨c1, c2, c3, c4⟩ := colS_ok hg hk
    have hl : ∀ i j, i < (gr (colS ss 0)).n → j < (gr (colS ss 0)).m → (preG ss 0).lt i j = (gr (colS ss 0)).lt i j := fun i j hi hj => by
      obtain rfl : j = 0 := by omega
      exact (c4 i (by rw [← c2]; exact hi)).symm
    exact ⟨Gr.like_ends (gr_ok c1) c2.symm c3.symm hl, Gr.like_rmany (gr_ok c1) (preG_ok hg hk) c2.symm c3.symm hl⟩
  | succ k ih =>
    intro hk
    obtain ⟨i1, i2⟩ := ih (by omega)
    obtain ⟨c1, c2, c3, c4⟩ := colS_ok hg hk
    have H := preG_bes hg hk
    have h1 := bes_beams H
    have h2 := bes_rounds H
    simp only [Bool.false_eq_true, if_false, if_true] at h1 h2
    rw [i1, c3] at h1
    rw [i1, i2, c3] at h2
    refine ⟨h1, ?_⟩
    rw [h2]
    show _ = jgN ss k + joinN (gr ss).n (k + 1) 1 (jgP ss k) (colP ss (k + 1)) + (gr (colS ss (k + 1))).rmany
    show jgN ss k + (gr (colS ss (k + 1))).rmany + joinN (gr ss).n (k + 1) 1 (jgP ss k) (colP ss (k + 1)) = _
    omega
theorem jg_all : jgL ss = beamsB ss ∧ jgM ss = ((gr ss).rmany : Nat) := by
  have hok := gr_ok hg
  have hm1 := hok.m1
  obtain ⟨h1, h2⟩ := preG_all hg ((gr ss).m - 1) (by omega)
  have e : preG ss ((gr ss).m - 1) = gr ss := by
    unfold preG
    rw [show (gr ss).m - 1 + 1 = (gr ss).m by omega]
  rw [e] at h1 h2
  unfold jgL jgM
  rw [if_pos hg, if_pos hg, ← h1, ← h2, beams_eq hg]
  exact ⟨rfl, rfl⟩
end
end Go.Proofs.Ytoodfgfbppkbmaa
