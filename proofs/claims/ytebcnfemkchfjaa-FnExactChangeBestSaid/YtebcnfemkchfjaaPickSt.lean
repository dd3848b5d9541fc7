/- Draws and appends, in the state of a law's walk. -/
import Derived.Test.YtebcnfemkchfjaaReaderW
import Derived.Deep.RegionLaw
namespace Go.Proofs.Ytebcnfemkchfjaa
open Go.RowKit
set_option linter.unusedVariables false

/-- A draw, whatever else has been made. -/
def PickedSt (w0 : World) (segs : Nat → List Seg) (p : Nat) (n : Int) (e : Ending) (w' : World) : Prop :=
  ∃ r : Int, e = .returned (.int .i64 r) ∧ 0 ≤ r ∧ (1 ≤ n → r < n) ∧ (n < 1 → r = 0) ∧ St w0 w' (segs (p + 1))

theorem pick_st (w0 w : World) (pre post : List Seg) (g : Nat) (ao : Option Addr) (zs : List Int) (cap p : Nat) (n : Int) (hy : CellsY w0 ao zs) (h : St w0 w (pre ++ SR g ao zs.length cap p :: post))
    (hp : p ≤ 1000000) (hz : zs.length ≤ 1000000) (hn : n ≤ 1000000000) (hn0 : -1000000000 ≤ n) :
    Calls Try.prog 104 #[.pointer (some ⟨g, 0, none⟩), .int .i64 n] w (PickedSt w0 (fun p => pre ++ SR g ao zs.length cap p :: post) p n) := by
  have hr := h.own (SR g ao zs.length cap p) (by simp)
  have hg : ∀ b off, ao = some ⟨b, off, none⟩ → 0 < zs.length → b ≠ g := fun b off e hl => by
    subst e
    obtain ⟨b', off', he, hc, _⟩ := hy 0 hl
    simp at he
    obtain ⟨rfl, rfl⟩ := he
    have h1 := World.block_lt_of_cell? w0 _ hc
    have h2 := (SR_cells hr).2.2.2.2
    simp at h1
    omega
  by_cases hl : 0 < zs.length
  · refine (pick_any w0.heap.size g ao zs cap p n w (hy.below h.below (Nat.le_refl _)) hr (fun b off e => hg b off e hl) hp hz hn hn0).mono ?_
    rintro e w' ⟨r, he, h1, h2, h3, h4, h5⟩
    exact ⟨r, he, h1, h2, h3, St.writeSeg pre post _ _ h rfl h4 h5⟩
  · have hz0 : zs = [] := List.eq_nil_of_length_eq_zero (by omega)
    subst hz0
    have hr' : (SR g none ([] : List Int).length cap p).own w w0.heap.size ∨ True := .inr trivial
    by_cases ha : ∀ b off, ao = some ⟨b, off, none⟩ → b ≠ g
    · refine (pick_any w0.heap.size g ao [] cap p n w (CellsY.nil _ _) hr ha hp hz hn hn0).mono ?_
      rintro e w' ⟨r, he, h1, h2, h3, h4, h5⟩
      exact ⟨r, he, h1, h2, h3, St.writeSeg pre post _ _ h rfl h4 h5⟩
    · refine (pick_none w0.heap.size g ao cap p n w hr hp hn hn0).mono ?_
      rintro e w' ⟨r, he, h1, h2, h3, h4, h5⟩
      exact ⟨r, he, h1, h2, h3, St.writeSeg pre post _ _ h rfl h4 h5⟩

/-- 'append' to an owned slice of numbers, as a step of a region that draws its order. -/
theorem step_appendI {ops : Array Oper} {o : Oper} {a : Act} {w : World} {K : Act → World → Prop} {Q : Exit → Act → World → Prop} {E : Prop}
    (hg : o.guard = none) (s x : Operand) (hop : o.op = Op.call { callee := Callee.builtin Builtin.append, args := #[s, x], argTypes := #[35, 35] })
    (base : Nat) (v : Value) (xs ys : List Int) (hs : a.eval s = v) (hown : OwnI w base v xs) (ad' : Option Addr) (ad : Addr) (m c : Nat) (hx : a.eval x = .slice ad' m c) (had : ad' = some ad) (hm : m = ys.length)
    (hc : ∀ j, j < ys.length → w.cell? (ad.add j) = some (.int .i64 (ys.getD j 0))) (hl : xs.length + ys.length ≤ 4194304) (hb : base ≤ w.heap.size)
    (hK : ∀ v' w', OwnI w' base v' (xs ++ ys) → w.grownBy w' v.ownBlock → K (a.put o.dst v') w') :
    if Region.wanted o (yielded ops a.tmps) = true then Oper.wp Try.prog o a w K Q else E := by
  have hw : Region.wanted o (yielded ops a.tmps) = true := by simp [Region.wanted, hg]
  rw [if_pos hw]
  obtain ⟨i0, hi, hz0, hz1, hz2⟩ := info_parts intInfo
  subst had hm
  obtain ⟨v', w', hrun, h2, h3, h4⟩ := run_append_own (P := Try.prog) w base 35 o.type 3 i0 (.int .i64 0) 1 8 Try.underlying35 hi hz0 hz1 hz2 rfl (by decide) v xs.length (xs.map (Value.int .i64)) hown ad ys.length c (ys.map (Value.int .i64)) (by simp)
    (fun j u hj => by
      rw [List.getElem?_map] at hj
      cases hy : ys[j]? with
      | none => rw [hy] at hj; cases hj
      | some q =>
        rw [hy] at hj
        cases hj
        have hlt : j < ys.length := (List.getElem?_eq_some_iff.1 hy).1
        rw [hc j hlt]
        simp [hy])
    (fun u hu => by
      obtain ⟨q, _, rfl⟩ := List.mem_map.1 hu
      rfl)
    (by unfold maxLen; omega) (by omega) hb
  unfold Oper.wp
  simp only [execOp, hop, resolve, invoke, builtin, Sem.run_bind, Sem.run_pure, Result.andThen_ok, List.map_toArray, List.map_cons, List.map_nil, hs, hx, hrun]
  refine hK v' w' ?_ h3
  unfold OwnI
  rw [List.length_append, List.map_append]
  exact h2

end Go.Proofs.Ytebcnfemkchfjaa
