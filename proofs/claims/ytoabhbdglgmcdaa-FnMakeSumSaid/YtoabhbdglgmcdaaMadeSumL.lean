/- Plain: the law on first grids exchanged. -/
import Derived.Test.YtoabhbdglgmcdaaMadeLawL
import Derived.Test.YtoabhbdglgmcdaaOtherGW
namespace Go.Proofs.Ytoabhbdglgmcdaa
open Go.RowKit
set_option linter.unusedVariables false
set_option linter.unusedSimpArgs false

theorem two_mem {a b : Nat} {L : List Nat} (ha : a ∈ L) (hb : b ∈ L) (h : a ≠ b) : 2 ≤ L.length := by
  match L with
  | [] => simp at ha
  | [x] => simp at ha hb; omega
  | x :: y :: L => simp

theorem sum_law {n m : Int} {xs : List Int} (h : firstB n m xs = true) :
    1 ≤ (madeR n m xs).length ∧ gridB (otherS (firstL n m xs)) = true ∧ (otherS (firstL n m xs)).length ≤ 5 ∧ (∀ s ∈ otherS (firstL n m xs), s.size ≤ 5)
    ∧ (mirL (firstL n m xs) ≠ 0 → beamsB (otherS (firstL n m xs)) = xs → 2 ≤ (madeR n m xs).length) := by
  obtain ⟨n', m', k, rfl, rfl, h1, h2, h3, h4, hL, hk, hlt, hR⟩ := first_facts h
  have hok := gN_ok k h1 h2 h3 h4
  rw [hL, hR]
  have hmem := mem_madeTo.2 ⟨hlt, hk⟩
  have hf := otherS_facts hok
  rw [gN_n, gN_m k h1] at hf
  refine ⟨List.length_pos_of_mem hmem, hf.1, by show (gr (otherS (gN n' m' k))).n ≤ 5; rw [hf.2.1]; exact h2, fun s hs => (gridB_sizes' hf.1 s hs).2, fun hc hb => ?_⟩
  have e := gN_num hf.1
  have hlt2 := numG_lt (otherS (gN n' m' k))
  rw [hf.2.1, hf.2.2.1] at e hlt2
  have hk2 : hasB n' m' xs (numG (otherS (gN n' m' k))) = true := by
    unfold hasB
    rw [e, hb]
    simp [eqL]
  refine two_mem hmem (mem_madeTo.2 ⟨hlt2, hk2⟩) fun ek => hc ?_
  rw [mirL_gN k h1 h2 h3 h4, mirK_eq k h1]
  have e0 : sumN (fun i => sumN (fun j => if !(ofF k m' i j == 46) then 1 else 0) m') n' = sumN (fun _ => sumN (fun _ => 0) m') n' := by
    refine sumN_congr fun i hi => sumN_congr fun j hj => ?_
    have e3 := hf.2.2.2 i j hi hj
    rw [← ek] at e
    rw [← e, gN_lt k hi hj] at e3
    have e4 := ofF_let k m' i j
    generalize ofF k m' i j = c at *
    simp [letB] at e4
    rcases e4 with (h | h) | h <;> subst h
    · rfl
    · exact absurd e3 (by decide)
    · exact absurd e3 (by decide)
  rw [e0]
  have z : ∀ m, sumN (fun _ => 0) m = 0 := fun m => by
    induction m with
    | zero => rfl
    | succ m ih => rw [sumN, ih]
  rw [z, z]
  rfl
end Go.Proofs.Ytoabhbdglgmcdaa
