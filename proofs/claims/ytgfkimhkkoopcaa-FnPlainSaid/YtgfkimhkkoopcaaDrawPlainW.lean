/- Contract: what DrawMakePlain draws. -/
import Derived.Test.YtgfkimhkkoopcaaPickSt
namespace Go.Proofs.Ytgfkimhkkoopcaa
open Go.RowKit
set_option linter.unusedVariables false

theorem DrawMakePlain_any (ao : Option Addr) (cap : Nat) (zs : List Int) (w : World) (hy : CellsY w ao zs) (hcap : zs.length ≤ cap) (hcm : cap ≤ maxLen) :
    Calls Try.prog 21 #[.slice ao zs.length cap] w fun e w' => ∃ k : Int, e = .returned (.int .i64 k) ∧ -1 ≤ k ∧ k ≤ 9 ∧ Below w.heap.size w w' := by
  go_enter Try.func21, Try.ntmps21
  go_wp2_with fail
  refine (l6Open_any ao cap zs w hy (Nat.le_trans hcap hcm) hcap hcm).mono ?_
  rintro e w1 ⟨rfl, o, b⟩
  have st := (St.init w).addSeg o b
  have hz : (zs.take 2000).length ≤ 1000000 := by simp; omega
  have hy2 := hy.take 2000
  generalize zs.take 2000 = ys at hz hy2 o st
  clear o b hy
  go_wp2_with fail
  refine (pick_st w w1 [] [] w.heap.size ao ys cap 0 10 hy2 st (by omega) hz (by omega) (by omega)).mono ?_
  rintro e w2 ⟨r, rfl, r1, r2, r3, st2⟩
  have r2 := r2 (by omega)
  clear r3 st
  go_wp2_with fail
  refine (pick_st w w2 [] [] w.heap.size ao ys cap _ 24 hy2 st2 (by omega) hz (by omega) (by omega)).mono ?_
  rintro e w3 ⟨q, rfl, q1, q2, q3, st3⟩
  have q2 := q2 (by omega)
  clear q3 st2
  go_wp2_with fail
  go_ret
  exact ⟨_, rfl, by omega, by omega, st3.below⟩
end Go.Proofs.Ytgfkimhkkoopcaa
