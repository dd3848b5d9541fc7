/- The walk through the law FnPlain: Pairings without crossings go by the partner of the first port. (P68) -/
import Derived.Test.YtgfkimhkkoopcaaDrawPlainW
import Derived.Test.YtgfkimhkkoopcaaPlainW
import Derived.Test.YtgfkimhkkoopcaaState
namespace Go.Proofs.Ytgfkimhkkoopcaa.fnPlain
open Go.RowKit
set_option linter.unusedVariables false

set_option maxHeartbeats 4000000 in
theorem walk (a0 : Option Addr) (cap0 : Nat) (z0 : List Int) (w : World) (c0 : CellsY w a0 z0) (m0 : z0.length ≤ cap0 ∧ cap0 ≤ maxLen) :
    Calls Try.prog 5 #[.slice a0 z0.length cap0] w fun e w' => e = .returned (.bool true) ∧ Below w.heap.size w w' := by
  have m1 : z0.length ≤ maxLen := Nat.le_trans m0.1 m0.2
  by_cases h0 : 1048576 < z0.length
  · unfold maxLen at m1
    clear m0
    go_enter Try.func5, Try.ntmps5
    go_wp2
    go_ret
    exact ⟨rfl, Below.refl _ _⟩
  have l0 : z0.length ≤ 1048576 := by omega
  clear h0
  have st := St.init w
  have e0 : plainL (-1) = 0 := rfl
  have f0 : plainB (-1) = false := rfl
  have e1 : plainL 0 = 1 := rfl
  have f1 : plainB 0 = true := rfl
  have e2 : plainL 1 = 1 := rfl
  have f2 : plainB 1 = true := rfl
  have e3 : plainL 2 = 2 := rfl
  have f3 : plainB 2 = true := rfl
  have e4 : plainL 3 = 5 := rfl
  have f4 : plainB 3 = true := rfl
  have e5 : plainL 4 = 14 := rfl
  have f5 : plainB 4 = true := rfl
  have e6 : plainL 5 = 42 := rfl
  have f6 : plainB 5 = true := rfl
  have e7 : plainL 6 = 132 := rfl
  have f7 : plainB 6 = true := rfl
  have e8 : plainL 7 = 429 := rfl
  have f8 : plainB 7 = true := rfl
  have e9 : plainL 8 = 1430 := rfl
  have f9 : plainB 8 = true := rfl
  have e10 : plainL 9 = 0 := rfl
  have f10 : plainB 9 = false := rfl
  go_enter Try.func5, Try.ntmps5
  go_wp2_with fail
  refine (DrawMakePlain_any a0 cap0 z0 w c0 m0.1 m0.2).mono ?_
  rintro e w1 ⟨k, rfl, k1, k2, b⟩
  have B := Lib.hid b
  clear b c0 m0 st m1
  have hk : k = -1 ∨ k = 0 ∨ k = 1 ∨ k = 2 ∨ k = 3 ∨ k = 4 ∨ k = 5 ∨ k = 6 ∨ k = 7 ∨ k = 8 ∨ k = 9 := by omega
  clear k1 k2
  rcases hk with rfl | rfl | rfl | rfl | rfl | rfl | rfl | rfl | rfl | rfl | rfl
  all_goals
    go_wp2_with (first | (go_at_call 16; refine (iMakePlain_any _ _).mono ?_; rintro e w' ⟨rfl, rfl⟩) | (go_at_call 15; refine (sMakePlain_any _ _).mono ?_; rintro e w' ⟨rfl, rfl⟩))
    first
      | (go_ret; exact ⟨rfl, B.out⟩)
      | (refine wp_loop_rounds 10 ?_
         repeat any_goals (rw [rounds_succ]; go_wp2_with (first | (go_at_call 16; refine (iMakePlain_any _ _).mono ?_; rintro e w' ⟨rfl, rfl⟩) | (go_at_call 15; refine (sMakePlain_any _ _).mono ?_; rintro e w' ⟨rfl, rfl⟩)))
         go_ret
         exact ⟨rfl, B.out⟩)

end Go.Proofs.Ytgfkimhkkoopcaa.fnPlain
