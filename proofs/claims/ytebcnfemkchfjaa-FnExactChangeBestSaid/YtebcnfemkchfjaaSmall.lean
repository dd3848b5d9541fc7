/- Contracts of the small functions that only compute with numbers. -/
import Derived.Test.YtebcnfemkchfjaaMem
namespace Go.Proofs.Ytebcnfemkchfjaa
open Go.RowKit

/-- n lies from lo to hi. -/
def inB (n lo hi : Int) : Bool := decide (lo ≤ n) && decide (n ≤ hi)
theorem inB_iff {n lo hi : Int} : inB n lo hi = true ↔ lo ≤ n ∧ n ≤ hi := by simp [inB]
theorem inB_not {n lo hi : Int} : inB n lo hi = false ↔ n < lo ∨ hi < n := by simp [inB]; omega

theorem l6In_any (a b c : Int) (w : World) :
    Calls Try.prog 80 #[.int .i64 a, .int .i64 b, .int .i64 c] w fun e w' => e = .returned (.bool (inB a b c)) ∧ w = w' := by
  go_enter Try.func80, Try.ntmps80
  go_wp2
  all_goals
    go_ret
    exact ⟨ret_bool (by simp [inB]; omega), rfl⟩

theorem within_any (a b c : Int) (w : World) :
    Calls Try.prog 76 #[.int .i64 a, .int .i64 b, .int .i64 c] w fun e w' => e = .returned (.bool (inB a b c)) ∧ w = w' := by
  go_enter Try.func76, Try.ntmps76
  go_wp2
  all_goals
    go_ret
    exact ⟨ret_bool (by simp [inB]; omega), rfl⟩


theorem l2Ports_any (n m : Int) (w : World) (hn0 : 0 ≤ n) (hn : n ≤ 1000000) (hm0 : 0 ≤ m) (hm : m ≤ 1000000) :
    Calls Try.prog 95 #[.int .i64 n, .int .i64 m] w fun e w' => e = .returned (.int .i64 (2 * (n + m))) ∧ w = w' := by
  go_enter Try.func95, Try.ntmps95
  go_wp2
  go_ret
  exact ⟨rfl, rfl⟩

end Go.Proofs.Ytebcnfemkchfjaa
