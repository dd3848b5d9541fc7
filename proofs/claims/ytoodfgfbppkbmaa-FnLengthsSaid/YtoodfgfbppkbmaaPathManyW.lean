/- Contracts: the number of rounds, the number of paths (roundMany, pathMany; l3Paths). -/
import Derived.Test.YtoodfgfbppkbmaaAllPathsW
import Derived.Test.YtoodfgfbppkbmaaRounds3W
namespace Go.Proofs.Ytoodfgfbppkbmaa
open Go.RowKit
set_option linter.unusedVariables false
set_option linter.unusedSimpArgs false

/-- The number of paths. -/
noncomputable def Gr.pmany (g : Gr) : Nat := g.rmany + g.n + g.m
theorem Gr.rmany_le {g : Gr} (hg : g.ok) : g.rmany ≤ 100 := by
  have := Gr.reps_le' g (4 * (g.n * g.m))
  have := Gr.size_le hg
  unfold Gr.rmany; omega

theorem roundMany_any (ao : Option Addr) (cap : Nat) (ss : List ByteArray) (w : World) (hx : CellsS w ao ss) (hg : gridB ss = true) :
    Calls Try.prog 49 #[.slice ao ss.length cap] w fun e w' => e = .returned (.int .i64 ((gr ss).rmany : Nat)) ∧ Below w.heap.size w w' := by
  have HA := Lib.hid (allPaths_any ao cap ss w hx hg)
  clear hx hg
  go_enter Try.func49, Try.ntmps49
  go_wp2_with fail
  refine HA.out.mono ?_
  rintro e w2 ⟨B, n, f, v, Z, rfl, st, hz, _, _⟩
  obtain ⟨a, c, rfl⟩ := RL_shape (st.st.own _ List.mem_cons_self)
  have hl : (Z.map (·.1)).length = (gr ss).rmany := by rw [List.length_map, ← List.length_map (f := (·.2)), hz]; rfl
  have HB := Lib.hid st.st.below
  rw [hl]
  clear hz st HA hl
  go_wp2
  go_ret
  exact ⟨rfl, HB.out⟩

end Go.Proofs.Ytoodfgfbppkbmaa
