/- Contracts: the number of rounds, the number of paths (roundMany, pathMany; l3Paths). -/
import Derived.Test.YtmlenaelijchjaaAllPathsW
import Derived.Test.YtmlenaelijchjaaRounds3W
namespace Go.Proofs.Ytmlenaelijchjaa
open Go.RowKit
set_option linter.unusedVariables false
set_option linter.unusedSimpArgs false

/-- The number of paths. -/
noncomputable def Gr.pmany (g : Gr) : Nat := g.rmany + g.n + g.m
theorem Gr.rmany_le {g : Gr} (hg : g.ok) : g.rmany ≤ 100 := by
  have := Gr.reps_le' g (4 * (g.n * g.m))
  have := Gr.size_le hg
  unfold Gr.rmany; omega

theorem roundMany_any (ao : Option Addr) (cap : Nat) (ss : List ByteArray) (w : World) (hx : CellsS w ao ss) (hg : gridB ss = true) :
    Calls Try.prog 38 #[.slice ao ss.length cap] w fun e w' => e = .returned (.int .i64 ((gr ss).rmany : Nat)) ∧ Below w.heap.size w w' := by
  have HA := Lib.hid (allPaths_any ao cap ss w hx hg)
  clear hx hg
  go_enter Try.func38, Try.ntmps38
  go_wp2_with fail
  refine HA.out.mono ?_
  rintro e w2 ⟨B, n, f, v, Z, rfl, st, hz, _, _⟩
  obtain ⟨a, c, rfl⟩ := RL_shape (st.st.own _ List.mem_cons_self)
  have hl : (Z.map (·.1)).length = (gr ss).rmany := by rw [List.length_map, ← List.length_map (f := (·.2)), hz]; rfl
  have HB := Lib.hid st.st.below
  rw [hl]
  clear hz st HA hl
  go_wp2
  go_ret
  exact ⟨rfl, HB.out⟩

set_option maxHeartbeats 4000000 in
theorem pathMany_any (ao : Option Addr) (cap : Nat) (ss : List ByteArray) (w : World) (hx : CellsS w ao ss) (hg : gridB ss = true) :
    Calls Try.prog 20 #[.slice ao ss.length cap] w fun e w' => e = .returned (.int .i64 ((gr ss).pmany : Nat)) ∧ Below w.heap.size w w' := by
  have hok := gr_ok hg
  have hn1 : 1 ≤ ss.length := hok.n1
  have hn5 : ss.length ≤ 5 := hok.n5
  have hm1 : 1 ≤ (rowOf ss 0).size := hok.m1
  have hm5 : (rowOf ss 0).size ≤ 5 := hok.m5
  have hr := Gr.rmany_le hok
  obtain ⟨b, off, rfl, hc, hbb⟩ := hx.at (i := 0) (by omega)
  have hc0 := hc 0 (by omega)
  rw [Nat.add_zero] at hc0
  have HC : Hid (∀ W, Below w.heap.size w W → W.cell? ⟨b, off, none⟩ = some (.string (rowOf ss 0))) := fun W h => (h.cell (p := ⟨b, off, none⟩) hbb).trans hc0
  have HR : Hid (∀ k, Calls Try.prog 38 #[.slice (some ⟨b, off, none⟩) ss.length cap] (w.drewN k) fun e w' => e = .returned (.int .i64 ((gr ss).rmany : Nat)) ∧ Below w.heap.size w w') := fun k => by
    refine (roundMany_any (some ⟨b, off, none⟩) cap ss _ (hx.below (below_dn (Below.refl _ _) k) (Nat.le_refl _)) hg).mono ?_
    rintro e w' ⟨h1, h2⟩
    exact ⟨h1, (below_dn (Below.refl _ _) k).trans h2⟩
  have HP : Hid (IntKind.i64.wrap (IntKind.i64.wrap (((gr ss).rmany : Int) + ss.length) + (rowOf ss 0).size) = ((gr ss).pmany : Nat)) := by
    show IntKind.i64.wrap (IntKind.i64.wrap (((gr ss).rmany : Int) + ss.length) + (rowOf ss 0).size) = (((gr ss).rmany + ss.length + (rowOf ss 0).size : Nat) : Int)
    rw [IntWalk.i64_in ((gr ss).rmany + ss.length : Int) (by omega), IntWalk.i64_in _ (by omega)]
    omega
  have HP2 : Hid (IntKind.i64.wrap (((gr ss).rmany : Int) + ss.length + (rowOf ss 0).size) = ((gr ss).pmany : Nat)) := by
    show IntKind.i64.wrap (((gr ss).rmany : Int) + ss.length + (rowOf ss 0).size) = (((gr ss).rmany + ss.length + (rowOf ss 0).size : Nat) : Int)
    rw [IntWalk.i64_in _ (by omega)]
    omega
  clear hx hg hc hbb hok
  generalize (gr ss).rmany = R at *
  go_enter Try.func20, Try.ntmps20
  go_wp2_with fail
  go_region_with ((go_at_call 38; refine (HR.out _).mono ?_; rintro e w9 ⟨rfl, b9⟩; have hc9 := HC.out _ b9; have B9 := Lib.hid b9; clear b9))
  all_goals
    go_wp2
    go_ret
    first | exact ⟨ret_int (k := .i64) HP.out, B9.out⟩ | exact ⟨ret_int (k := .i64) HP2.out, B9.out⟩

end Go.Proofs.Ytmlenaelijchjaa
