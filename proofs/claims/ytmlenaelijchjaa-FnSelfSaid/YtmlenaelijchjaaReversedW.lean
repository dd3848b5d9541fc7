/- Contract: a step gone the other way (reversed). -/
import Derived.Test.YtmlenaelijchjaaPathsL
import Derived.Test.YtmlenaelijchjaaCellW
namespace Go.Proofs.Ytmlenaelijchjaa
open Go.RowKit
set_option linter.unusedVariables false
set_option linter.unusedSimpArgs false

set_option maxHeartbeats 4000000 in
theorem reversed_any (ao : Option Addr) (cap : Nat) (ss : List ByteArray) (x : Stt) (w : World) (hx : CellsS w ao ss) (hg : gridB ss = true) (hv : (gr ss).val x) :
    Calls Try.prog 31 #[.slice ao ss.length cap, .agg #[.int .i64 x.1, .int .i64 x.2]] w fun e w' => e = .returned (.agg #[.int .i64 ((gr ss).rev x).1, .int .i64 ((gr ss).rev x).2]) ∧ Below w.heap.size w w' := by
  have hd := hv.2
  have hb := bend_lt ((gr ss).sig x.1) hd
  have HL : Hid (∀ k, Calls Try.prog 37 #[.slice ao ss.length cap, .int .i64 x.1] (((w.alloc (.cells #[.int .i64 x.1, .int .i64 x.2] 37)).alloc (.cells #[.int .i64 0, .int .i64 0] 37)).drewN k) fun e w'' => e = .returned (.int .u8 ((gr ss).sig x.1)) ∧ ∃ m, w'' = ((w.alloc (.cells #[.int .i64 x.1, .int .i64 x.2] 37)).alloc (.cells #[.int .i64 0, .int .i64 0] 37)).drewN m) := fun k =>
    quiet_dr (letterAt_any ao cap ss x.1 _ (hx.below (below_dn (((Below.refl w.heap.size w).alloc (Nat.le_refl _) _).alloc (by simp) _) k) (Nat.le_refl _)) hg hv.1)
  have HT := Lib.hid fun W => turned_any ((gr ss).sig x.1) x.2 W hd
  have HX := Lib.hid hx
  have HR : Hid ((gr ss).rev x = (x.1, opp (bend ((gr ss).sig x.1) x.2))) := rfl
  have hO : (IntKind.i64.wrap (((bend ((gr ss).sig x.1) x.2 : Nat) : Int) + 2)).tmod 4 = ((opp (bend ((gr ss).sig x.1) x.2) : Nat) : Int) := by
    have h4 : bend ((gr ss).sig x.1) x.2 = 0 ∨ bend ((gr ss).sig x.1) x.2 = 1 ∨ bend ((gr ss).sig x.1) x.2 = 2 ∨ bend ((gr ss).sig x.1) x.2 = 3 := by omega
    rcases h4 with h | h | h | h <;> rw [h] <;> rfl
  have hc25 : x.1 < 25 := Nat.lt_of_lt_of_le hv.1 (Gr.size_le (gr_ok hg))
  have HO := Lib.hid hO
  clear hx hg hv hO
  generalize (gr ss).sig x.1 = q at *
  generalize bend q x.2 = D at *
  obtain ⟨c, d⟩ := x
  dsimp only at *
  go_enter Try.func31, Try.ntmps31
  go_wp2_with fail
  go_region_with (first | (go_at_call 37; refine (HL.out _).mono ?_; rintro e w2 ⟨rfl, nd, rfl⟩) | (go_at_call 44; refine (HT.out _).mono ?_; rintro e w9 ⟨rfl, bT⟩; obtain ⟨⟨f0, f1, f2, f3, f4, f5⟩, hz9, b9⟩ := boxes bT; have B9 := Lib.hid b9; clear bT b9))
  all_goals
    have hO := HO.out
    go_wp2
    refine bodyPost_ret (v := .agg #[.int .i64 c, .int .i64 (opp D : Nat)]) (by simp [results, Try.results31, go_sem, f2, f3]; exact hO) rfl ⟨?_, ?_⟩
    · rw [HR.out]
    · exact (B9.out.setCell (by simp) _).setCell (by simp) _
end Go.Proofs.Ytmlenaelijchjaa
