/- Contracts: JoinPairs and JoinRounds of both sides. -/
import Derived.Test.YtfpcfolcdpdomaaJJoinSW
import Derived.Test.YtfpcfolcdpdomaaJRoundsIW
import Derived.Test.YtfpcfolcdpdomaaTurnW
namespace Go.Proofs.Ytfpcfolcdpdomaa
open Go.RowKit
set_option linter.unusedVariables false
set_option linter.unusedSimpArgs false

theorem St.write4 {w0 W W' : World} {a b c d : Seg} {v : Value} {xs ys : List Int} {post : List Seg} (h : St w0 W (a :: b :: c :: d :: SI v xs :: post)) (o : OwnI W' w0.heap.size v ys) (g : W.grownBy W' v.ownBlock) : St w0 W' (a :: b :: c :: d :: SI v ys :: post) :=
  St.writeSeg [a, b, c, d] post (SI v xs) (SI v ys) h rfl o g
theorem twoB_two {n m k : Int} {xs ys : List Int} (h : twoB n m xs k ys = true) : ∃ n' m' k' : Nat, n = n' ∧ m = m' ∧ k = k' ∧ Two n' m' k' ∧ xs.length = 2 * n' + 2 * m' ∧ ys.length = 2 * n' + 2 * k' ∧ pairsB xs = true ∧ pairsB ys = true := by
  obtain ⟨n', m', k', h1, h2, h3, a1, a2, a3, a4, a5, a6, a7, a8, a9⟩ := twoB_nat h
  exact ⟨n', m', k', h1, h2, h3, ⟨a1, a2, a3, a4, a5⟩, a6, a7, a8, a9⟩
theorem jpairL_le (n m : Int) (xs : List Int) (k : Int) (ys : List Int) : (jpairL n m xs k ys).length ≤ 1048576 := by
  unfold jpairL
  split
  · rename_i h
    obtain ⟨n', m', k', rfl, rfl, rfl, hT, _⟩ := twoB_two h
    rw [joinL_length]
    have h1 := hT.n5
    have h2 := hT.mk5
    simp only [Int.toNat_natCast]
    omega
  · simp
theorem gives_emptyJ {w0 w : World} (h : Below w0.heap.size w0 w) (b : Bool) : GivesI w0.heap.size w0 [] b (.returned (.tuple #[.slice (some ⟨w.heap.size, 0, none⟩) 0 0, .bool b])) (w.alloc (.cells #[] 3)) :=
  ⟨_, rfl, World.ownsRow_made w #[] 0 h.size (Nat.zero_le _) rfl, h.alloc h.size _⟩
theorem gives_st {w w' : World} {v : Value} {L : List Int} (b : Bool) (h : St w w' [SI v L]) : GivesI w.heap.size w L b (.returned (.tuple #[v, .bool b])) w' := ⟨v, rfl, h.own _ List.mem_cons_self, h.below⟩

set_option maxHeartbeats 1000000 in
theorem sJoinPairs_any (n m : Int) (ao : Option Addr) (cap : Nat) (xs : List Int) (k : Int) (bo : Option Addr) (capb : Nat) (ys : List Int) (w : World) (hx : CellsI w ao xs) (hxm : xs.length ≤ maxLen) (hy : CellsI w bo ys) (hym : ys.length ≤ maxLen) :
    Calls Try.prog 15 #[.int .i64 n, .int .i64 m, .slice ao xs.length cap, .int .i64 k, .slice bo ys.length capb] w (GivesI w.heap.size w (jpairL n m xs k ys) (twoB n m xs k ys)) := by
  have HTW := Lib.hid (l6jTwo_any n m ao cap xs k bo capb ys w hx hxm hy hym)
  cases hb : twoB n m xs k ys
  · have hL : jpairL n m xs k ys = [] := by simp [jpairL, hb]
    rw [hL]
    rw [hb] at HTW
    clear hL
    go_enter Try.func15, Try.ntmps15
    go_wp2_with (go_at_call 29; refine HTW.out.mono ?_; rintro e w' ⟨rfl, rfl⟩)
    go_ret2
    exact gives_empty w false
  · rw [hb] at HTW
    obtain ⟨n, m, k, rfl, rfl, rfl, hT, lx, ly, px, py⟩ := twoB_two hb
    have hL : jpairL n m xs k ys = joinL n m k xs ys := by simp [jpairL, hb]
    rw [hL]
    have HJ := Lib.hid (sJoined_any n m k ao cap xs bo capb ys w hx hy hT.n1 hT.n5 hT.m1 (by have := hT.mk5; omega) hT.k1 (by have := hT.mk5; omega) lx ly px py)
    generalize joinL n m k xs ys = LL at *
    generalize joinN n m k xs ys = NN at *
    clear hL lx ly px py hT hb hx hy
    go_enter Try.func15, Try.ntmps15
    go_wp2_with (first | (go_at_call 29; refine HTW.out.mono ?_; rintro e w' ⟨rfl, rfl⟩) | (go_at_call 30; refine HJ.out.mono ?_; rintro e w' ⟨v, rfl, st⟩; have HST := Lib.hid st; clear st))
    go_ret2
    exact gives_st true HST.out

set_option maxHeartbeats 1000000 in
theorem sJoinRounds_any (n m : Int) (ao : Option Addr) (cap : Nat) (xs : List Int) (k : Int) (bo : Option Addr) (capb : Nat) (ys : List Int) (w : World) (hx : CellsI w ao xs) (hxm : xs.length ≤ maxLen) (hy : CellsI w bo ys) (hym : ys.length ≤ maxLen) :
    Calls Try.prog 11 #[.int .i64 n, .int .i64 m, .slice ao xs.length cap, .int .i64 k, .slice bo ys.length capb] w fun e w' => e = .returned (.tuple #[.int .i64 (jroundL n m xs k ys), .bool (twoB n m xs k ys)]) ∧ Below w.heap.size w w' := by
  have HTW := Lib.hid (l6jTwo_any n m ao cap xs k bo capb ys w hx hxm hy hym)
  cases hb : twoB n m xs k ys
  · have hL : jroundL n m xs k ys = 0 := by simp [jroundL, hb]
    rw [hL]
    rw [hb] at HTW
    clear hL
    go_enter Try.func11, Try.ntmps11
    go_wp2_with (go_at_call 29; refine HTW.out.mono ?_; rintro e w' ⟨rfl, rfl⟩)
    go_ret2
    exact ⟨rfl, Below.refl _ _⟩
  · rw [hb] at HTW
    obtain ⟨n, m, k, rfl, rfl, rfl, hT, lx, ly, px, py⟩ := twoB_two hb
    have hL : jroundL n m xs k ys = (joinN n m k xs ys : Nat) := by simp [jroundL, hb]
    rw [hL]
    have HJ := Lib.hid (sJoined_any n m k ao cap xs bo capb ys w hx hy hT.n1 hT.n5 hT.m1 (by have := hT.mk5; omega) hT.k1 (by have := hT.mk5; omega) lx ly px py)
    generalize joinL n m k xs ys = LL at *
    generalize joinN n m k xs ys = NN at *
    clear hL lx ly px py hT hb hx hy
    go_enter Try.func11, Try.ntmps11
    go_wp2_with (first | (go_at_call 29; refine HTW.out.mono ?_; rintro e w' ⟨rfl, rfl⟩) | (go_at_call 30; refine HJ.out.mono ?_; rintro e w' ⟨v, rfl, st⟩; have HB := Lib.hid st.below; clear st))
    go_ret2
    exact ⟨rfl, HB.out⟩

set_option maxHeartbeats 1000000 in
theorem iJoinPairs_any (n m : Int) (ao : Option Addr) (cap : Nat) (xs : List Int) (k : Int) (bo : Option Addr) (capb : Nat) (ys : List Int) (w : World) (hx : CellsI w ao xs) (hxm : xs.length ≤ maxLen) (hy : CellsI w bo ys) (hym : ys.length ≤ maxLen) :
    Calls Try.prog 16 #[.int .i64 n, .int .i64 m, .slice ao xs.length cap, .int .i64 k, .slice bo ys.length capb] w (GivesI w.heap.size w (jpairL n m xs k ys) (twoB n m xs k ys)) := by
  have HTW := Lib.hid (jointOf_any n m ao cap xs k bo capb ys w hx hxm hy hym)
  cases hb : twoB n m xs k ys
  · have hL : jpairL n m xs k ys = [] := by simp [jpairL, hb]
    rw [hL]
    rw [hb] at HTW
    clear hL
    go_enter Try.func16, Try.ntmps16
    go_wp2_with (go_at_call 31; refine HTW.out.mono ?_; rintro e w' ⟨rfl, b1⟩; have HB1 := Lib.hid (b1.alloc b1.size (.cells #[.int .i64 n, .int .i64 m, .int .i64 k, .slice ao xs.length cap, .slice bo ys.length capb] 46)); clear b1)
    go_ret2
    have h := gives_emptyJ HB1.out false
    rw [World.size_alloc] at h
    exact h
  · rw [hb] at HTW
    obtain ⟨n, m, k, rfl, rfl, rfl, hT, lx, ly, px, py⟩ := twoB_two hb
    have hL : jpairL n m xs k ys = joinL n m k xs ys := by simp [jpairL, hb]
    rw [hL]
    have HJ := Lib.hid fun W (b : Below w.heap.size w W) => jpairs_any n m k ao cap xs bo capb ys W (hx.below b (Nat.le_refl _)) (hy.below b (Nat.le_refl _)) hT lx ly px py
    generalize joinL n m k xs ys = LL at *
    clear hL lx ly px py hT hb hx hy
    go_enter Try.func16, Try.ntmps16
    go_wp2_with (first | (go_at_call 31; refine HTW.out.mono ?_; rintro e w' ⟨rfl, b1⟩; have HB1 := Lib.hid (b1.alloc b1.size (.cells #[.int .i64 n, .int .i64 m, .int .i64 k, .slice ao xs.length cap, .slice bo ys.length capb] 46)); clear b1) | (go_at_call 33; refine (HJ.out _ HB1.out).mono ?_; rintro e w2 ⟨v, rfl, st⟩; have HST := Lib.hid st; clear st))
    go_ret2
    exact ⟨v, rfl, (HST.out.own (SI v LL) List.mem_cons_self).mono HB1.out.size, HB1.out.trans (HST.out.below.mono HB1.out.size)⟩

set_option maxHeartbeats 1000000 in
theorem iJoinRounds_any (n m : Int) (ao : Option Addr) (cap : Nat) (xs : List Int) (k : Int) (bo : Option Addr) (capb : Nat) (ys : List Int) (w : World) (hx : CellsI w ao xs) (hxm : xs.length ≤ maxLen) (hy : CellsI w bo ys) (hym : ys.length ≤ maxLen) :
    Calls Try.prog 13 #[.int .i64 n, .int .i64 m, .slice ao xs.length cap, .int .i64 k, .slice bo ys.length capb] w fun e w' => e = .returned (.tuple #[.int .i64 (jroundL n m xs k ys), .bool (twoB n m xs k ys)]) ∧ Below w.heap.size w w' := by
  have HTW := Lib.hid (jointOf_any n m ao cap xs k bo capb ys w hx hxm hy hym)
  cases hb : twoB n m xs k ys
  · have hL : jroundL n m xs k ys = 0 := by simp [jroundL, hb]
    rw [hL]
    rw [hb] at HTW
    clear hL
    go_enter Try.func13, Try.ntmps13
    go_wp2_with (go_at_call 31; refine HTW.out.mono ?_; rintro e w' ⟨rfl, b1⟩; have HB1 := Lib.hid (b1.alloc b1.size (.cells #[.int .i64 n, .int .i64 m, .int .i64 k, .slice ao xs.length cap, .slice bo ys.length capb] 46)); clear b1)
    go_ret2
    exact ⟨rfl, HB1.out⟩
  · rw [hb] at HTW
    obtain ⟨n, m, k, rfl, rfl, rfl, hT, lx, ly, px, py⟩ := twoB_two hb
    have hL : jroundL n m xs k ys = (joinN n m k xs ys : Nat) := by simp [jroundL, hb]
    rw [hL]
    have HJ := Lib.hid fun W (b : Below w.heap.size w W) => jrounds_any n m k ao cap xs bo capb ys W (hx.below b (Nat.le_refl _)) (hy.below b (Nat.le_refl _)) hT lx ly px py
    generalize joinN n m k xs ys = NN at *
    clear hL lx ly px py hT hb hx hy
    go_enter Try.func13, Try.ntmps13
    go_wp2_with (first | (go_at_call 31; refine HTW.out.mono ?_; rintro e w' ⟨rfl, b1⟩; have HB1 := Lib.hid (b1.alloc b1.size (.cells #[.int .i64 n, .int .i64 m, .int .i64 k, .slice ao xs.length cap, .slice bo ys.length capb] 46)); clear b1) | (go_at_call 32; refine (HJ.out _ HB1.out).mono ?_; rintro e w2 ⟨rfl, b2⟩; have HB2 := Lib.hid (HB1.out.trans (b2.mono HB1.out.size)); clear b2))
    go_ret2
    exact ⟨rfl, HB2.out⟩
end Go.Proofs.Ytfpcfolcdpdomaa
