/- Contracts: pairings turned and flipped (JoinTurn, JoinFlip of the program). -/
import Derived.Test.YtoabhbdglgmcdaaMapW
import Derived.Test.YtoabhbdglgmcdaaPlaceW
namespace Go.Proofs.Ytoabhbdglgmcdaa
open Go.RowKit
set_option linter.unusedVariables false

theorem jturnL_le (n m : Int) (xs : List Int) : (jturnL n m xs).length ≤ 1048576 := by
  unfold jturnL
  split
  · rename_i h
    obtain ⟨n', m', _, _, _, _, _, _, hl, _⟩ := ofB_nat h
    rw [mapTo_length]; omega
  · simp
theorem jflipL_le (n m : Int) (xs : List Int) : (jflipL n m xs).length ≤ 1048576 := by
  unfold jflipL
  split
  · rename_i h
    obtain ⟨n', m', _, _, _, _, _, _, hl, _⟩ := ofB_nat h
    rw [mapTo_length]; omega
  · simp
theorem jturn_same (xs : List Int) (n m : Nat) (hok : okTo xs xs.length) (j : Nat) (hj : j ≤ xs.length) : mapTo (jturnF n m xs.length) xs j = turnTo xs n j := by
  induction j with
  | zero => rfl
  | succ j ih =>
    obtain ⟨q, hq, hq2⟩ := okTo_get hok (show j < xs.length by omega)
    rw [mapTo, turnTo, ih (by omega), hq, Int.toNat_natCast]
    simp only [jturnF]
    congr 1

theorem iJoinTurn_any (n m : Int) (ao : Option Addr) (cap : Nat) (xs : List Int) (w : World) (hx : CellsI w ao xs) (hm : xs.length ≤ maxLen) :
    Calls Try.prog 23 #[.int .i64 n, .int .i64 m, .slice ao xs.length cap] w (GivesI w.heap.size w (jturnL n m xs) (ofB n m xs)) := by
  cases hb : ofB n m xs
  · have hL : jturnL n m xs = [] := by simp [jturnL, hb]
    rw [hL]
    clear hL
    go_enter Try.func23, Try.ntmps23
    go_wp2_with (go_at_call 41; refine (pairingOk_any _ _ _ _ _ _ hx hm).mono ?_; rintro e w' ⟨rfl, rfl⟩; rw [hb])
    go_ret2
    exact gives_empty w false
  · obtain ⟨n', m', hn', hm', hn1, hn2, hm1, hm2, hl, hp⟩ := ofB_nat hb
    have hL : jturnL n m xs = turnL xs n := by
      have ht : turnB xs n = true := by simp [turnB, hp, inB]; omega
      have hb2 := hb
      simp only [jturnL, turnL, hb, ht, if_true]
      rw [hn', hm', Int.toNat_natCast, Int.toNat_natCast]
      exact jturn_same xs n' m' (pairsB_iff.1 hp).1 xs.length (Nat.le_refl _)
    have hB : turnB xs n = true := by simp [turnB, hp, inB]; omega
    have hc := iCrossTurn_any ao cap xs n w hx hm
    rw [← hL, hB] at hc
    clear hL hB hl hp hn' hm'
    have HC := Lib.hid hc
    clear hc
    go_enter Try.func23, Try.ntmps23
    go_wp2_with (go_at_call 41; refine (pairingOk_any _ _ _ _ _ _ hx hm).mono ?_; rintro e w' ⟨rfl, rfl⟩; rw [hb])
    refine HC.out.mono ?_
    rintro e w' ⟨v, rfl, o, b⟩
    go_wp2_with fail
    go_ret2
    exact ⟨_, rfl, o, b⟩

def flipI (n m p : Int) : Int := if sideI n m p = 1 then portI n m 3 (atI n m p) else if sideI n m p = 3 then portI n m 1 (atI n m p) else portI n m (sideI n m p) (m - 1 - atI n m p)
theorem flip_same : ∀ n ∈ [1, 2, 3, 4, 5], ∀ m ∈ [1, 2, 3, 4, 5], ∀ p ∈ List.range (2 * n + 2 * m), flipI n m p = (jflipF n m (2 * n + 2 * m) p : Nat) := by decide +kernel

theorem at_bound2 (n m p : Nat) (hn : 1 ≤ n) (hn2 : n ≤ 5) (hm : 1 ≤ m) (hm2 : m ≤ 5) (hp : p < 2 * n + 2 * m) : 0 ≤ atI n m p ∧ atI n m p ≤ 20 ∧ 0 ≤ sideI n m p ∧ sideI n m p ≤ 3 := by
  unfold atI sideI
  repeat' split
  all_goals omega

theorem gives_emptyB {w0 w : World} (h : Below w0.heap.size w0 w) (b : Bool) : GivesI w0.heap.size w0 [] b (.returned (.tuple #[.slice (some ⟨w.heap.size, 0, none⟩) 0 0, .bool b])) (w.alloc (.cells #[] 3)) :=
  ⟨_, rfl, (World.ownsRow_made w #[] 0 h.size (Nat.zero_le _) rfl), h.alloc h.size _⟩

end Go.Proofs.Ytoabhbdglgmcdaa
