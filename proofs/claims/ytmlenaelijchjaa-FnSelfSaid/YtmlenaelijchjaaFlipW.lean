/- Contracts: pairings turned and flipped (JoinTurn, JoinFlip of the program). -/
import Derived.Test.YtmlenaelijchjaaMapW
import Derived.Test.YtmlenaelijchjaaPlaceW
namespace Go.Proofs.Ytmlenaelijchjaa
open Go.RowKit
set_option linter.unusedVariables false

theorem jturnL_le (n m : Int) (xs : List Int) : (jturnL n m xs).length ≤ 1048576 := by
  unfold jturnL
  split
  · rename_i h
    obtain ⟨n', m', _, _, _, _, _, _, hl, _⟩ := ofB_nat h
    rw [mapTo_length]; omega
  · simp
theorem jflipL_le (n m : Int) (xs : List Int) : (jflipL n m xs).length ≤ 1048576 := by
  unfold jflipL
  split
  · rename_i h
    obtain ⟨n', m', _, _, _, _, _, _, hl, _⟩ := ofB_nat h
    rw [mapTo_length]; omega
  · simp
theorem jturn_same (xs : List Int) (n m : Nat) (hok : okTo xs xs.length) (j : Nat) (hj : j ≤ xs.length) : mapTo (jturnF n m xs.length) xs j = turnTo xs n j := by
  induction j with
  | zero => rfl
  | succ j ih =>
    obtain ⟨q, hq, hq2⟩ := okTo_get hok (show j < xs.length by omega)
    rw [mapTo, turnTo, ih (by omega), hq, Int.toNat_natCast]
    simp only [jturnF]
    congr 1

def flipI (n m p : Int) : Int := if sideI n m p = 1 then portI n m 3 (atI n m p) else if sideI n m p = 3 then portI n m 1 (atI n m p) else portI n m (sideI n m p) (m - 1 - atI n m p)
theorem flip_same : ∀ n ∈ [1, 2, 3, 4, 5], ∀ m ∈ [1, 2, 3, 4, 5], ∀ p ∈ List.range (2 * n + 2 * m), flipI n m p = (jflipF n m (2 * n + 2 * m) p : Nat) := by decide +kernel

theorem at_bound2 (n m p : Nat) (hn : 1 ≤ n) (hn2 : n ≤ 5) (hm : 1 ≤ m) (hm2 : m ≤ 5) (hp : p < 2 * n + 2 * m) : 0 ≤ atI n m p ∧ atI n m p ≤ 20 ∧ 0 ≤ sideI n m p ∧ sideI n m p ≤ 3 := by
  unfold atI sideI
  repeat' split
  all_goals omega

theorem gives_emptyB {w0 w : World} (h : Below w0.heap.size w0 w) (b : Bool) : GivesI w0.heap.size w0 [] b (.returned (.tuple #[.slice (some ⟨w.heap.size, 0, none⟩) 0 0, .bool b])) (w.alloc (.cells #[] 3)) :=
  ⟨_, rfl, (World.ownsRow_made w #[] 0 h.size (Nat.zero_le _) rfl), h.alloc h.size _⟩

end Go.Proofs.Ytmlenaelijchjaa
