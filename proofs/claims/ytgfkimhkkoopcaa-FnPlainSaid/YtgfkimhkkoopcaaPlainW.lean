/- Contracts: the numbers of plain pairings (MakePlain, both). -/
import Derived.Test.YtgfkimhkkoopcaaSmall
namespace Go.Proofs.Ytgfkimhkkoopcaa
open Go.RowKit

def plainN (k : Int) : Int := [1, 1, 2, 5, 14, 42, 132, 429, 1430].getD k.toNat 0
def plainB (k : Int) : Bool := inB k 0 8
def plainL (k : Int) : Int := if plainB k then plainN k else 0

theorem sMakePlain_any (k : Int) (w : World) :
    Calls Try.prog 15 #[.int .i64 k] w fun e w' => e = .returned (.tuple #[.int .i64 (plainL k), .bool (plainB k)]) ∧ w = w' := by
  by_cases h : inB k 0 8 = true
  · have hb := inB_iff.1 h
    have hk : k = 0 ∨ k = 1 ∨ k = 2 ∨ k = 3 ∨ k = 4 ∨ k = 5 ∨ k = 6 ∨ k = 7 ∨ k = 8 := by omega
    clear h hb
    rcases hk with rfl | rfl | rfl | rfl | rfl | rfl | rfl | rfl | rfl
    all_goals
      go_enter Try.func15, Try.ntmps15
      go_wp2_with (go_at_call 40; refine (l6In_any _ _ _ _).mono ?_; rintro e w' ⟨rfl, rfl⟩)
      go_rounds 9
      all_goals
        go_ret2
        exact ⟨rfl, rfl⟩
  · have h : inB k 0 8 = false := by simpa using h
    have hL : plainL k = 0 := by simp [plainL, plainB, h]
    have hB : plainB k = false := by simp [plainB, h]
    rw [hL, hB]
    clear hL hB
    go_enter Try.func15, Try.ntmps15
    go_wp2_with (go_at_call 40; refine (l6In_any _ _ _ _).mono ?_; rintro e w' ⟨rfl, rfl⟩)
    go_ret2
    exact ⟨rfl, rfl⟩

theorem iMakePlain_any (k : Int) (w : World) :
    Calls Try.prog 16 #[.int .i64 k] w fun e w' => e = .returned (.tuple #[.int .i64 (plainL k), .bool (plainB k)]) ∧ w = w' := by
  by_cases h : inB k 0 8 = true
  · have hb := inB_iff.1 h
    have hk : k = 0 ∨ k = 1 ∨ k = 2 ∨ k = 3 ∨ k = 4 ∨ k = 5 ∨ k = 6 ∨ k = 7 ∨ k = 8 := by omega
    clear h hb
    rcases hk with rfl | rfl | rfl | rfl | rfl | rfl | rfl | rfl | rfl
    all_goals
      go_enter Try.func16, Try.ntmps16
      go_wp2_with (go_at_call 41; refine (within_any _ _ _ _).mono ?_; rintro e w' ⟨rfl, rfl⟩)
      go_rounds 9
      go_rounds 9
      all_goals
        go_ret2
        exact ⟨rfl, rfl⟩
  · have h : inB k 0 8 = false := by simpa using h
    have hL : plainL k = 0 := by simp [plainL, plainB, h]
    have hB : plainB k = false := by simp [plainB, h]
    rw [hL, hB]
    clear hL hB
    go_enter Try.func16, Try.ntmps16
    go_wp2_with (go_at_call 41; refine (within_any _ _ _ _).mono ?_; rintro e w' ⟨rfl, rfl⟩)
    go_ret2
    exact ⟨rfl, rfl⟩
end Go.Proofs.Ytgfkimhkkoopcaa
