/- Contract: the laws' sameTexts at the same texts. -/
import Derived.Test.YtoabhbdglgmcdaaStS
namespace Go.Proofs.Ytoabhbdglgmcdaa
open Go.RowKit
set_option linter.unusedVariables false

theorem sameTexts_any (ao bo : Option Addr) (ca cb : Nat) (xs : List ByteArray) (w : World) (hx : CellsS w ao xs) (hy : CellsS w bo xs) (hm : xs.length ≤ maxLen) :
    Calls Try.prog 30 #[.slice ao xs.length ca, .slice bo xs.length cb] w fun e w' => e = .returned (.bool true) ∧ Dr w w' := by
  unfold maxLen at hm
  have hl' : ((xs.length : Int) != (xs.length : Int)) = false := by simp
  go_enter Try.func30, Try.ntmps30
  go_wp2_with fail
  go_loopw [5] (fun i wr => ∃ k : Nat, k ≤ xs.length ∧ i = .int .i64 k ∧ Dr w wr) (fun i _ => xs.length - (intOf i).toNat)
  case atStart => exact ⟨0, Nat.zero_le _, rfl, Dr.refl _⟩
  case round =>
    obtain ⟨k, hk, rfl, n, rfl⟩ := hrel
    by_cases hlt : k < xs.length
    · obtain ⟨b, off, rfl, hc, _⟩ := hx.at hlt
      obtain ⟨b2, off2, rfl, hc2, _⟩ := hy.at hlt
      have hck := hc k hlt
      have hck2 := hc2 k hlt
      generalize rowOf xs k = x at hck hck2
      clear hx hy hc hc2
      go_wp2
      go_quiet (fail)
      go_wp2
      go_roundw
      case rel => exact ⟨k + 1, by omega, by go_num, _, rfl⟩
      case measure => simp [intOf]; omega
    · obtain rfl : k = xs.length := by omega
      clear hx hy
      go_wp2
      go_ret
      exact ⟨rfl, _, rfl⟩

end Go.Proofs.Ytoabhbdglgmcdaa
