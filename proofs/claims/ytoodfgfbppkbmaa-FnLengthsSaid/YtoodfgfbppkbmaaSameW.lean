/- Contract: sameInts. -/
import Derived.Test.YtoodfgfbppkbmaaHelpW
namespace Go.Proofs.Ytoodfgfbppkbmaa
open Go.RowKit
set_option linter.unusedVariables false

theorem sameInts_any (ao bo : Option Addr) (ca cb : Nat) (xs ys : List Int) (w : World) (hx : CellsI w ao xs) (hy : CellsI w bo ys) (hm : xs.length ≤ maxLen) (hn : ys.length ≤ maxLen) :
    Calls Try.prog 22 #[.slice ao xs.length ca, .slice bo ys.length cb] w fun e w' => e = .returned (.bool (eqL xs ys)) ∧ Dr w w' := by
  unfold maxLen at hm hn
  by_cases hl : xs.length = ys.length
  · have hl' : ((xs.length : Int) != (ys.length : Int)) = false := by simp [hl]
    have HL := Lib.hid hl
    clear hl
    go_enter Try.func22, Try.ntmps22
    go_wp2_with fail
    go_loopw [5] (fun i wr => ∃ k : Nat, k ≤ xs.length ∧ i = .int .i64 k ∧ Hid (∀ j, j < k → xs.getD j 0 = ys.getD j 0) ∧ Dr w wr) (fun i _ => xs.length - (intOf i).toNat)
    case atStart => exact ⟨0, Nat.zero_le _, rfl, fun j h => by omega, Dr.refl _⟩
    case round =>
      obtain ⟨k, hk, rfl, ho, n, rfl⟩ := hrel
      by_cases hlt : k < xs.length
      · obtain ⟨b, off, rfl, hc, _⟩ := hx.at hlt
        have hlt2 : k < ys.length := by rw [← HL.out]; exact hlt
        obtain ⟨b2, off2, rfl, hc2, _⟩ := hy.at hlt2
        have hck := hc k hlt
        have hck2 := hc2 k hlt2
        have hd : xs.getD k 0 ≠ ys.getD k 0 → eqL xs ys = false := eqL_no k
        have hs : xs.getD k 0 = ys.getD k 0 → ∀ j, j < k + 1 → xs.getD j 0 = ys.getD j 0 := fun e j hj => by
          by_cases e2 : j = k
          · rw [e2]; exact e
          · exact ho j (by omega)
        generalize xs.getD k 0 = x at hck hd hs
        generalize ys.getD k 0 = y at hck2 hd hs
        clear hx hy hc hc2 ho
        cases h : (x != y)
        · have HS := Lib.hid (hs (by simpa using h))
          clear hd hs
          go_wp2
          go_quiet (fail)
          go_wp2
          go_roundw
          case rel => exact ⟨k + 1, by omega, by go_num, HS.out, _, rfl⟩
          case measure => simp [intOf]; omega
        · have HS := Lib.hid (hd (by simpa using h))
          clear hd hs
          go_wp2
          go_quiet (fail)
          go_wp2
          go_ret
          exact ⟨ret_bool (by rw [HS.out]), Dr.two _ _ _⟩
      · obtain rfl : k = xs.length := by omega
        have HS := Lib.hid (eqL_all HL.out ho)
        clear ho hx hy
        go_wp2
        go_ret
        exact ⟨ret_bool (by rw [HS.out]), _, rfl⟩
  · have hl' : ((xs.length : Int) != (ys.length : Int)) = true := by rw [bne_iff_ne]; omega
    have HS := Lib.hid (eqL_len hl)
    clear hl
    go_enter Try.func22, Try.ntmps22
    go_wp2
    go_ret
    exact ⟨ret_bool (by rw [HS.out]), Dr.refl _⟩

end Go.Proofs.Ytoodfgfbppkbmaa
