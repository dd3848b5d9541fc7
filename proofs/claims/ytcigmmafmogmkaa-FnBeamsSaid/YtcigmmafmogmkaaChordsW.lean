/- Contracts: how many pairs cross (CrossChords, both). -/
import Derived.Test.YtcigmmafmogmkaaPairsW
import Derived.Test.YtcigmmafmogmkaaChordsL
namespace Go.Proofs.Ytcigmmafmogmkaa
open Go.RowKit
set_option linter.unusedVariables false

theorem iCrossChords_any (ao : Option Addr) (cap : Nat) (xs : List Int) (w : World) (hx : CellsI w ao xs) (hm : xs.length ≤ maxLen) :
    Calls Try.prog 24 #[.slice ao xs.length cap] w fun e w' => e = .returned (.tuple #[.int .i64 (chordsN xs), .bool (pairsB xs)]) ∧ w = w' := by
  cases hb : pairsB xs
  · have hL : chordsN xs = 0 := by simp [chordsN, hb]
    rw [hL]
    have H := Lib.hid hL
    clear hL
    go_enter Try.func24, Try.ntmps24
    go_wp2_with (go_at_call 46; refine (iCrossIn_any _ _ _ _ hx hm).mono ?_; rintro e w' ⟨rfl, rfl⟩)
    go_ret2
    exact ⟨rfl, rfl⟩
  · have hL : chordsN xs = chTo xs xs.length := by simp [chordsN, hb]
    rw [hL]
    clear hL
    have hlen := inB_iff.1 (pairsB_iff.1 hb).2
    have hl20 : xs.length ≤ 20 := by omega
    clear hlen
    go_enter Try.func24, Try.ntmps24
    go_wp2_with (go_at_call 46; refine (iCrossIn_any _ _ _ _ hx hm).mono ?_; rintro e w' ⟨rfl, rfl⟩)
    go_loop [4, 14] (fun m i => ∃ k : Nat, k ≤ xs.length ∧ i = .int .i64 k ∧ m = .int .i64 (chTo xs k)) (fun _ i => xs.length - (intOf i).toNat)
    case atStart => exact ⟨0, Nat.zero_le _, rfl, rfl⟩
    case round =>
      obtain ⟨k, hk, rfl, rfl⟩ := hrel
      by_cases hlt : k < xs.length
      · obtain ⟨b, off, rfl, hc, _⟩ := hx.at hlt
        have hck := hc k hlt
        have hle : chTo xs k ≤ 400 := by
          have h1 := chTo_le xs k
          have h2 : k * xs.length ≤ 20 * 20 := Nat.mul_le_mul (by omega) hl20
          omega
        have hdef : ∀ j, chAt xs k j = (decide ((k : Int) < j) && decide ((j : Int) < xs.getD k 0) && decide (xs.getD k 0 < xs.getD j 0)) := fun _ => rfl
        have hsucc := chTo_succ xs k
        generalize xs.getD k 0 = q at hck hdef
        generalize hS : chTo xs k = S at hle hsucc
        have HC := Lib.hid hc
        have HD := Lib.hid hdef
        have HS := Lib.hid hsucc
        clear hc hx hS hdef hsucc
        go_wp2_with fail
        go_loop [4, 21] (fun m i => ∃ j : Nat, j ≤ xs.length ∧ i = .int .i64 j ∧ m = .int .i64 (S + rowTo xs k j)) (fun _ i => xs.length - (intOf i).toNat)
        case atStart => exact ⟨0, Nat.zero_le _, rfl, by simp [rowTo]⟩
        case round =>
          obtain ⟨j, hj, rfl, rfl⟩ := hrel
          have hr := rowTo_le xs k j
          by_cases hlt2 : j < xs.length
          · have hcj := HC.out j hlt2
            have hd := HD.out j
            generalize xs.getD j 0 = d at hcj hd
            cases h1 : decide ((k : Int) < j)
            · have hn : chAt xs k j = false := by rw [hd, h1]; rfl
              have HN := Lib.hid (rowTo_no hn)
              clear hn hd
              simp only [decide_eq_false_iff_not] at h1
              go_wp2
              go_round
              case rel => exact ⟨j + 1, by omega, by go_num, by rw [HN.out]⟩
              case measure => simp [intOf]; omega
            · cases h2 : decide ((j : Int) < q)
              · have hn : chAt xs k j = false := by rw [hd, h1, h2]; rfl
                have HN := Lib.hid (rowTo_no hn)
                clear hn hd
                simp only [decide_eq_false_iff_not] at h2
                simp only [decide_eq_true_eq] at h1
                go_wp2
                go_round
                case rel => exact ⟨j + 1, by omega, by go_num, by rw [HN.out]⟩
                case measure => simp [intOf]; omega
              · cases h3 : decide (q < d)
                · have hn : chAt xs k j = false := by rw [hd, h1, h2, h3]; rfl
                  have HN := Lib.hid (rowTo_no hn)
                  clear hn hd
                  simp only [decide_eq_false_iff_not] at h3
                  simp only [decide_eq_true_eq] at h1 h2
                  go_wp2
                  go_round
                  case rel => exact ⟨j + 1, by omega, by go_num, by rw [HN.out]⟩
                  case measure => simp [intOf]; omega
                · have hn : chAt xs k j = true := by rw [hd, h1, h2, h3]; rfl
                  have HN := Lib.hid (rowTo_yes hn)
                  clear hn hd
                  simp only [decide_eq_true_eq] at h1 h2 h3
                  go_wp2
                  go_round
                  case rel => exact ⟨j + 1, by omega, by go_num, by rw [HN.out]; go_num⟩
                  case measure => simp [intOf]; omega
          · obtain rfl : j = xs.length := by omega
            go_wp2
            go_round
            case rel => exact ⟨k + 1, by omega, by go_num, by rw [HS.out]; go_num⟩
            case measure => simp [intOf]; omega
      · obtain rfl : k = xs.length := by omega
        clear hx
        go_wp2
        go_ret2
        exact ⟨rfl, rfl⟩

end Go.Proofs.Ytcigmmafmogmkaa
