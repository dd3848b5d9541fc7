/- Contracts: which lists are pairings. -/
import Derived.Test.YtcigmmafmogmkaaRv
namespace Go.Proofs.Ytcigmmafmogmkaa
open Go.RowKit

theorem iCrossIn_any (ao : Option Addr) (cap : Nat) (xs : List Int) (w : World) (hx : CellsI w ao xs) (hm : xs.length ≤ maxLen) :
    Calls Try.prog 46 #[.slice ao xs.length cap] w fun e w' => e = .returned (.bool (pairsB xs)) ∧ w = w' := by
  unfold maxLen at hm
  go_enter Try.func46, Try.ntmps46
  go_wp2_with fail
  go_loop [7] (fun i => ∃ k : Nat, k ≤ xs.length ∧ i = .int .i64 k ∧ Hid (okTo xs k)) (fun i => xs.length - (intOf i).toNat)
  case atStart => exact ⟨0, Nat.zero_le _, rfl, okTo_zero xs⟩
  case round =>
    obtain ⟨k, hk, rfl, ho⟩ := hrel
    by_cases hlt : k < xs.length
    · obtain ⟨b, off, rfl, hc, _⟩ := hx.at hlt
      have hck := hc k hlt
      have hok : okAt xs k = (inB (xs.getD k 0) 0 ((xs.length : Int) - 1) && !(xs.getD k 0 == (k : Int)) && (xs.getD (xs.getD k 0).toNat 0 == (k : Int))) := rfl
      generalize hq : xs.getD k 0 = q at hok hck
      have HC := Lib.hid hc
      clear hc hx hq
      cases h1 : inB q 0 ((xs.length : Int) - 1)
      · have hok' := pairsB_no hlt (by rw [hok, h1]; simp)
        clear ho hok
        have H := Lib.hid hok'
        clear hok'
        go_wp2_with (go_at_call 58; refine (within_any _ _ _ _).mono ?_; rintro e w' ⟨rfl, rfl⟩)
        go_ret
        exact ⟨ret_bool (by rw [H.out]), rfl⟩
      · obtain ⟨hq0, hq1⟩ := inB_iff.1 h1
        obtain ⟨m, rfl⟩ := Int.eq_ofNat_of_zero_le hq0
        have hm2 : m < xs.length := by omega
        have hcm := HC.out m hm2
        have H1 := Lib.hid h1
        by_cases h2 : ((m : Int) == (k : Int)) = true
        · have hok' := pairsB_no hlt (by rw [hok, h1, h2]; simp)
          clear ho hok h1
          have H := Lib.hid hok'
          clear hok'
          go_wp2_with (go_at_call 58; refine (within_any _ _ _ _).mono ?_; rintro e w' ⟨rfl, rfl⟩)
          go_ret
          exact ⟨ret_bool (by rw [H.out]), rfl⟩
        · have h2 : ((m : Int) == (k : Int)) = false := by simpa using h2
          rw [h1, h2] at hok
          simp only [Int.toNat_natCast] at hok
          generalize hz : xs.getD m 0 = z at hok hcm
          clear h1 hz
          cases h3 : (z == (k : Int))
          · have hok' := pairsB_no hlt (by rw [hok, h3]; simp)
            clear ho hok
            have H := Lib.hid hok'
            clear hok'
            go_wp2_with (go_at_call 58; refine (within_any _ _ _ _).mono ?_; rintro e w' ⟨rfl, rfl⟩)
            go_ret
            exact ⟨ret_bool (by rw [H.out]), rfl⟩
          · have hs := okTo_succ ho (by rw [hok, h3]; simp)
            have HS := Lib.hid hs
            clear ho hok hs
            go_wp2_with (go_at_call 58; refine (within_any _ _ _ _).mono ?_; rintro e w' ⟨rfl, rfl⟩)
            go_round
            case rel => exact ⟨k + 1, by omega, by go_num, HS.out⟩
            case measure => simp [intOf]; omega
    · obtain rfl : k = xs.length := by omega
      have H := Lib.hid (pairsB_end ho)
      have he := okTo_even ho
      have he2 : ((xs.length : Int) % 2 == 0) = true := by rw [beq_iff_eq]; omega
      clear he
      clear ho
      go_wp2_with (go_at_call 58; refine (within_any _ _ _ _).mono ?_; rintro e w' ⟨rfl, rfl⟩)
      go_ret
      exact ⟨ret_bool (by rw [H.out]), rfl⟩

end Go.Proofs.Ytcigmmafmogmkaa
