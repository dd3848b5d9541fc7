/- Contract: the laws' total. -/
import Derived.Test.YtoodfgfbppkbmaaStS
namespace Go.Proofs.Ytoodfgfbppkbmaa
open Go.RowKit
set_option linter.unusedVariables false
set_option linter.unusedSimpArgs false

theorem sum_bound {xs : List Int} {B : Int} (hB : 0 ≤ B) (h : ∀ x ∈ xs, 0 ≤ x ∧ x ≤ B) : ∀ k, k ≤ xs.length → 0 ≤ (xs.take k).foldl (· + ·) 0 ∧ (xs.take k).foldl (· + ·) 0 ≤ B * k := by
  intro k
  induction k with
  | zero => intro _; simp
  | succ k ih =>
    intro hk
    have h1 := ih (by omega)
    have hx := h xs[k] (List.getElem_mem (by omega))
    rw [List.take_succ_eq_append_getElem (by omega), List.foldl_append]
    show 0 ≤ (xs.take k).foldl (· + ·) 0 + xs[k] ∧ (xs.take k).foldl (· + ·) 0 + xs[k] ≤ B * ((k + 1 : Nat) : Int)
    have e : B * ((k + 1 : Nat) : Int) = B * k + B := by rw [Int.natCast_succ, Int.mul_add, Int.mul_one]
    rw [e]
    omega
theorem total_any (ao : Option Addr) (cap : Nat) (xs : List Int) (w : World) (hx : CellsI w ao xs) (hm : xs.length ≤ 1000) (hb : ∀ x ∈ xs, 0 ≤ x ∧ x ≤ 1000) :
    Calls Try.prog 23 #[.slice ao xs.length cap] w fun e w' => e = .returned (.int .i64 (xs.foldl (· + ·) 0)) ∧ w = w' := by
  have HS := Lib.hid (sum_bound (by decide) hb)
  have HT : Hid (∀ k, k < xs.length → (xs.take k).foldl (· + ·) 0 + xs.getD k 0 = (xs.take (k + 1)).foldl (· + ·) 0) := fun k hk => by
    rw [List.take_succ_eq_append_getElem hk, List.foldl_append, List.getD_eq_getElem?_getD, List.getElem?_eq_getElem hk]
    rfl
  have HL := Lib.hid (show (xs.take xs.length).foldl (· + ·) 0 = xs.foldl (· + ·) 0 by rw [List.take_length])
  have HB : Hid (∀ k, k < xs.length → 0 ≤ xs.getD k 0 ∧ xs.getD k 0 ≤ 1000) := fun k hk => by
    rw [List.getD_eq_getElem?_getD, List.getElem?_eq_getElem hk]
    exact hb _ (List.getElem_mem hk)
  clear hb
  go_enter Try.func23, Try.ntmps23
  go_wp2_with fail
  go_loop [3, 4] (fun v3 v4 => ∃ k : Nat, k ≤ xs.length ∧ v4 = .int .i64 k ∧ v3 = .int .i64 ((xs.take k).foldl (· + ·) 0)) (fun _ v4 => xs.length - (intOf v4).toNat)
  case atStart => exact ⟨0, Nat.zero_le _, rfl, rfl⟩
  case round =>
    obtain ⟨k, hk, rfl, rfl⟩ := hrel
    have hs := HS.out k hk
    by_cases hlt : k < xs.length
    · obtain ⟨b, off, rfl, hc, _⟩ := hx.at hlt
      have hck := hc k hlt
      have ht := Lib.hid (HT.out k hlt)
      have hb := HB.out k hlt
      generalize xs.getD k 0 = x at *
      generalize (xs.take k).foldl (· + ·) 0 = S at *
      clear hx hc HT HB HS
      go_wp2
      go_round
      case rel => exact ⟨k + 1, by omega, by go_num, by rw [← ht.out]⟩
      case measure => simp [intOf]; omega
    · obtain rfl : k = xs.length := by omega
      have hl := HL.out
      generalize (xs.take xs.length).foldl (· + ·) 0 = S at *
      clear hx
      go_wp2
      go_ret
      exact ⟨by rw [← hl]; rfl, rfl⟩
end Go.Proofs.Ytoodfgfbppkbmaa
