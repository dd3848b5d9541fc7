/- Contracts: slices.Sort of few ints, and what it calls. -/
import Derived.Test.YtoodfgfbppkbmaaSortW
namespace Go.Proofs.Ytoodfgfbppkbmaa
open Go.RowKit
set_option linter.unusedVariables false
set_option linter.unusedSimpArgs false

set_option maxRecDepth 100000 in
set_option maxHeartbeats 2000000 in
theorem len64_any (x : Nat) (hx : x ≤ 12) (w : World) : Calls Try.prog 102 #[.int .u64 x] w fun e w' => ∃ v, e = .returned (.int .i64 v) ∧ w = w' := by
  have e1 : decide ((x : Int) ≥ 4294967296) = false := decide_eq_false (by omega)
  have e2 : decide ((x : Int) ≥ 65536) = false := decide_eq_false (by omega)
  have e3 : decide ((x : Int) ≥ 256) = false := decide_eq_false (by omega)
  go_enter Try.func102, Try.ntmps102
  go_wp2
  go_ret
  exact ⟨_, rfl, rfl⟩
theorem len_any (x : Nat) (hx : x ≤ 12) (w : World) : Calls Try.prog 76 #[.int .u64 x] w fun e w' => ∃ v, e = .returned (.int .i64 v) ∧ w = w' := by
  go_enter Try.func76, Try.ntmps76
  go_wp2_with (go_at_call 102; refine (len64_any x hx _).mono ?_; rintro e w' ⟨v, rfl, rfl⟩)
  go_ret
  exact ⟨_, rfl, rfl⟩

set_option maxRecDepth 100000 in
set_option maxHeartbeats 2000000 in
theorem insSort0_any (a : Option Addr) (cap : Nat) (w : World) :
    Calls Try.prog 92 #[.slice a 0 cap, .int .i64 0, .int .i64 0] w fun e w' => e = .returned (.tuple #[]) ∧ w = w' := by
  go_enter Try.func92, Try.ntmps92
  go_wp2_with fail
  go_loopg [6] 0 (fun kk v6 wr => v6 = .int .i64 1 ∧ wr = w)
  case atStart => exact ⟨by first | rfl | go_num, rfl⟩
  case round =>
    obtain ⟨rfl, rfl⟩ := hrel
    go_wp2_with fail
    first
    | (go_ret; exact ⟨rfl, rfl⟩)
    | exact ⟨rfl, .tuple #[], by simp [results, Try.results92, go_sem], rfl, rfl⟩

theorem insSort_all (w0 w : World) (post : List Seg) (a : Option Addr) (cap : Nat) (xs : List Int) (h : St w0 w (SI (.slice a xs.length cap) xs :: post)) (h12 : xs.length ≤ 12) :
    Calls Try.prog 92 #[.slice a xs.length cap, .int .i64 0, .int .i64 xs.length] w fun e w' => e = .returned (.tuple #[]) ∧ St w0 w' (SI (.slice a xs.length cap) (sortL xs) :: post) := by
  cases xs with
  | nil =>
    refine (insSort0_any a cap w).mono ?_
    rintro e w' ⟨rfl, rfl⟩
    exact ⟨rfl, h⟩
  | cons x l =>
    obtain ⟨a2, c2, he, _, _, _, _, hfr⟩ := (h.get 0 rfl).shape
    cases he
    rcases hfr with ⟨h0, h1⟩ | ⟨g, rfl, _⟩
    · obtain ⟨b, off, hab, _⟩ := h.cellAt 0 rfl (j := 0) (by simp)
      rw [h0] at hab
      cases hab
    · exact insSort_any w0 w post g cap (x :: l) h (by simp) h12

set_option maxRecDepth 100000 in
set_option maxHeartbeats 4000000 in
theorem pdq_any (w0 w : World) (post : List Seg) (a : Option Addr) (cap : Nat) (xs : List Int) (v : Int) (h : St w0 w (SI (.slice a xs.length cap) xs :: post)) (h12 : xs.length ≤ 12) :
    Calls Try.prog 75 #[.slice a xs.length cap, .int .i64 0, .int .i64 xs.length, .int .i64 v] w fun e w' => e = .returned (.tuple #[]) ∧ St w0 w' (SI (.slice a xs.length cap) (sortL xs) :: post) := by
  have HI := Lib.hid (insSort_all w0 w post a cap xs h h12)
  generalize sortL xs = ys at *
  clear h
  generalize xs.length = n at *
  have e1 : decide ((n : Int) ≤ 12) = true := decide_eq_true (by omega)
  go_enter Try.func75, Try.ntmps75
  go_wp2_with fail
  go_loopg [1, 2, 3, 8, 9] 0 (fun kk v1 v2 v3 v8 v9 wr => v1 = .int .i64 0 ∧ v2 = .int .i64 n ∧ v3 = .int .i64 v ∧ v8 = .bool true ∧ v9 = .bool true ∧ wr = w)
  case atStart => exact ⟨rfl, rfl, rfl, rfl, rfl, rfl⟩
  case round =>
    obtain ⟨rfl, rfl, rfl, rfl, rfl, rfl⟩ := hrel
    go_wp2_with fail
    refine HI.out.mono ?_
    rintro e w2 ⟨rfl, st⟩
    have HST := Lib.hid st
    clear st
    go_wp2_with fail
    first
    | (go_ret; exact ⟨rfl, HST.out⟩)
    | exact ⟨rfl, .tuple #[], by simp [results, Try.results75, go_sem], rfl, HST.out⟩

theorem sort_any (w0 w : World) (post : List Seg) (a : Option Addr) (cap : Nat) (xs : List Int) (h : St w0 w (SI (.slice a xs.length cap) xs :: post)) (h12 : xs.length ≤ 12) :
    Calls Try.prog 44 #[.slice a xs.length cap] w fun e w' => e = .returned (.tuple #[]) ∧ St w0 w' (SI (.slice a xs.length cap) (sortL xs) :: post) := by
  have HP := Lib.hid fun v => pdq_any w0 w post a cap xs v h h12
  generalize sortL xs = ys at *
  clear h
  generalize xs.length = n at *
  go_enter Try.func44, Try.ntmps44
  go_wp2_with (first | (go_at_call 76; refine (len_any n h12 _).mono ?_; rintro e w' ⟨v, rfl, rfl⟩) | (go_at_call 75; refine (HP.out _).mono ?_; rintro e w2 ⟨rfl, st⟩; have HST := Lib.hid st; clear st))
  first
  | (go_ret; exact ⟨rfl, HST.out⟩)
  | exact ⟨rfl, .tuple #[], by simp [results, Try.results44, go_sem], rfl, HST.out⟩
end Go.Proofs.Ytoodfgfbppkbmaa
