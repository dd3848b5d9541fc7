/- Contracts: the side and the place of a port, and back (placeOf, portOf). -/
import Derived.Test.YtoodfgfbppkbmaaStS
namespace Go.Proofs.Ytoodfgfbppkbmaa
open Go.RowKit
set_option linter.unusedVariables false

def sideI (n m p : Int) : Int := if p < m then 0 else if p < m + n then 1 else if p < 2 * m + n then 2 else 3
def atI (n m p : Int) : Int := if p < m then p else if p < m + n then p - m else if p < 2 * m + n then m - 1 - (p - m - n) else n - 1 - (p - 2 * m - n)
def portI (n m s a : Int) : Int := if s = 0 then a else if s = 1 then m + a else if s = 2 then m + n + m - 1 - a else 2 * m + n + n - 1 - a

theorem placeOf_any (n m p : Int) (w : World) (hn0 : 0 ≤ n) (hn : n ≤ 100) (hm0 : 0 ≤ m) (hm : m ≤ 100) (hp0 : -1000 ≤ p) (hp : p ≤ 1000) :
    Calls Try.prog 80 #[.int .i64 n, .int .i64 m, .int .i64 p] w fun e w' => e = .returned (.agg #[.int .i64 (sideI n m p), .int .i64 (atI n m p)]) ∧ Below w.heap.size w w' := by
  by_cases h1 : p < m
  · have HS := Lib.hid (show sideI n m p = 0 by simp [sideI, h1])
    have HA := Lib.hid (show atI n m p = p by simp [atI, h1])
    go_enter Try.func80, Try.ntmps80
    go_wp2
    rw [HS.out, HA.out]
    refine bodyPost_ret (v := .agg #[.int .i64 0, .int .i64 p]) (by simp [results, Try.results80, go_sem]) rfl ⟨rfl, ?_⟩
    go_grown
  · by_cases h2 : p < m + n
    · have HS := Lib.hid (show sideI n m p = 1 by simp [sideI, h1, h2])
      have HA := Lib.hid (show atI n m p = p - m by simp [atI, h1, h2])
      go_enter Try.func80, Try.ntmps80
      go_wp2
      rw [HS.out, HA.out]
      refine bodyPost_ret (v := .agg #[.int .i64 1, .int .i64 (p - m)]) (by simp [results, Try.results80, go_sem]) rfl ⟨rfl, ?_⟩
      go_grown
    · by_cases h3 : p < 2 * m + n
      · have HS := Lib.hid (show sideI n m p = 2 by simp [sideI, h1, h2, h3])
        have HA := Lib.hid (show atI n m p = m - 1 - (p - m - n) by simp [atI, h1, h2, h3])
        go_enter Try.func80, Try.ntmps80
        go_wp2
        rw [HS.out, HA.out]
        refine bodyPost_ret (v := .agg #[.int .i64 2, .int .i64 (m - 1 - (p - m - n))]) (by simp [results, Try.results80, go_sem]) rfl ⟨rfl, ?_⟩
        go_grown
      · have HS := Lib.hid (show sideI n m p = 3 by simp [sideI, h1, h2, h3])
        have HA := Lib.hid (show atI n m p = n - 1 - (p - 2 * m - n) by simp [atI, h1, h2, h3])
        go_enter Try.func80, Try.ntmps80
        go_wp2
        rw [HS.out, HA.out]
        refine bodyPost_ret (v := .agg #[.int .i64 3, .int .i64 (n - 1 - (p - 2 * m - n))]) (by simp [results, Try.results80, go_sem]) rfl ⟨rfl, ?_⟩
        go_grown

theorem portOf_any (n m s a : Int) (w : World) (hn0 : 0 ≤ n) (hn : n ≤ 100) (hm0 : 0 ≤ m) (hm : m ≤ 100) (ha0 : -1000 ≤ a) (ha : a ≤ 1000) :
    Calls Try.prog 83 #[.int .i64 n, .int .i64 m, .agg #[.int .i64 s, .int .i64 a]] w fun e w' => e = .returned (.int .i64 (portI n m s a)) ∧ Below w.heap.size w w' := by
  by_cases h1 : s = 0
  · subst h1
    have HS := Lib.hid (show portI n m 0 a = a by simp [portI])
    go_enter Try.func83, Try.ntmps83
    go_wp2
    go_ret
    exact ⟨by rw [HS.out]; rfl, by go_grown⟩
  · by_cases h2 : s = 1
    · subst h2
      have HS := Lib.hid (show portI n m 1 a = m + a by simp [portI])
      go_enter Try.func83, Try.ntmps83
      go_wp2
      go_ret
      exact ⟨by rw [HS.out]; rfl, by go_grown⟩
    · by_cases h3 : s = 2
      · subst h3
        have HS := Lib.hid (show portI n m 2 a = m + n + m - 1 - a by simp [portI])
        go_enter Try.func83, Try.ntmps83
        go_wp2
        go_ret
        exact ⟨by rw [HS.out]; rfl, by go_grown⟩
      · have HS := Lib.hid (show portI n m s a = 2 * m + n + n - 1 - a by simp [portI, h1, h2, h3])
        have g1 : (s == 0) = false := by simp [h1]
        have g2 : (s == 1) = false := by simp [h2]
        have g3 : (s == 2) = false := by simp [h3]
        clear h1 h2 h3
        go_enter Try.func83, Try.ntmps83
        go_wp2
        go_ret
        exact ⟨by rw [HS.out]; rfl, by go_grown⟩
end Go.Proofs.Ytoodfgfbppkbmaa
