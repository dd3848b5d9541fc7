/- Contracts: which lists are grids (GridIn, both). -/
/- Contracts: entering, turning, stepping, leaving as the spec does it (l2Enter, l2Bend, l2Step, l2Leave). -/
/- Contracts: entering a grid, turning at a cell, going on (enter, turned, after). -/
import Derived.Test.YtfpcfolcdpdomaaStS
import Derived.Test.YtfpcfolcdpdomaaRv
import Derived.Deep.RegionWith
namespace Go.Proofs.Ytfpcfolcdpdomaa
open Go.RowKit
set_option linter.unusedVariables false

theorem l2Bend_any (c : Int) (d : Nat) (w : World) (hd : d < 4) :
    Calls Try.prog 54 #[.int .u8 c, .int .i64 d] w fun e w' => e = .returned (.int .i64 (bend c d)) ∧ w = w' := by
  by_cases h1 : c = 114
  · subst h1
    have hd2 : d = 0 ∨ d = 1 ∨ d = 2 ∨ d = 3 := by omega
    rcases hd2 with rfl | rfl | rfl | rfl
    all_goals
      go_enter Try.func54, Try.ntmps54
      go_wp2
      go_ret
      exact ⟨rfl, rfl⟩
  · by_cases h2 : c = 102
    · subst h2
      have hd2 : d = 0 ∨ d = 1 ∨ d = 2 ∨ d = 3 := by omega
      rcases hd2 with rfl | rfl | rfl | rfl
      all_goals
        go_enter Try.func54, Try.ntmps54
        go_wp2
        go_ret
        exact ⟨rfl, rfl⟩
    · have HB := Lib.hid (show bend c d = d by simp [bend, h1, h2])
      have g1 : (c == 114) = false := by simp [h1]
      have g2 : (c == 102) = false := by simp [h2]
      clear h1 h2
      go_enter Try.func54, Try.ntmps54
      go_wp2
      go_ret
      exact ⟨by rw [HB.out]; rfl, rfl⟩

/-- One step in a direction. -/
def stI (i : Int) (d : Nat) : Int := if d = 0 then i - 1 else if d = 2 then i + 1 else i
def stK (k : Int) (d : Nat) : Int := if d = 1 then k + 1 else if d = 3 then k - 1 else k
theorem l2Step_any (i k : Int) (d : Nat) (w : World) (hd : d < 4) (hi0 : -100 ≤ i) (hi : i ≤ 100) (hk0 : -100 ≤ k) (hk : k ≤ 100) :
    Calls Try.prog 55 #[.int .i64 i, .int .i64 k, .int .i64 d] w fun e w' => e = .returned (.tuple #[.int .i64 (stI i d), .int .i64 (stK k d)]) ∧ w = w' := by
  have hd2 : d = 0 ∨ d = 1 ∨ d = 2 ∨ d = 3 := by omega
  rcases hd2 with rfl | rfl | rfl | rfl
  all_goals
    go_enter Try.func55, Try.ntmps55
    go_wp2
    go_ret2
    exact ⟨rfl, rfl⟩

/-- The port behind a place next to the grid, or -1. -/
def lv (n m : Nat) (i k : Int) : Int := if i < 0 then k else if (m : Int) ≤ k then m + i else if (n : Int) ≤ i then 2 * m + n - 1 - k else if k < 0 then 2 * (n + m) - 1 - i else -1
theorem l2Leave_any (n m : Nat) (i k : Int) (w : World) (hn : n ≤ 5) (hm : m ≤ 5) (hi0 : -100 ≤ i) (hi : i ≤ 100) (hk0 : -100 ≤ k) (hk : k ≤ 100) :
    Calls Try.prog 56 #[.int .i64 n, .int .i64 m, .int .i64 i, .int .i64 k] w fun e w' => e = .returned (.int .i64 (lv n m i k)) ∧ w = w' := by
  by_cases h1 : i < 0
  · have HB := Lib.hid (show lv n m i k = k by simp [lv, h1])
    go_enter Try.func56, Try.ntmps56
    go_wp2
    go_ret
    exact ⟨by rw [HB.out]; rfl, rfl⟩
  · by_cases h2 : (m : Int) ≤ k
    · have HB := Lib.hid (show lv n m i k = m + i by simp [lv, h1, h2])
      go_enter Try.func56, Try.ntmps56
      go_wp2
      go_ret
      exact ⟨by rw [HB.out]; rfl, rfl⟩
    · by_cases h3 : (n : Int) ≤ i
      · have HB := Lib.hid (show lv n m i k = 2 * m + n - 1 - k by simp [lv, h1, h2, h3])
        go_enter Try.func56, Try.ntmps56
        go_wp2
        go_ret
        exact ⟨by rw [HB.out]; rfl, rfl⟩
      · by_cases h4 : k < 0
        · have HB := Lib.hid (show lv n m i k = 2 * (n + m) - 1 - i by simp [lv, h1, h2, h3, h4])
          go_enter Try.func56, Try.ntmps56
          go_wp2_with (go_at_call 47; refine (l2Ports_any _ _ _ (by omega) (by omega) (by omega) (by omega)).mono ?_; rintro e w' ⟨rfl, rfl⟩)
          go_ret
          exact ⟨by rw [HB.out]; rfl, rfl⟩
        · have HB := Lib.hid (show lv n m i k = -1 by simp [lv, h1, h2, h3, h4])
          go_enter Try.func56, Try.ntmps56
          go_wp2
          go_ret
          exact ⟨by rw [HB.out]; rfl, rfl⟩

/-- Where a port is entered: row, column, direction. -/
def en3 (n m p : Nat) : Nat × Nat × Nat :=
  if p < m then (0, p, 2) else if p < m + n then (p - m, m - 1, 3) else if p < 2 * m + n then (n - 1, 2 * m + n - 1 - p, 0) else (2 * (n + m) - 1 - p, 0, 1)
theorem l2Enter_any (n m p : Nat) (w : World) (hn1 : 1 ≤ n) (hn : n ≤ 5) (hm1 : 1 ≤ m) (hm : m ≤ 5) (hp : p < 2 * n + 2 * m) :
    Calls Try.prog 53 #[.int .i64 n, .int .i64 m, .int .i64 p] w fun e w' => e = .returned (.tuple #[.int .i64 (en3 n m p).1, .int .i64 (en3 n m p).2.1, .int .i64 (en3 n m p).2.2]) ∧ w = w' := by
  by_cases h1 : p < m
  · have HB := Lib.hid (show en3 n m p = (0, p, 2) by simp [en3, h1])
    go_enter Try.func53, Try.ntmps53
    go_wp2
    go_ret3
    exact ⟨by rw [HB.out]; rfl, rfl⟩
  · by_cases h2 : p < m + n
    · have HB := Lib.hid (show en3 n m p = (p - m, m - 1, 3) by simp [en3, h1, h2])
      have i1 : ((p - m : Nat) : Int) = p - m := by omega
      have i2 : ((m - 1 : Nat) : Int) = m - 1 := by omega
      have I := Lib.hid (And.intro i1 i2)
      clear i1 i2
      go_enter Try.func53, Try.ntmps53
      go_wp2
      go_ret3
      exact ⟨by rw [HB.out]; dsimp only; rw [I.out.1, I.out.2]; rfl, rfl⟩
    · by_cases h3 : p < 2 * m + n
      · have HB := Lib.hid (show en3 n m p = (n - 1, 2 * m + n - 1 - p, 0) by simp [en3, h1, h2, h3])
        have i1 : ((n - 1 : Nat) : Int) = n - 1 := by omega
        have i2 : ((2 * m + n - 1 - p : Nat) : Int) = 2 * m + n - 1 - p := by omega
        have I := Lib.hid (And.intro i1 i2)
        clear i1 i2
        go_enter Try.func53, Try.ntmps53
        go_wp2
        go_ret3
        exact ⟨by rw [HB.out]; dsimp only; rw [I.out.1, I.out.2]; rfl, rfl⟩
      · have HB := Lib.hid (show en3 n m p = (2 * (n + m) - 1 - p, 0, 1) by simp [en3, h1, h2, h3])
        have i1 : ((2 * (n + m) - 1 - p : Nat) : Int) = 2 * (n + m) - 1 - p := by omega
        have I := Lib.hid i1
        clear i1
        go_enter Try.func53, Try.ntmps53
        go_wp2_with (go_at_call 47; refine (l2Ports_any _ _ _ (by omega) (by omega) (by omega) (by omega)).mono ?_; rintro e w' ⟨rfl, rfl⟩)
        go_ret3
        exact ⟨by rw [HB.out]; dsimp only; rw [I.out]; rfl, rfl⟩

section
variable {g : Gr} (hg : g.ok)
include hg
theorem Gr.en3_ent {p : Nat} (hp : p < g.ports) : g.ent p = ((en3 g.n g.m p).1 * g.m + (en3 g.n g.m p).2.1, (en3 g.n g.m p).2.2) ∧ (en3 g.n g.m p).1 < g.n ∧ (en3 g.n g.m p).2.1 < g.m ∧ (en3 g.n g.m p).2.2 < 4 := by
  have := hg.n1
  have := hg.m1
  unfold Gr.ports at hp
  unfold Gr.ent en3
  split
  · simp; omega
  · split
    · refine ⟨?_, by simp; omega⟩
      simp only [Prod.mk.injEq, and_true]
      omega
    · split
      · refine ⟨?_, by simp; omega⟩
        simp only [Prod.mk.injEq, and_true]
        omega
      · refine ⟨?_, by simp; omega⟩
        simp only [Prod.mk.injEq, and_true, Nat.add_zero]
        congr 1
        omega
/-- A state's step in rows and columns. -/
theorem Gr.nx_step {i k d : Nat} (hi : i < g.n) (hk : k < g.m) (hd : d < 4) :
    let D := bend (g.lt i k) d
    (∃ i' k', stI i D = (i' : Nat) ∧ stK k D = (k' : Nat) ∧ i' < g.n ∧ k' < g.m ∧ g.nx (i * g.m + k, d) = some (i' * g.m + k', D) ∧ lv g.n g.m (stI i D) (stK k D) = -1) ∨
    (g.nx (i * g.m + k, d) = none ∧ lv g.n g.m (stI i D) (stK k D) = (g.out (i * g.m + k, d) : Nat)) := by
  intro D
  have hD : D < 4 := bend_lt _ hd
  have h1 := Gr.div_of hg (i := i) hk
  have h2 := Gr.mod_of hg (i := i) hk
  have hdir : g.dir (i * g.m + k, d) = D := by simp only [Gr.dir, h1, h2]; rfl
  have hn := hg.n1
  have hm := hg.m1
  unfold Gr.nx Gr.out
  simp only [hdir, h1, h2]
  have hD2 : D = 0 ∨ D = 1 ∨ D = 2 ∨ D = 3 := by omega
  rcases hD2 with h | h | h | h <;> simp only [h, stI, stK]
  · by_cases c : i = 0
    · right
      subst c
      exact ⟨by simp, by simp [lv]⟩
    · left
      have : 1 * g.m ≤ i * g.m := Nat.mul_le_mul_right _ (Nat.pos_of_ne_zero c)
      refine ⟨i - 1, k, by simp; omega, by simp, by omega, hk, by simp [c, Nat.sub_mul]; omega, ?_⟩
      simp [lv]; omega
  · by_cases c : k = g.m - 1
    · right
      refine ⟨by simp [c], ?_⟩
      simp [lv]; omega
    · left
      refine ⟨i, k + 1, by simp, by simp, by omega, by omega, by simp [c]; omega, ?_⟩
      simp [lv]; omega
  · by_cases c : i = g.n - 1
    · right
      refine ⟨by simp [c], ?_⟩
      simp [lv]; omega
    · left
      refine ⟨i + 1, k, by simp, by simp, by omega, by omega, by simp [c, Nat.succ_mul]; omega, ?_⟩
      simp [lv]; omega
  · by_cases c : k = 0
    · right
      subst c
      refine ⟨by simp, ?_⟩
      simp [lv]; omega
    · left
      refine ⟨i, k - 1, by simp, by simp; omega, by omega, by omega, by simp [c]; omega, ?_⟩
      simp [lv]; omega
end

end Go.Proofs.Ytfpcfolcdpdomaa
