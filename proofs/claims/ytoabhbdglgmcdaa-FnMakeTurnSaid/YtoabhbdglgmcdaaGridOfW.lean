/- Contract: the grid that a number tells (GridOf). -/
import Derived.Test.YtoabhbdglgmcdaaPut2W
namespace Go.Proofs.Ytoabhbdglgmcdaa
open Go.RowKit
set_option linter.unusedVariables false
set_option linter.unusedSimpArgs false

/-- The letter of a digit. -/
def dgl (d : Nat) : Int := if d = 0 then 46 else if d = 1 then 114 else 102
/-- The letters that a number tells for rows of m columns. -/
def ofF (num m r c : Nat) : Int := dgl (num / 3 ^ (r * m + c) % 3)
theorem dgl_let (d : Nat) : letB (dgl d) = true := by
  unfold dgl
  split
  · rfl
  · split <;> rfl
theorem GridOf1_any (w0 w : World) (pre post : List Seg) (b : Nat) (num r c : Nat) (hn : num ≤ 4611686018427387904) (h : St w0 w (pre ++ SI (.slice (some ⟨b, 0, none⟩) 1 1) [(num : Int)] :: post)) :
    Calls Try.prog 76 #[.int .i64 r, .int .i64 c, .pointer (some ⟨b, 0, none⟩)] w fun e w' => e = .returned (.int .u8 (dgl (num % 3))) ∧ St w0 w' (pre ++ SI (.slice (some ⟨b, 0, none⟩) 1 1) [((num / 3 : Nat) : Int)] :: post) := by
  have hc : w.cell? ⟨b, 0, none⟩ = some (.int .i64 (num : Int)) := by
    obtain ⟨b', off, he, hc⟩ := (OwnI.cells (SI_own.1 (h.own (SI (.slice (some ⟨b, 0, none⟩) 1 1) [(num : Int)]) (List.mem_append.2 (.inr List.mem_cons_self))))) 0 (Nat.zero_lt_succ _)
    cases he
    exact hc
  obtain ⟨_, hf, hput⟩ := St.putAt pre post h 0 (by simp)
  have hp := hput ((num / 3 : Nat) : Int)
  have HP := Lib.hid hp
  clear h hput hp
  have hd : num % 3 = 0 ∨ num % 3 = 1 ∨ num % 3 = 2 := by omega
  have e3 : ((num / 3 : Nat) : Int) = (num : Int) / 3 := by omega
  have E3 := Lib.hid e3
  clear e3
  rcases hd with hd | hd | hd
  all_goals
    have hd2 : (num : Int) % 3 = ((num % 3 : Nat) : Int) := by omega
    rw [hd] at hd2 ⊢
    clear hd
    go_enter Try.func76, Try.ntmps76
    go_wp2
    go_ret
    exact ⟨rfl, by have := HP.out; rw [E3.out] at this ⊢; exact this⟩

/-- A number that tells a grid of n rows and m columns. -/
def ofNB (n m num : Int) : Bool := (inB n 1 5 && inB m 1 5) && decide (0 ≤ num) && decide (num < 3 ^ (n.toNat * m.toNat))
def ofNL (n m num : Int) : List ByteArray := if ofNB n m num = true then gridT n.toNat m.toNat (ofF num.toNat m.toNat) else []
theorem ofN_nat {n m num : Int} (h : ofNB n m num = true) : ∃ n' m' k : Nat, n = n' ∧ m = m' ∧ num = k ∧ 1 ≤ n' ∧ n' ≤ 5 ∧ 1 ≤ m' ∧ m' ≤ 5 ∧ k < 3 ^ (n' * m') := by
  simp only [ofNB, Bool.and_eq_true, inB_iff, decide_eq_true_iff] at h
  obtain ⟨⟨⟨h1, h2⟩, h3⟩, h4⟩ := h
  refine ⟨n.toNat, m.toNat, num.toNat, by omega, by omega, by omega, by omega, by omega, by omega, by omega, ?_⟩
  have : ((3 ^ (n.toNat * m.toNat) : Nat) : Int) = 3 ^ (n.toNat * m.toNat) := by simp
  omega
set_option maxHeartbeats 1000000 in
theorem iGridOf_any (n m num : Int) (w : World) (hnum : num ≤ 4611686018427387904) :
    Calls Try.prog 73 #[.int .i64 n, .int .i64 m, .int .i64 num] w fun e w' => ∃ v, e = .returned (.tuple #[v, .bool (ofNB n m num)]) ∧ St w w' [SS v (ofNL n m num)] := by
  have st0 : St w (w.alloc (.cells #[.int .i64 num] 3)) [SI (.slice (some ⟨w.heap.size, 0, none⟩) 1 1) [num]] := (St.init w).addSeg (s := SI (.slice (some ⟨w.heap.size, 0, none⟩) 1 1) [num]) (World.ownsRow_lit w #[.int .i64 num] 1 (Nat.le_refl _) (by unfold maxLen; omega) rfl) ((Below.refl _ _).alloc (Nat.le_refl _) (.cells #[.int .i64 num] 3))
  have hnil : ∀ W segs, St w W segs → St w (W.alloc (.cells #[] 9)) [SS (.slice (some ⟨W.heap.size, 0, none⟩) 0 0) []] := fun W segs h =>
    (⟨h.below, by simp, List.Pairwise.nil⟩ : St w W []).addSeg (World.ownsRow_made W #[] 0 (Nat.le_refl _) (Nat.zero_le _) rfl) ((Below.refl _ _).alloc (Nat.le_refl _) (.cells #[] 9))
  have HNIL := Lib.hid hnil
  have ST0 := Lib.hid st0
  clear st0 hnil
  cases hs : inB n 1 5 && inB m 1 5
  · have HS := Lib.hid hs
    have HB := Lib.hid (show ofNB n m num = false by simp only [ofNB, hs, Bool.false_and])
    have HL := Lib.hid (show ofNL n m num = [] by simp only [ofNL, HB.out, Bool.false_eq_true, if_false])
    have ST1 := Lib.hid (HNIL.out _ _ ST0.out)
    rw [World.size_alloc] at ST1
    clear hs HNIL
    go_enter Try.func73, Try.ntmps73
    go_wp2_with fail
    refine (sidesOk_any _ _ _).mono ?_
    rintro e w2 ⟨rfl, rfl⟩
    rw [HS.out]
    go_wp2
    go_ret2
    exact ⟨_, by rw [HB.out]; rfl, by rw [HL.out]; exact ST1.out⟩
  · have HS := Lib.hid hs
    by_cases hneg : num < 0
    · have HB := Lib.hid (show ofNB n m num = false by
        have : ¬ 0 ≤ num := by omega
        simp [ofNB, this])
      have HL := Lib.hid (show ofNL n m num = [] by simp only [ofNL, HB.out, Bool.false_eq_true, if_false])
      have ST1 := Lib.hid (HNIL.out _ _ ST0.out)
      rw [World.size_alloc] at ST1
      clear hs HNIL
      go_enter Try.func73, Try.ntmps73
      go_wp2_with fail
      refine (sidesOk_any _ _ _).mono ?_
      rintro e w2 ⟨rfl, rfl⟩
      rw [HS.out]
      go_wp2
      go_ret2
      exact ⟨_, by rw [HB.out]; rfl, by rw [HL.out]; exact ST1.out⟩
    · have hs2 := hs
      simp only [Bool.and_eq_true, inB_iff] at hs2
      obtain ⟨n, rfl⟩ := Int.eq_ofNat_of_zero_le (show 0 ≤ n by omega)
      obtain ⟨m, rfl⟩ := Int.eq_ofNat_of_zero_le (show 0 ≤ m by omega)
      obtain ⟨k, rfl⟩ := Int.eq_ofNat_of_zero_le (show 0 ≤ num by omega)
      have HK : Hid (ofNB n m k = decide (k / 3 ^ (n * m) = 0)) := by
        show _ = _
        simp only [ofNB, hs, Bool.true_and, Int.toNat_natCast]
        rw [show decide (0 ≤ (k : Int)) = true by simp, Bool.true_and]
        refine decide_eq_decide.2 ?_
        rw [Nat.div_eq_zero_iff]
        have e : ((3 ^ (n * m) : Nat) : Int) = 3 ^ (n * m) := by simp
        have : 0 < 3 ^ (n * m) := Nat.pow_pos (by omega)
        omega
      have hn5 : n ≤ 5 := by omega
      have hm5 : m ≤ 5 := by omega
      have HL : Hid (∀ b, ofNB n m k = b → ofNL n m k = if b = true then gridT n m (ofF k m) else []) := fun b h => by simp only [ofNL, h, Int.toNat_natCast]
      clear hs hs2
      go_enter Try.func73, Try.ntmps73
      go_wp2_with fail
      refine (sidesOk_any _ _ _).mono ?_
      rintro e w2 ⟨rfl, rfl⟩
      rw [HS.out]
      go_wp2_with fail
      refine (make_GridOf_1 w _ (fun j => [SI (.slice (some ⟨w.heap.size, 0, none⟩) 1 1) [((k / 3 ^ j : Nat) : Int)]]) n m (ofF k m) w.heap.size (by simpa using ST0.out) hn5 hm5 ?_).mono ?_
      · intro W pre r c hr hc st
        refine (GridOf1_any w W pre [] w.heap.size _ r c ?_ st).mono ?_
        · have := Nat.div_le_self k (3 ^ (r * m + c))
          omega
        · rintro e w3 ⟨rfl, st3⟩
          rw [Nat.div_div_eq_div_mul, ← Nat.pow_succ] at st3
          exact ⟨rfl, st3⟩
      · rintro e w3 ⟨v, rfl, st3⟩
        obtain ⟨b', off, he, hc⟩ := st3.cellAt 1 rfl (j := 0) (by simp)
        cases he
        have hc : w3.cell? ⟨w.heap.size, 0, none⟩ = some (.int .i64 ((k / 3 ^ (n * m) : Nat) : Int)) := hc
        have ST3 := Lib.hid st3
        clear st3
        generalize k / 3 ^ (n * m) = q at *
        by_cases hq : q = 0
        · subst hq
          have HB : Hid (ofNB n m k = true) := by show _ = _; rw [HK.out]; rfl
          have HLL := Lib.hid (HL.out true HB.out)
          go_wp2
          go_ret2
          exact ⟨_, by rw [HB.out]; rfl, by rw [HLL.out]; exact ST3.out.drop1⟩
        · have hq2 : 0 < (q : Int) := by omega
          have HB : Hid (ofNB n m k = false) := by show _ = _; rw [HK.out]; simp [hq]
          have HLL := Lib.hid (HL.out false HB.out)
          have ST4 := Lib.hid (HNIL.out _ _ ST3.out)
          clear hq
          go_wp2
          go_ret2
          exact ⟨_, by rw [HB.out]; rfl, by rw [HLL.out]; exact ST4.out⟩
end Go.Proofs.Ytoabhbdglgmcdaa
