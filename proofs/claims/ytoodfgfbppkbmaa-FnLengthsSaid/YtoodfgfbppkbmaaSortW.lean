/- Contracts: insertionSortOrdered and what it calls, at ints. -/
import Derived.Test.YtoodfgfbppkbmaaSortL
import Derived.Deep.LoopGhost
import Derived.Deep.RegionHeld3
import Derived.IntWalk
namespace Go.Proofs.Ytoodfgfbppkbmaa
open Go.RowKit
set_option linter.unusedVariables false
set_option linter.unusedSimpArgs false

theorem isNaN_any (x : Int) (w : World) : Calls Try.prog 111 #[.int .i64 x] w fun e w' => e = .returned (.bool false) ∧ w = w' := by
  have h : (x != x) = false := bne_self_eq_false _
  go_enter Try.func111, Try.ntmps111
  go_wp2
  go_ret
  exact ⟨rfl, rfl⟩
theorem less_any (x y : Int) (w : World) : Calls Try.prog 98 #[.int .i64 x, .int .i64 y] w fun e w' => e = .returned (.bool (decide (x < y))) ∧ w = w' := by
  go_enter Try.func98, Try.ntmps98
  go_wp2_with (go_at_call 111; refine (isNaN_any _ _).mono ?_; rintro e w' ⟨rfl, rfl⟩)
  go_ret
  exact ⟨rfl, rfl⟩

set_option maxRecDepth 100000 in
set_option maxHeartbeats 4000000 in
theorem insSort_any (w0 w : World) (post : List Seg) (g cap : Nat) (xs : List Int) (h : St w0 w (SI (.slice (some ⟨g, 0, none⟩) xs.length cap) xs :: post)) (h1 : 1 ≤ xs.length) (h12 : xs.length ≤ 12) :
    Calls Try.prog 92 #[.slice (some ⟨g, 0, none⟩) xs.length cap, .int .i64 0, .int .i64 xs.length] w fun e w' => e = .returned (.tuple #[]) ∧ St w0 w' (SI (.slice (some ⟨g, 0, none⟩) xs.length cap) (sortL xs) :: post) := by
  have e1 : sortTo xs 1 ++ xs.drop 1 = xs := by
    cases xs with
    | nil => simp at h1
    | cons a l => simp [sortTo, insR, posR]
  have HST := Lib.hid h
  have HE1 := Lib.hid e1
  have HL : Hid (∀ i, (sortTo xs i).length = i) := sortTo_length xs
  have HS : Hid (∀ i, sortTo xs (i + 1) = insR (sortTo xs i) (xs.getD i 0)) := fun i => rfl
  have HD : Hid (∀ i, i < xs.length → xs.drop i = xs.getD i 0 :: xs.drop (i + 1)) := fun i hi => by
    rw [List.getD_eq_getElem?_getD, List.getElem?_eq_getElem hi]
    exact List.drop_eq_getElem_cons hi
  have HA : Hid (sortTo xs xs.length ++ xs.drop xs.length = sortL xs) := by show _ = _; simp [sortL]
  have HDL : Hid (∀ i, (xs.drop i).length = xs.length - i) := fun i => List.length_drop
  clear h e1
  generalize hn : xs.length = n at *
  go_enter Try.func92, Try.ntmps92
  go_wp2_with fail
  go_loopg [6] (n - 1) (fun kk v6 wr => ∃ i : Nat, 1 ≤ i ∧ i ≤ n ∧ kk + i = n ∧ v6 = .int .i64 i ∧ St w0 wr (SI (.slice (some ⟨g, 0, none⟩) n cap) (sortTo xs i ++ xs.drop i) :: post))
  case atStart => exact ⟨1, Nat.le_refl _, h1, by omega, by go_num, by rw [HE1.out]; exact HST.out⟩
  case round =>
    clear HST
    obtain ⟨i, hi1, hin, hki, rfl, st⟩ := hrel
    generalize gk = ko at *
    by_cases hlt : i < n
    · rw [HD.out i (by omega), midL_start, HL.out i] at st
      have HNX : Hid (sortTo xs (i + 1) = insR (sortTo xs i) (xs.getD i 0)) := HS.out i
      have hsl := HL.out i
      have hrl := HDL.out (i + 1)
      generalize sortTo xs i = s at *
      generalize xs.getD i 0 = x at *
      generalize hre : xs.drop (i + 1) = rest at *
      have HRE := Lib.hid hre
      clear hre
      have HSL := Lib.hid hsl
      have HRL := Lib.hid hrl
      have HST := Lib.hid st
      clear st hsl hrl
      go_wp2_with fail
      go_loopg [7] i (fun kk v7 wq => ∃ j : Nat, kk = j ∧ j ≤ i ∧ v7 = .int .i64 j ∧ posR s x i = posR s x j ∧ St w0 wq (SI (.slice (some ⟨g, 0, none⟩) n cap) (midL s x j rest) :: post))
      case atStart => exact ⟨i, rfl, Nat.le_refl _, rfl, rfl, HST.out⟩
      case round =>
        clear HST
        obtain ⟨j, hkj, hji, rfl, hpos, st⟩ := hrel
        have hml := midL_length (s := s) (x := x) (j := j) (rest := rest) (by rw [HSL.out]; exact hji)
        rw [HSL.out, HRL.out] at hml
        have hml2 : (midL s x j rest).length = n := by omega
        clear hml
        by_cases hex : j = 0 ∨ ∃ j', j = j' + 1 ∧ ¬ x < s.getD j' 0
        · have hp : posR s x s.length = j := by
            rw [HSL.out, hpos]
            rcases hex with rfl | ⟨j', rfl, hx⟩
            · rfl
            · show (if x < s.getD j' 0 then _ else _) = _
              rw [if_neg hx]
          have hend := midL_end (rest := rest) hp
          rw [hend, ← HNX.out] at st
          rcases hex with rfl | ⟨j', rfl, hx⟩
          · have HST := Lib.hid st
            clear st hend hp hpos hml2
            go_wp2_with fail
            go_quiet (fail)
            go_wp2_with fail
            go_roundg (ko - 1)
            case rel => exact ⟨i + 1, by omega, by omega, by omega, by go_num, by rw [HRE.out]; exact HST.out.dr ⟨_, rfl⟩⟩
            case measure => omega
          · rw [HNX.out, ← hend] at st
            obtain ⟨b', o', he, hc1⟩ := st.cellAt 0 rfl (j := j' + 1) (by omega)
            cases he
            obtain ⟨b', o', he, hc2⟩ := st.cellAt 0 rfl (j := j') (by omega)
            cases he
            rw [midL_at (by rw [HSL.out]; exact hji), Nat.zero_add] at hc1
            rw [midL_before (by rw [HSL.out]; exact hji), Nat.zero_add] at hc2
            rw [hend, ← HNX.out] at st
            have HST := Lib.hid st
            have hd : decide (x < s.getD j' 0) = false := decide_eq_false hx
            have HLS := Lib.hid fun W => less_any x (s.getD j' 0) W
            rw [hd] at HLS
            generalize s.getD j' 0 = y at *
            clear st hend hp hpos hml2 hx hd
            have e1 : decide ((0 : Int) < (j' : Int) + 1) = true := decide_eq_true (by omega)
            have e2 : (0 : Int) ≤ (j' : Int) := by omega
            have e3 : (j' : Int) + 1 < n := by omega
            have e4 : (j' : Int) < n := by omega
            have HC := Lib.hid (And.intro hc1 hc2)
            clear hc1 hc2
            have e5 : (0 : Int) ≤ (j' : Int) + 1 := by omega
            have e6 : ((j' : Int) + 1).toNat = j' + 1 := by omega
            have e7 : IntKind.i64.wrap ((j' : Int) + 1 - 1) = j' := by rw [show (j' : Int) + 1 - 1 = j' by omega]; exact IntWalk.i64_in _ (by omega)
            have e8 : IntKind.i64.wrap (j' : Int) = j' := IntWalk.i64_in _ (by omega)
            have e9 : j' < n := by omega
            have e10 : j' + 1 < n := by omega
            go_wp2_with fail
            go_region_held3 (fun W => W.cell? ⟨g, j' + 1, none⟩ = some (.int .i64 x) ∧ W.cell? ⟨g, j', none⟩ = some (.int .i64 y)) (exact HC.out) ((go_at_call 98; refine (HLS.out _).mono ?_; rintro e w9 ⟨rfl, rfl⟩))
            all_goals
              go_wp2_with fail
              go_roundg (ko - 1)
              case rel => exact ⟨i + 1, by omega, by omega, by omega, by go_num, by rw [HRE.out]; exact HST.out.dr ⟨1, rfl⟩⟩
              case measure => omega
        · obtain ⟨j', rfl⟩ : ∃ j', j = j' + 1 := ⟨j - 1, by
            apply Classical.byContradiction
            intro h
            exact hex (.inl (by omega))⟩
          have hx : x < s.getD j' 0 := by
            apply Classical.byContradiction
            intro h
            exact hex (.inr ⟨j', rfl, h⟩)
          have hpos2 : posR s x i = posR s x j' := by
            rw [hpos]
            show (if x < s.getD j' 0 then _ else _) = _
            rw [if_pos hx]
          obtain ⟨b', o', he, hc1⟩ := st.cellAt 0 rfl (j := j' + 1) (by omega)
          cases he
          obtain ⟨b', o', he, hc2⟩ := st.cellAt 0 rfl (j := j') (by omega)
          cases he
          rw [midL_at (by rw [HSL.out]; exact hji), Nat.zero_add] at hc1
          rw [midL_before (by rw [HSL.out]; exact hji), Nat.zero_add] at hc2
          obtain ⟨⟨u1, h1'⟩, f1, s1⟩ := st.put0 (j' + 1) (by omega)
          have s1 := s1 (s.getD j' 0)
          obtain ⟨⟨u2, h2'⟩, f2, s2⟩ := s1.put0 j' (by rw [List.length_set]; omega)
          have s2 := s2 x
          rw [midL_swap (by rw [HSL.out]; exact hji)] at s2
          obtain ⟨-, f3, s3⟩ := st.put0 j' (by omega)
          have s3 := s3 x
          obtain ⟨⟨u4, h4'⟩, f4, s4⟩ := s3.put0 (j' + 1) (by rw [List.length_set]; omega)
          have s4 := s4 (s.getD j' 0)
          rw [List.set_comm _ _ (by omega), midL_swap (by rw [HSL.out]; exact hji)] at s4
          have HSA := Lib.hid s2
          have HSB := Lib.hid s4
          have hd : decide (x < s.getD j' 0) = true := decide_eq_true hx
          have HLS := Lib.hid fun W => less_any x (s.getD j' 0) W
          rw [hd] at HLS
          have HP2 := Lib.hid hpos2
          generalize s.getD j' 0 = y at *
          clear st hpos hml2 hx hd hex hpos2 s1 s2 s3 s4 h1' 
          have e2 : (0 : Int) ≤ (j' : Int) := by omega
          have e3 : (j' : Int) + 1 < n := by omega
          have e4 : (j' : Int) < n := by omega
          have HC := Lib.hid (And.intro hc1 hc2)
          have e5 : (0 : Int) ≤ (j' : Int) + 1 := by omega
          have e6 : ((j' : Int) + 1).toNat = j' + 1 := by omega
          have e7 : IntKind.i64.wrap ((j' : Int) + 1 - 1) = j' := by rw [show (j' : Int) + 1 - 1 = j' by omega]; exact IntWalk.i64_in _ (by omega)
          have e8 : IntKind.i64.wrap (j' : Int) = j' := IntWalk.i64_in _ (by omega)
          have e9 : j' < n := by omega
          have e10 : j' + 1 < n := by omega
          go_wp2_with fail
          go_region_held3 (fun W => W.cell? ⟨g, j' + 1, none⟩ = some (.int .i64 x) ∧ W.cell? ⟨g, j', none⟩ = some (.int .i64 y)) (exact HC.out) ((go_at_call 98; refine (HLS.out _).mono ?_; rintro e w9 ⟨rfl, rfl⟩))
          all_goals
            go_wp2_with fail
            go_region
            all_goals
              go_wp2_with fail
              go_roundg (gk - 1)
              case rel => exact ⟨j', by omega, by omega, by go_num, HP2.out, HSA.out.dr ⟨2, rfl⟩⟩
              case measure => omega
    · have hin2 : i = n := by omega
      subst i
      rw [HA.out] at st
      have HST := Lib.hid st
      clear st
      go_wp2_with fail
      first
      | (go_ret; exact ⟨rfl, HST.out⟩)
      | exact ⟨rfl, .tuple #[], by simp [results, Try.results92, go_sem], rfl, HST.out⟩
end Go.Proofs.Ytoodfgfbppkbmaa
