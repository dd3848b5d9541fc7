/- Contracts: MakeMany, MakeFirst, MakeFewest of the reference. -/
import Derived.Test.YtoabhbdglgmcdaaMakeBW
namespace Go.Proofs.Ytoabhbdglgmcdaa
open Go.RowKit
set_option linter.unusedVariables false
set_option linter.unusedSimpArgs false

/-- The empty cells of a grid, row by row. -/
def Gr.dotR (g : Gr) (i : Nat) : Nat := cntN (fun k => g.lt i k == 46) g.m
def Gr.dotN (g : Gr) : Nat := sumN g.dotR g.n
theorem cnt_not (p : Nat → Bool) (n : Nat) : cntN p n + cntN (fun k => !p k) n = n := by
  induction n with
  | zero => rfl
  | succ n ih =>
    rw [cntN_succ, cntN_succ]
    cases h : p n
    · simp; omega
    · simp; omega
theorem dot_mir (g : Gr) : g.dotN + g.mirN = g.n * g.m := by
  unfold Gr.dotN Gr.mirN
  rw [← sumN_add]
  refine Eq.trans (sumN_congr fun i _ => ?_) (sumN_const g.m g.n)
  exact cnt_not (fun k => g.lt i k == 46) g.m
theorem l1None7_any (w : World) : Calls Try.prog 37 #[] w fun e w' => ∃ v, e = .returned (.tuple #[v, .bool false]) ∧ St w w' [SS v []] := by
  have ST0 := Lib.hid (st_nilS w w [] (St.init w))
  go_enter Try.func37, Try.ntmps37
  go_wp2
  go_ret2
  exact ⟨_, rfl, ST0.out⟩

set_option maxRecDepth 100000 in
set_option maxHeartbeats 2000000 in
theorem l1Count_any (ao : Option Addr) (cap : Nat) (ss : List ByteArray) (w : World) (hx : CellsS w ao ss) (hg : gridB ss = true) :
    Calls Try.prog 39 #[.slice ao ss.length cap, .int .u8 46] w fun e w' => e = .returned (.int .i64 ((gr ss).dotN : Nat)) ∧ w = w' := by
  have hok := gr_ok hg
  have hn5 : ss.length ≤ 5 := hok.n5
  have hm5 : (gr ss).m ≤ 5 := hok.m5
  have HRW := Lib.hid fun i (hi : i < ss.length) => gr_row hg hi
  have HN : Hid ((gr ss).dotN = sumN (gr ss).dotR ss.length) := rfl
  have HMB := Lib.hid fun i => sumN_le_mul (f := (gr ss).dotR) (a := (gr ss).m) (fun j => cntN_le _ _) i
  have HMR : Hid (∀ i, (gr ss).dotR i = cntN (fun k => sgn (rowOf ss i) k == 46) (gr ss).m) := fun i => rfl
  clear hg hok
  generalize (gr ss).m = m at *
  go_enter Try.func39, Try.ntmps39
  go_wp2_with fail
  go_loopw [5, 6] (fun v5 v6 wr => ∃ i : Nat, i ≤ ss.length ∧ v6 = .int .i64 i ∧ v5 = .int .i64 (sumN (gr ss).dotR i : Nat) ∧ w = wr) (fun _ v6 _ => ss.length - (intOf v6).toNat)
  case atStart => exact ⟨0, Nat.zero_le _, rfl, rfl, rfl⟩
  case round =>
    obtain ⟨i, hi, rfl, rfl, rfl⟩ := hrel
    have hmb := HMB.out i
    have hmb2 : i * m ≤ 5 * 5 := Nat.mul_le_mul (by omega) hm5
    have HSU : Hid (sumN (gr ss).dotR (i + 1) = sumN (gr ss).dotR i + (gr ss).dotR i) := rfl
    by_cases hlt : i < ss.length
    · obtain ⟨b, off, rfl, hc⟩ := hx i hlt
      have hrs := HRW.out i hlt
      have hmr := HMR.out i
      obtain ⟨P, hP⟩ : ∃ P : Nat → Bool, P = (fun k : Nat => (sgn (rowOf ss i) k == 46)) := ⟨_, rfl⟩
      rw [← hP] at hmr
      have HPK := Lib.hid (congrFun hP)
      have HMI := Lib.hid hmr
      have HSG := Lib.hid fun k (h : k < (rowOf ss i).size) => sgn_eq (rowOf ss i) k h
      have HLE := Lib.hid (cntN_le P)
      clear hP hmr
      have hrs2 : ((rowOf ss i).size : Int) = m := by omega
      generalize hS : rowOf ss i = s at *
      have HRS := Lib.hid hrs
      clear hS hx hrs hrs2
      generalize sumN (gr ss).dotR i = M at *
      go_wp2_with fail
      go_loopw [5, 7] (fun v5 v7 wr2 => ∃ k : Nat, k ≤ s.size ∧ v7 = .int .i64 k ∧ v5 = .int .i64 ((M + cntN P k : Nat) : Int) ∧ w = wr2) (fun _ v7 _ => s.size - (intOf v7).toNat)
      case atStart => exact ⟨0, Nat.zero_le _, rfl, rfl, rfl⟩
      case round =>
        obtain ⟨k, hk, rfl, rfl, rfl⟩ := hrel
        have hle := HLE.out k
        have hsu := cntN_succ P k
        rw [HPK.out k] at hsu
        have hm9 : s.size ≤ 5 := by
          have := HRS.out
          omega
        by_cases hlt2 : k < s.size
        · have hsg := HSG.out k hlt2
          rw [← hsg] at hsu
          by_cases e : ((s[k]'hlt2).toNat : Int) = 46
          · have e2 : (((s[k]'hlt2).toNat : Int) == 46) = true := by simp [e]
            rw [e2] at hsu
            simp only [if_true] at hsu
            have HSU2 := Lib.hid hsu
            clear e hsu hsg
            go_wp2
            go_roundw
            case rel => exact ⟨k + 1, by omega, by go_num, by rw [HSU2.out]; go_num, by first | rfl | trivial⟩
            case measure => simp [intOf]; omega
          · have e2 : (((s[k]'hlt2).toNat : Int) == 46) = false := by simp [e]
            rw [e2] at hsu
            simp only [Bool.false_eq_true, if_false, Nat.add_zero] at hsu
            have HSU2 := Lib.hid hsu
            clear e hsu hsg
            go_wp2
            go_roundw
            case rel => exact ⟨k + 1, by omega, by go_num, by rw [HSU2.out], by first | rfl | trivial⟩
            case measure => simp [intOf]; omega
        · obtain rfl : k = s.size := by omega
          have HE : Hid (M + cntN P s.size = sumN (gr ss).dotR (i + 1)) := by
            show _ = _
            rw [HSU.out, HMI.out, HRS.out]
          clear hsu
          go_wp2
          go_roundw
          case rel => exact ⟨i + 1, by omega, by go_num, by rw [← HE.out], by first | rfl | trivial⟩
          case measure => simp [intOf]; omega
    · obtain rfl : i = ss.length := by omega
      go_wp2
      go_ret
      exact ⟨by rw [HN.out]; rfl, rfl⟩

/-- What a round of the reference asks, told ahead: the power, the grid, its pairs, whether they are the pairing. -/
structure Ask (w : World) (n m : Nat) (xs : List Int) (ao : Option Addr) (cap : Nat) (T N : Nat) : Prop where
  pow : ∀ W, Calls Try.prog 32 #[.int .i64 (N : Int)] W fun e w' => e = .returned (.int .i64 (T : Int)) ∧ W = w'
  of : ∀ (j : Nat) W, j < T → St w W [] → Calls Try.prog 35 #[.int .i64 n, .int .i64 m, .int .i64 j] W fun e w' => ∃ a c, e = .returned (.slice a n c) ∧ St w w' [SS (.slice a n c) (gN n m j)]
  pairs : ∀ W a c j, St w W [SS (.slice a n c) (gN n m j)] → Calls Try.prog 34 #[.slice a n c] W fun e w' => ∃ a2 c2, e = .returned (.slice a2 xs.length c2) ∧ St w w' [SI (.slice a2 xs.length c2) (beamsB (gN n m j)), SS (.slice a n c) (gN n m j)]
  eq : ∀ W a2 c2 j segs, St w W (SI (.slice a2 xs.length c2) (beamsB (gN n m j)) :: segs) → Calls Try.prog 33 #[.slice a2 xs.length c2, .slice ao xs.length cap] W fun e w' => e = .returned (.bool (hasB n m xs j)) ∧ St w w' segs
theorem ask_any (w : World) (n m : Nat) (xs : List Int) (ao : Option Addr) (cap : Nat) (hx : CellsI w ao xs) (hn1 : 1 ≤ n) (hn5 : n ≤ 5) (hm1 : 1 ≤ m) (hm5 : m ≤ 5) (h6 : n * m ≤ 6) (hl : xs.length = 2 * n + 2 * m) :
    Ask w n m xs ao cap (3 ^ (n * m)) (n * m) where
  pow := fun W => l1Power_any (n * m) (by omega) W
  of := fun j W hj st => by
    have h3 : 3 ^ (n * m) ≤ 729 := Nat.le_trans (Nat.pow_le_pow_right (by decide) h6) (by decide)
    refine (l1Of_any n m j hn5 hm5 (by omega) W).mono ?_
    rintro e w' ⟨v, rfl, st2⟩
    have st3 : St w w' [SS v (gN n m j)] := st.join st2
    obtain ⟨a, c, hv⟩ := st3.shapeS 0 rfl
    rw [show (gN n m j).length = n from gridT_length _ _ _] at hv
    subst hv
    exact ⟨a, c, rfl, st3⟩
  pairs := fun W a c j st => by
    have hg := gN_ok (n := n) (m := m) j hn1 hn5 hm1 hm5
    have h1 := l2Pairs_any a c (gN n m j) W (st.texts 0 rfl) hg
    rw [show (gN n m j).length = n from gridT_length _ _ _] at h1
    refine h1.mono ?_
    rintro e w' ⟨v, rfl, st2⟩
    have st3 := st.join st2
    rw [← beams_eq hg] at st3
    obtain ⟨a2, c2, hv⟩ := St.shapeI0 st3
    have hbl : (beamsB (gN n m j)).length = xs.length := by
      rw [beams_len hg, hl]
      unfold Gr.ports
      rw [gN_n, gN_m j hn1]
      all_goals omega
    rw [hbl] at hv
    subst hv
    exact ⟨a2, c2, rfl, st3⟩
  eq := fun W a2 c2 j segs st => by
    have hg := gN_ok (n := n) (m := m) j hn1 hn5 hm1 hm5
    have hbl : (beamsB (gN n m j)).length = xs.length := by
      rw [beams_len hg, hl]
      unfold Gr.ports
      rw [gN_n, gN_m j hn1]
      all_goals omega
    have h1 := l7Equal_any a2 ao c2 cap (beamsB (gN n m j)) xs W (st.cells 0 rfl) (st.old hx) hbl (by omega)
    rw [hbl] at h1
    refine h1.mono ?_
    rintro e w' ⟨rfl, hd⟩
    exact ⟨rfl, (st.dr hd).drop0⟩
theorem madeTo_pre (n m : Nat) (xs : List Int) (i : Nat) : ∀ d, ∃ r, madeTo n m xs (i + d) = madeTo n m xs i ++ r := by
  intro d
  induction d with
  | zero => exact ⟨[], by simp⟩
  | succ d ih =>
    obtain ⟨r, hr⟩ := ih
    cases h : hasB n m xs (i + d)
    · exact ⟨r, by rw [← Nat.add_assoc, madeTo_no h, hr]⟩
    · exact ⟨r ++ [i + d], by rw [← Nat.add_assoc, madeTo_yes h, hr, List.append_assoc]⟩

set_option maxRecDepth 100000 in
set_option maxHeartbeats 2000000 in
theorem sMakeMany_any (n m : Int) (ao : Option Addr) (cap : Nat) (xs : List Int) (w : World) (hx : CellsI w ao xs) (hm : xs.length ≤ maxLen) :
    Calls Try.prog 10 #[.int .i64 n, .int .i64 m, .slice ao xs.length cap] w fun e w' => e = .returned (.tuple #[.int .i64 ((madeR n m xs).length : Nat), .bool (givenB n m xs)]) ∧ Below w.heap.size w w' := by
  have HGV := Lib.hid (l7Given_any n m ao cap xs w hx hm)
  cases hG : givenB n m xs
  · have HL := Lib.hid (show (madeR n m xs).length = 0 by rw [madeR_none hG]; rfl)
    have HG := Lib.hid hG
    clear hG hx
    go_enter Try.func10, Try.ntmps10
    go_wp2_with (go_at_call 31; refine HGV.out.mono ?_; rintro e w' ⟨rfl, rfl⟩; rw [HG.out])
    go_ret2
    exact ⟨by rw [HL.out]; rfl, Below.refl _ _⟩
  · have HG := Lib.hid hG
    have HL := Lib.hid (madeR_given hG)
    obtain ⟨n, m, rfl, rfl, h1, h2, h3, h4, h6, hl⟩ := given_nat hG
    have HA := Lib.hid (ask_any w n m xs ao cap hx h1 h2 h3 h4 h6 hl)
    have h9 : 3 ^ (n * m) ≤ 729 := Nat.le_trans (Nat.pow_le_pow_right (by decide) h6) (by decide)
    have HE : Hid ((madeTo n m xs (3 ^ (n * m))).length = (madeR n m xs).length) := by show _ = _; rw [HL.out]; rfl
    have e6 : (n : Int) * (m : Int) = ((n * m : Nat) : Int) := (Int.natCast_mul _ _).symm
    clear hG hx hl
    generalize 3 ^ (n * m) = T at *
    generalize n * m = N at *
    go_enter Try.func10, Try.ntmps10
    go_wp2_with (go_at_call 31; refine HGV.out.mono ?_; rintro e w' ⟨rfl, rfl⟩; rw [HG.out])
    go_loopw [8, 9] (fun v8 v9 wr => ∃ j : Nat, v8 = .int .i64 ((madeTo n m xs j).length : Nat) ∧ v9 = .int .i64 j ∧ j ≤ T ∧ St w wr []) (fun _ v9 _ => T - (intOf v9).toNat)
    case atStart => exact ⟨0, rfl, rfl, Nat.zero_le _, St.init w⟩
    case round =>
      obtain ⟨j, rfl, rfl, hj, st⟩ := hrel
      have ST := Lib.hid st
      clear st
      by_cases hlt : j < T
      · have hle := madeTo_le n m xs j
        cases hB : hasB n m xs j
        · have HB := Lib.hid hB
          have HN := Lib.hid (congrArg List.length (madeTo_no hB))
          clear hB
          generalize hk : (madeTo n m xs j).length = k at *
          clear hk
          go_wp2_with (first | (go_at_call 32; refine (HA.out.pow _).mono ?_; rintro e w2 ⟨rfl, rfl⟩) | (go_at_call 35; refine (HA.out.of j _ hlt ST.out).mono ?_; rintro e w3 ⟨a, c, rfl, st3⟩; have ST3 := Lib.hid st3; clear st3) | (go_at_call 34; refine (HA.out.pairs _ _ _ j ST3.out).mono ?_; rintro e w4 ⟨a2, c2, rfl, st4⟩; have ST4 := Lib.hid st4; clear st4) | (go_at_call 33; refine (HA.out.eq _ _ _ j _ ST4.out).mono ?_; rintro e w5 ⟨rfl, st5⟩; rw [HB.out]; have ST5 := Lib.hid (St.drop0 st5); clear st5))
          go_roundw
          case rel => exact ⟨j + 1, by rw [HN.out], by go_num, by omega, ST5.out⟩
          case measure => simp [intOf]; omega
        · have HB := Lib.hid hB
          have hN := congrArg List.length (madeTo_yes hB)
          rw [List.length_append, List.length_singleton] at hN
          have HN := Lib.hid hN
          clear hB hN
          generalize hk : (madeTo n m xs j).length = k at *
          clear hk
          go_wp2_with (first | (go_at_call 32; refine (HA.out.pow _).mono ?_; rintro e w2 ⟨rfl, rfl⟩) | (go_at_call 35; refine (HA.out.of j _ hlt ST.out).mono ?_; rintro e w3 ⟨a, c, rfl, st3⟩; have ST3 := Lib.hid st3; clear st3) | (go_at_call 34; refine (HA.out.pairs _ _ _ j ST3.out).mono ?_; rintro e w4 ⟨a2, c2, rfl, st4⟩; have ST4 := Lib.hid st4; clear st4) | (go_at_call 33; refine (HA.out.eq _ _ _ j _ ST4.out).mono ?_; rintro e w5 ⟨rfl, st5⟩; rw [HB.out]; have ST5 := Lib.hid (St.drop0 st5); clear st5))
          go_roundw
          case rel => exact ⟨j + 1, by rw [HN.out]; go_num, by go_num, by omega, ST5.out⟩
          case measure => simp [intOf]; omega
      · obtain rfl : j = T := by omega
        have HE2 := HE.out
        generalize hk : (madeTo n m xs j).length = k at *
        clear hk
        go_wp2_with (go_at_call 32; refine (HA.out.pow _).mono ?_; rintro e w2 ⟨rfl, rfl⟩)
        go_ret2
        exact ⟨by rw [← HE2]; rfl, ST.out.below⟩

set_option maxRecDepth 100000 in
set_option maxHeartbeats 2000000 in
theorem sMakeFirst_any (n m : Int) (ao : Option Addr) (cap : Nat) (xs : List Int) (w : World) (hx : CellsI w ao xs) (hm : xs.length ≤ maxLen) :
    Calls Try.prog 14 #[.int .i64 n, .int .i64 m, .slice ao xs.length cap] w fun e w' => ∃ v, e = .returned (.tuple #[v, .bool (firstB n m xs)]) ∧ St w w' [SS v (firstL n m xs)] := by
  have HGV := Lib.hid (l7Given_any n m ao cap xs w hx hm)
  cases hG : givenB n m xs
  · have HF := Lib.hid (show firstB n m xs = false by simp [firstB, madeR_none hG])
    have HL := Lib.hid (show firstL n m xs = [] by simp [firstL, madeR_none hG])
    have HG := Lib.hid hG
    clear hG hx
    go_enter Try.func14, Try.ntmps14
    go_wp2_with (first | (go_at_call 31; refine HGV.out.mono ?_; rintro e w' ⟨rfl, rfl⟩; rw [HG.out]) | (go_at_call 37; refine (l1None7_any _).mono ?_; rintro e w2 ⟨v, rfl, st2⟩; have ST2 := Lib.hid st2; clear st2))
    go_ret2
    exact ⟨_, by rw [HF.out]; rfl, by rw [HL.out]; exact ST2.out⟩
  · have HG := Lib.hid hG
    have HL := Lib.hid (madeR_given hG)
    obtain ⟨n, m, rfl, rfl, h1, h2, h3, h4, h6, hl⟩ := given_nat hG
    have HA := Lib.hid (ask_any w n m xs ao cap hx h1 h2 h3 h4 h6 hl)
    have h9 : 3 ^ (n * m) ≤ 729 := Nat.le_trans (Nat.pow_le_pow_right (by decide) h6) (by decide)
    have HFD : Hid (∀ j, j < 3 ^ (n * m) → madeTo n m xs j = [] → hasB n m xs j = true → firstB n m xs = true ∧ firstL n m xs = gN n m j) := fun j hj h0 hB => by
      obtain ⟨r, hr⟩ := madeTo_pre n m xs (j + 1) (3 ^ (n * m) - (j + 1))
      rw [show j + 1 + (3 ^ (n * m) - (j + 1)) = 3 ^ (n * m) by omega, madeTo_yes hB, h0] at hr
      have hm : madeR n m xs = j :: r := by rw [HL.out]; exact hr
      exact ⟨by simp [firstB, hm], by simp [firstL, hm]⟩
    have HEND : Hid (madeTo n m xs (3 ^ (n * m)) = [] → firstB n m xs = false ∧ firstL n m xs = []) := fun h => by
      have hm : madeR n m xs = [] := by rw [HL.out]; exact h
      exact ⟨by simp [firstB, hm], by simp [firstL, hm]⟩
    have e6 : (n : Int) * (m : Int) = ((n * m : Nat) : Int) := (Int.natCast_mul _ _).symm
    clear hG hx hl
    generalize 3 ^ (n * m) = T at *
    generalize n * m = N at *
    go_enter Try.func14, Try.ntmps14
    go_wp2_with (go_at_call 31; refine HGV.out.mono ?_; rintro e w' ⟨rfl, rfl⟩; rw [HG.out])
    go_loopw [8] (fun v8 wr => ∃ j : Nat, v8 = .int .i64 j ∧ j ≤ T ∧ Hid (madeTo n m xs j = []) ∧ St w wr []) (fun v8 _ => T - (intOf v8).toNat)
    case atStart => exact ⟨0, rfl, Nat.zero_le _, rfl, St.init w⟩
    case round =>
      obtain ⟨j, rfl, hj, HM, st⟩ := hrel
      have ST := Lib.hid st
      clear st
      by_cases hlt : j < T
      · cases hB : hasB n m xs j
        · have HB := Lib.hid hB
          have HM2 : Hid (madeTo n m xs (j + 1) = []) := by show _ = _; rw [madeTo_no hB, HM.out]
          clear hB
          go_wp2_with (first | (go_at_call 32; refine (HA.out.pow _).mono ?_; rintro e w2 ⟨rfl, rfl⟩) | (go_at_call 35; refine (HA.out.of j _ hlt ST.out).mono ?_; rintro e w3 ⟨a, c, rfl, st3⟩; have ST3 := Lib.hid st3; clear st3) | (go_at_call 34; refine (HA.out.pairs _ _ _ j ST3.out).mono ?_; rintro e w4 ⟨a2, c2, rfl, st4⟩; have ST4 := Lib.hid st4; clear st4) | (go_at_call 33; refine (HA.out.eq _ _ _ j _ ST4.out).mono ?_; rintro e w5 ⟨rfl, st5⟩; rw [HB.out]; have ST5 := Lib.hid (St.drop0 st5); clear st5))
          go_roundw
          case rel => exact ⟨j + 1, by go_num, by omega, HM2, ST5.out⟩
          case measure => simp [intOf]; omega
        · have HB := Lib.hid hB
          have HF := Lib.hid (HFD.out j hlt HM.out hB)
          clear hB
          go_wp2_with (first | (go_at_call 32; refine (HA.out.pow _).mono ?_; rintro e w2 ⟨rfl, rfl⟩) | (go_at_call 35; refine (HA.out.of j _ hlt ST.out).mono ?_; rintro e w3 ⟨a, c, rfl, st3⟩; have ST3 := Lib.hid st3; clear st3) | (go_at_call 34; refine (HA.out.pairs _ _ _ j ST3.out).mono ?_; rintro e w4 ⟨a2, c2, rfl, st4⟩; have ST4 := Lib.hid st4; clear st4) | (go_at_call 33; refine (HA.out.eq _ _ _ j _ ST4.out).mono ?_; rintro e w5 ⟨rfl, st5⟩; rw [HB.out]; have ST5 := Lib.hid st5; clear st5))
          go_ret2
          exact ⟨_, by rw [HF.out.1]; rfl, by rw [HF.out.2]; exact ST5.out⟩
      · obtain rfl : j = T := by omega
        have HF := Lib.hid (HEND.out HM.out)
        go_wp2_with (first | (go_at_call 32; refine (HA.out.pow _).mono ?_; rintro e w2 ⟨rfl, rfl⟩) | (go_at_call 37; refine (l1None7_any _).mono ?_; rintro e w2 ⟨v, rfl, st2⟩; have ST2 := Lib.hid (ST.out.join st2); clear st2))
        go_ret2
        exact ⟨_, by rw [HF.out.1]; rfl, by rw [HF.out.2]; exact ST2.out⟩

/-- The fewest mirrors so far, or -1. -/
noncomputable def bestTo (n m : Nat) (xs : List Int) (j : Nat) : Int := if madeTo n m xs j = [] then -1 else (leastL (mirK n m) (n * m) (madeTo n m xs j) : Nat)
theorem bestTo_bd (n m : Nat) (xs : List Int) (j : Nat) : -1 ≤ bestTo n m xs j ∧ bestTo n m xs j ≤ (n * m : Nat) := by
  have := leastL_base (mirK n m) (madeTo n m xs j) (n * m)
  unfold bestTo
  split <;> omega
theorem bestTo_no {n m : Nat} {xs : List Int} {j : Nat} (h : hasB n m xs j = false) : bestTo n m xs (j + 1) = bestTo n m xs j := by
  unfold bestTo
  rw [madeTo_no h]
theorem bestTo_yes {n m : Nat} {xs : List Int} {j : Nat} (h : hasB n m xs j = true) (hn1 : 1 ≤ n) : bestTo n m xs (j + 1) = if bestTo n m xs j < 0 ∨ (mirK n m j : Int) < bestTo n m xs j then (mirK n m j : Int) else bestTo n m xs j := by
  have hq := mirK_le (m := m) j hn1
  have e : bestTo n m xs (j + 1) = (min (leastL (mirK n m) (n * m) (madeTo n m xs j)) (mirK n m j) : Nat) := by
    unfold bestTo
    rw [madeTo_yes h, if_neg (by simp), leastL_snoc]
  rw [e]
  by_cases h0 : madeTo n m xs j = []
  · have e2 : bestTo n m xs j = -1 := by simp [bestTo, h0]
    rw [e2, if_pos (Or.inl (by omega)), h0]
    show ((min (n * m) (mirK n m j) : Nat) : Int) = _
    omega
  · have e2 : bestTo n m xs j = (leastL (mirK n m) (n * m) (madeTo n m xs j) : Nat) := by simp [bestTo, h0]
    rw [e2]
    split <;> omega

set_option maxRecDepth 100000 in
set_option maxHeartbeats 4000000 in
theorem sMakeFewest_any (n m : Int) (ao : Option Addr) (cap : Nat) (xs : List Int) (w : World) (hx : CellsI w ao xs) (hm : xs.length ≤ maxLen) :
    Calls Try.prog 20 #[.int .i64 n, .int .i64 m, .slice ao xs.length cap] w fun e w' => e = .returned (.tuple #[.int .i64 (fewL n m xs : Nat), .bool (firstB n m xs)]) ∧ Below w.heap.size w w' := by
  have HGV := Lib.hid (l7Given_any n m ao cap xs w hx hm)
  cases hG : givenB n m xs
  · have hF : firstB n m xs = false := by simp [firstB, madeR_none hG]
    have HL := Lib.hid (show fewL n m xs = 0 by simp [fewL, hF])
    have HF := Lib.hid hF
    have HG := Lib.hid hG
    clear hG hx hF
    go_enter Try.func20, Try.ntmps20
    go_wp2_with (go_at_call 31; refine HGV.out.mono ?_; rintro e w' ⟨rfl, rfl⟩; rw [HG.out])
    go_ret2
    exact ⟨by rw [HL.out, HF.out]; rfl, Below.refl _ _⟩
  · have HG := Lib.hid hG
    have HL := Lib.hid (madeR_given hG)
    obtain ⟨n, m, rfl, rfl, h1, h2, h3, h4, h6, hl⟩ := given_nat hG
    have HA := Lib.hid (ask_any w n m xs ao cap hx h1 h2 h3 h4 h6 hl)
    have h9 : 3 ^ (n * m) ≤ 729 := Nat.le_trans (Nat.pow_le_pow_right (by decide) h6) (by decide)
    have HEND : Hid ((bestTo n m xs (3 ^ (n * m)) < 0 ∧ firstB n m xs = false ∧ fewL n m xs = 0) ∨ (0 ≤ bestTo n m xs (3 ^ (n * m)) ∧ firstB n m xs = true ∧ bestTo n m xs (3 ^ (n * m)) = (fewL n m xs : Nat))) := by
      by_cases h0 : madeTo n m xs (3 ^ (n * m)) = []
      · have hm : madeR n m xs = [] := by rw [HL.out]; exact h0
        have hF : firstB n m xs = false := by simp [firstB, hm]
        exact .inl ⟨by simp [bestTo, h0], hF, by simp [fewL, hF]⟩
      · have hm : madeR n m xs ≠ [] := by rw [HL.out]; exact h0
        have hF : firstB n m xs = true := by simp [firstB, hm]
        have hL : fewL n m xs = leastL (mirK n m) (n * m) (madeTo n m xs (3 ^ (n * m))) := by
          simp only [fewL, hF, if_true, Int.toNat_natCast]
          rw [HL.out]; rfl
        have hb : bestTo n m xs (3 ^ (n * m)) = (fewL n m xs : Nat) := by
          unfold bestTo
          rw [if_neg h0, hL]
        exact .inr ⟨by omega, hF, hb⟩
    have HBD := Lib.hid (bestTo_bd n m xs)
    have HCT : Hid (∀ W a c j, St w W [SS (.slice a n c) (gN n m j)] → Calls Try.prog 39 #[.slice a n c, .int .u8 46] W fun e w' => e = .returned (.int .i64 (((n * m : Nat) : Int) - (mirK n m j : Nat))) ∧ W = w') := fun W a c j st => by
      have hg := gN_ok (n := n) (m := m) j h1 h2 h3 h4
      have h := l1Count_any a c (gN n m j) W (st.texts 0 rfl) hg
      rw [show (gN n m j).length = n from gridT_length _ _ _] at h
      have hd := dot_mir (gr (gN n m j))
      rw [gN_n, gN_m j h1] at hd
      have e : ((gr (gN n m j)).dotN : Int) = ((n * m : Nat) : Int) - (mirK n m j : Nat) := by
        unfold mirK
        omega
      rw [e] at h
      exact h
    have HMK : Hid (∀ j, mirK n m j ≤ n * m) := fun j => mirK_le j h1
    have HBY : Hid (∀ j, hasB n m xs j = true → bestTo n m xs (j + 1) = if bestTo n m xs j < 0 ∨ (mirK n m j : Int) < bestTo n m xs j then (mirK n m j : Int) else bestTo n m xs j) := fun j h => bestTo_yes h h1
    have HBN : Hid (∀ j, hasB n m xs j = false → bestTo n m xs (j + 1) = bestTo n m xs j) := fun j h => bestTo_no h
    have HB0 : Hid (bestTo n m xs 0 = -1) := by simp [Hid, bestTo, madeTo_zero]
    have e6 : (n : Int) * (m : Int) = ((n * m : Nat) : Int) := (Int.natCast_mul _ _).symm
    clear hG hx hl
    generalize 3 ^ (n * m) = T at *
    generalize n * m = N at *
    generalize bestTo n m xs = bt at *
    go_enter Try.func20, Try.ntmps20
    go_wp2_with (go_at_call 31; refine HGV.out.mono ?_; rintro e w' ⟨rfl, rfl⟩; rw [HG.out])
    go_loopw [8, 9] (fun v8 v9 wr => ∃ j : Nat, v8 = .int .i64 (bt j) ∧ v9 = .int .i64 j ∧ j ≤ T ∧ St w wr []) (fun _ v9 _ => T - (intOf v9).toNat)
    case atStart => exact ⟨0, by rw [HB0.out], rfl, Nat.zero_le _, St.init w⟩
    case round =>
      obtain ⟨j, rfl, rfl, hj, st⟩ := hrel
      have ST := Lib.hid st
      clear st
      have hbd := HBD.out j
      by_cases hlt : j < T
      · have hmk := HMK.out j
        have hby := HBY.out j
        have hbn := HBN.out j
        have HCJ := Lib.hid fun W a c => HCT.out W a c j
        generalize mirK n m j = q at *
        generalize bt j = best at *
        cases hB : hasB n m xs j
        all_goals
          have HB := Lib.hid hB
          rw [hB] at hby hbn
          by_cases c1 : best < 0
          · have hnx : bt (j + 1) = if hasB n m xs j = true then (q : Int) else best := by
              rw [hB]
              first | exact hbn rfl | (rw [hby rfl, if_pos (Or.inl c1)]; rfl)
            rw [hB] at hnx
            have HNX := Lib.hid hnx
            clear hby hbn hB hnx
            go_wp2_with (first | (go_at_call 32; refine (HA.out.pow _).mono ?_; rintro e w2 ⟨rfl, rfl⟩) | (go_at_call 35; refine (HA.out.of j _ hlt ST.out).mono ?_; rintro e w3 ⟨a, c, rfl, st3⟩; have ST3 := Lib.hid st3; clear st3) | (go_at_call 39; refine (HCJ.out _ _ _ ST3.out).mono ?_; rintro e w6 ⟨rfl, rfl⟩) | (go_at_call 34; refine (HA.out.pairs _ _ _ j ST3.out).mono ?_; rintro e w4 ⟨a2, c2, rfl, st4⟩; have ST4 := Lib.hid st4; clear st4) | (go_at_call 33; refine (HA.out.eq _ _ _ j _ ST4.out).mono ?_; rintro e w5 ⟨rfl, st5⟩; rw [HB.out]; have ST5 := Lib.hid (St.drop0 st5); clear st5))
            go_roundw
            case rel => exact ⟨j + 1, by rw [HNX.out]; first | rfl | go_num, by go_num, by omega, ST5.out⟩
            case measure => simp [intOf]; omega
          · by_cases c2 : (q : Int) < best
            · have hnx : bt (j + 1) = if hasB n m xs j = true then (q : Int) else best := by
                rw [hB]
                first | exact hbn rfl | (rw [hby rfl, if_pos (Or.inr c2)]; rfl)
              rw [hB] at hnx
              have HNX := Lib.hid hnx
              clear hby hbn hB hnx
              go_wp2_with (first | (go_at_call 32; refine (HA.out.pow _).mono ?_; rintro e w2 ⟨rfl, rfl⟩) | (go_at_call 35; refine (HA.out.of j _ hlt ST.out).mono ?_; rintro e w3 ⟨a, c, rfl, st3⟩; have ST3 := Lib.hid st3; clear st3) | (go_at_call 39; refine (HCJ.out _ _ _ ST3.out).mono ?_; rintro e w6 ⟨rfl, rfl⟩) | (go_at_call 34; refine (HA.out.pairs _ _ _ j ST3.out).mono ?_; rintro e w4 ⟨a2, c2, rfl, st4⟩; have ST4 := Lib.hid st4; clear st4) | (go_at_call 33; refine (HA.out.eq _ _ _ j _ ST4.out).mono ?_; rintro e w5 ⟨rfl, st5⟩; rw [HB.out]; have ST5 := Lib.hid (St.drop0 st5); clear st5))
              go_roundw
              case rel => exact ⟨j + 1, by rw [HNX.out]; first | rfl | go_num, by go_num, by omega, ST5.out⟩
              case measure => simp [intOf]; omega
            · have hnx : bt (j + 1) = best := by
                first | exact hbn rfl | rw [hby rfl, if_neg (by omega)]
              have HNX := Lib.hid hnx
              clear hby hbn hB hnx
              go_wp2_with (first | (go_at_call 32; refine (HA.out.pow _).mono ?_; rintro e w2 ⟨rfl, rfl⟩) | (go_at_call 35; refine (HA.out.of j _ hlt ST.out).mono ?_; rintro e w3 ⟨a, c, rfl, st3⟩; have ST3 := Lib.hid st3; clear st3) | (go_at_call 39; refine (HCJ.out _ _ _ ST3.out).mono ?_; rintro e w6 ⟨rfl, rfl⟩))
              go_roundw
              case rel => exact ⟨j + 1, by rw [HNX.out], by go_num, by omega, ST3.out.drop0⟩
              case measure => simp [intOf]; omega
      · obtain rfl : j = T := by omega
        rcases HEND.out with ⟨k1, k2, k3⟩ | ⟨k1, k2, k3⟩
        · have HK := Lib.hid (And.intro k2 k3)
          clear k2 k3
          go_wp2_with (go_at_call 32; refine (HA.out.pow _).mono ?_; rintro e w2 ⟨rfl, rfl⟩)
          go_ret2
          exact ⟨by rw [HK.out.1, HK.out.2]; rfl, ST.out.below⟩
        · have HK := Lib.hid (And.intro k2 k3)
          clear k2 k3
          go_wp2_with (go_at_call 32; refine (HA.out.pow _).mono ?_; rintro e w2 ⟨rfl, rfl⟩)
          go_ret2
          exact ⟨by rw [HK.out.1, HK.out.2]; rfl, ST.out.below⟩
end Go.Proofs.Ytoabhbdglgmcdaa
