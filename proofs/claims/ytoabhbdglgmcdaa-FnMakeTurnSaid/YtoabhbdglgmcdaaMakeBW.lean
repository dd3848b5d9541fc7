/- Contracts: MakeMany, MakeFirst, MakeFewest of the program. -/
import Derived.Test.YtoabhbdglgmcdaaMadeW
namespace Go.Proofs.Ytoabhbdglgmcdaa
open Go.RowKit
set_option linter.unusedVariables false
set_option linter.unusedSimpArgs false

theorem st_nilS (w0 W : World) (segs : List Seg) (h : St w0 W segs) : St w0 (W.alloc (.cells #[] 9)) [SS (.slice (some ⟨W.heap.size, 0, none⟩) 0 0) []] :=
  (⟨h.below, by simp, List.Pairwise.nil⟩ : St w0 W []).addSeg (World.ownsRow_made W #[] 0 (Nat.le_refl _) (Nat.zero_le _) rfl) ((Below.refl _ _).alloc (Nat.le_refl _) (.cells #[] 9))
theorem iMakeMany_any (n m : Int) (ao : Option Addr) (cap : Nat) (xs : List Int) (w : World) (hx : CellsI w ao xs) (hm : xs.length ≤ maxLen) :
    Calls Try.prog 12 #[.int .i64 n, .int .i64 m, .slice ao xs.length cap] w fun e w' => e = .returned (.tuple #[.int .i64 ((madeR n m xs).length : Nat), .bool (givenB n m xs)]) ∧ Below w.heap.size w w' := by
  have HMD := Lib.hid (made_any n m ao cap xs w hx hm)
  clear hx
  go_enter Try.func12, Try.ntmps12
  go_wp2_with fail
  refine HMD.out.mono ?_
  rintro e w2 ⟨lv, Z, rfl, st, hZ⟩
  obtain ⟨a, c, hv⟩ := GL_shape (st.own _ List.mem_cons_self)
  have hl : (madeR n m xs).length = Z.length := by rw [← hZ, List.length_map]
  rw [List.length_map, ← hl] at hv
  subst hv
  have ST := Lib.hid st
  clear hl hZ st
  go_wp2
  go_ret2
  exact ⟨rfl, ST.out.below⟩

/-- The first grid of a pairing. -/
noncomputable def firstL (n m : Int) (xs : List Int) : List ByteArray := match madeR n m xs with
  | [] => []
  | k :: _ => gN n.toNat m.toNat k
noncomputable def firstB (n m : Int) (xs : List Int) : Bool := !(madeR n m xs).isEmpty
set_option maxHeartbeats 1000000 in
theorem iMakeFirst_any (n m : Int) (ao : Option Addr) (cap : Nat) (xs : List Int) (w : World) (hx : CellsI w ao xs) (hm : xs.length ≤ maxLen) :
    Calls Try.prog 15 #[.int .i64 n, .int .i64 m, .slice ao xs.length cap] w fun e w' => ∃ v, e = .returned (.tuple #[v, .bool (firstB n m xs)]) ∧ St w w' [SS v (firstL n m xs)] := by
  have HMD := Lib.hid (made_any n m ao cap xs w hx hm)
  clear hx
  go_enter Try.func15, Try.ntmps15
  go_wp2_with fail
  refine HMD.out.mono ?_
  rintro e w2 ⟨lv, Z, rfl, st, hZ⟩
  cases Z with
  | nil =>
    obtain ⟨a, c, rfl⟩ := GL_shape (st.own _ List.mem_cons_self)
    have HF := Lib.hid (show firstB n m xs = false by simp [firstB, ← hZ])
    have HL := Lib.hid (show firstL n m xs = [] by simp [firstL, ← hZ])
    have ST := Lib.hid (st_nilS _ _ _ st)
    clear hZ st
    go_wp2
    go_ret2
    exact ⟨_, by rw [HF.out]; rfl, by rw [HL.out]; exact ST.out⟩
  | cons z Z =>
    obtain ⟨g, c, rfl, hca⟩ := GL_cells (st.own _ List.mem_cons_self) (by simp)
    have hc : w2.cell? ⟨g, 0, none⟩ = some z.1 := hca 0 (by simp)
    clear hca
    have HF := Lib.hid (show firstB n m xs = true by simp [firstB, ← hZ])
    have HL := Lib.hid (show firstL n m xs = gN n.toNat m.toNat z.2 by simp [firstL, ← hZ])
    have st2 : St w w2 [SS z.1 (gN n.toNat m.toNat z.2)] := st.subm (List.singleton_sublist.2 (List.mem_cons_of_mem _ (by simp)))
    have ST := Lib.hid st2
    have e1 : ((((z :: Z).map Prod.fst).length : Nat) : Int) = (Z.length : Int) + 1 := by simp
    have e2 : 0 < ((z :: Z).map Prod.fst).length := by simp
    clear hZ st st2
    generalize ((z :: Z).map Prod.fst).length = ln at *
    have e3 : ((ln : Int) == 0) = false := by rw [beq_eq_false_iff_ne]; omega
    have e4 : 0 < (ln : Int) := by omega
    clear e1
    go_wp2
    go_ret2
    exact ⟨_, by rw [HF.out]; rfl, by rw [HL.out]; exact ST.out⟩

/-- The fewest mirrors of a pairing, or 0. -/
noncomputable def fewL (n m : Int) (xs : List Int) : Nat := if firstB n m xs = true then leastL (mirK n.toNat m.toNat) (n.toNat * m.toNat) (madeR n m xs) else 0
theorem fewL_le (n m : Int) (xs : List Int) : fewL n m xs ≤ n.toNat * m.toNat := by
  unfold fewL
  split
  · exact leastL_base _ _ _
  · exact Nat.zero_le _
theorem madeR_given {n m : Int} {xs : List Int} (h : givenB n m xs = true) : madeR n m xs = madeL n.toNat m.toNat xs := by simp only [madeR]; rw [h]; rfl
theorem madeR_none {n m : Int} {xs : List Int} (h : givenB n m xs = false) : madeR n m xs = [] := by simp only [madeR]; rw [h]; rfl
theorem firstB_given {n m : Int} {xs : List Int} (h : firstB n m xs = true) : givenB n m xs = true := by
  cases hg : givenB n m xs
  · rw [firstB, madeR_none hg] at h; simp at h
  · rfl
theorem given_nat {n m : Int} {xs : List Int} (h : givenB n m xs = true) : ∃ n' m' : Nat, n = n' ∧ m = m' ∧ 1 ≤ n' ∧ n' ≤ 5 ∧ 1 ≤ m' ∧ m' ≤ 5 ∧ n' * m' ≤ 6 ∧ xs.length = 2 * n' + 2 * m' := by
  simp only [givenB, Bool.and_eq_true] at h
  obtain ⟨h1, h2, h3, h4, h5⟩ := smallB_iff.1 h.1
  obtain ⟨n, rfl⟩ := Int.eq_ofNat_of_zero_le (show 0 ≤ n by omega)
  obtain ⟨m, rfl⟩ := Int.eq_ofNat_of_zero_le (show 0 ≤ m by omega)
  have := (ofB_iff.1 h.2).2.2.2.2.1
  rw [← Int.natCast_mul] at h5
  exact ⟨n, m, rfl, rfl, by omega, by omega, by omega, by omega, by omega, by omega⟩
theorem madeR_le (n m : Int) (xs : List Int) : (madeR n m xs).length ≤ 729 := by
  cases h : givenB n m xs
  · rw [madeR_none h]; exact Nat.zero_le _
  · rw [madeR_given h]
    obtain ⟨n, m, rfl, rfl, _, _, _, _, h6, _⟩ := given_nat h
    exact Nat.le_trans (madeTo_le _ _ _ _) (Nat.le_trans (Nat.pow_le_pow_right (by decide) h6) (by decide))
theorem firstL_le (n m : Int) (xs : List Int) : (firstL n m xs).length ≤ 1048576 := by
  unfold firstL
  split
  · exact Nat.zero_le _
  · next h =>
    have hg : givenB n m xs = true := by
      cases hg : givenB n m xs
      · rw [madeR_none hg] at h; cases h
      · rfl
    obtain ⟨n, m, rfl, rfl, _, h5, _⟩ := given_nat hg
    rw [show (gN (n : Int).toNat (m : Int).toNat _).length = n from gridT_length _ _ _]
    omega
theorem mirL_gN {n m : Nat} (k : Nat) (hn1 : 1 ≤ n) (hn5 : n ≤ 5) (hm1 : 1 ≤ m) (hm5 : m ≤ 5) : mirL (gN n m k) = (mirK n m k : Nat) := by
  simp only [mirL, gN_ok k hn1 hn5 hm1 hm5, if_true]; rfl
theorem gN_max {n m : Nat} (k : Nat) (hn1 : 1 ≤ n) (hn5 : n ≤ 5) (hm1 : 1 ≤ m) (hm5 : m ≤ 5) : (gN n m k).length ≤ maxLen ∧ ∀ s ∈ gN n m k, s.size ≤ maxLen :=
  ⟨by rw [show (gN n m k).length = n from gridT_length _ _ _]; unfold maxLen; omega, sizes_max (gridB_sizes' (gN_ok k hn1 hn5 hm1 hm5))⟩

set_option maxRecDepth 100000 in
set_option maxHeartbeats 2000000 in
theorem iMakeFewest_any (n m : Int) (ao : Option Addr) (cap : Nat) (xs : List Int) (w : World) (hx : CellsI w ao xs) (hm : xs.length ≤ maxLen) :
    Calls Try.prog 21 #[.int .i64 n, .int .i64 m, .slice ao xs.length cap] w fun e w' => e = .returned (.tuple #[.int .i64 (fewL n m xs : Nat), .bool (firstB n m xs)]) ∧ Below w.heap.size w w' := by
  have HMD := Lib.hid (made_any n m ao cap xs w hx hm)
  clear hx
  cases hF : firstB n m xs
  · have HL := Lib.hid (show fewL n m xs = 0 by simp [fewL, hF])
    have hR : madeR n m xs = [] := by simpa [firstB] using hF
    rw [hR] at HMD
    clear hF hR
    go_enter Try.func21, Try.ntmps21
    go_wp2_with fail
    refine HMD.out.mono ?_
    rintro e w2 ⟨lv, Z, rfl, st, hZ⟩
    have hZ2 : Z = [] := by simpa using hZ
    subst hZ2
    obtain ⟨a, c, rfl⟩ := GL_shape (st.own _ List.mem_cons_self)
    have ST := Lib.hid st
    clear st hZ
    go_wp2
    go_ret2
    exact ⟨by rw [HL.out]; rfl, ST.out.below⟩
  · have hG := firstB_given hF
    have hL : fewL n m xs = leastL (mirK n.toNat m.toNat) (n.toNat * m.toNat) (madeR n m xs) := by simp [fewL, hF]
    have hne : madeR n m xs ≠ [] := by simpa [firstB] using hF
    obtain ⟨n, m, rfl, rfl, h1, h2, h3, h4, h6, -⟩ := given_nat hG
    have HFB := Lib.hid hF
    simp only [Int.toNat_natCast] at hL HMD
    clear hF hG
    have HMB : Hid (∀ k, mirK n m k ≤ n * m) := fun k => mirK_le k h1
    have HLB : Hid (∀ L, leastL (mirK n m) (n * m) L ≤ n * m) := fun L => leastL_base _ _ _
    have e6 : (n : Int) * (m : Int) = ((n * m : Nat) : Int) := (Int.natCast_mul _ _).symm
    go_enter Try.func21, Try.ntmps21
    go_wp2_with fail
    refine HMD.out.mono ?_
    rintro e w2 ⟨lv, Z, rfl, st, hZ⟩
    have hne2 : Z.map Prod.fst ≠ [] := fun e => hne (by rw [← hZ]; simpa using e)
    obtain ⟨g, c, rfl, hc⟩ := GL_cells (st.own _ List.mem_cons_self) hne2
    have HC : Hid (∀ i (hi : i < Z.length), w2.cell? ⟨g, i, none⟩ = some Z[i].1) := fun i hi => by
      have := hc i (by rw [List.length_map]; exact hi)
      rw [List.getElem_map] at this
      exact this
    have HGC : Hid (∀ i (hi : i < Z.length), Calls Try.prog 26 #[Z[i].1] w2 fun e w' => e = .returned (.tuple #[.int .i64 (mirK n m Z[i].2 : Nat), .bool true]) ∧ w2 = w') := fun i hi => by
      have st2 : St w w2 [SS Z[i].1 (gN n m Z[i].2)] := st.subm (List.singleton_sublist.2 (List.mem_cons_of_mem _ (by
        rw [List.mem_reverse]
        exact List.mem_map.2 ⟨Z[i], List.getElem_mem _, rfl⟩)))
      obtain ⟨a, c, hv⟩ := st2.shapeS 0 rfl
      rw [hv] at st2 ⊢
      have hx := gN_max (Z[i].2) h1 h2 h3 h4
      refine (iGridCount_any a c _ w2 (st2.texts 0 rfl) hx.1 hx.2).mono ?_
      rintro e w3 ⟨rfl, rfl⟩
      exact ⟨by rw [mirL_gN _ h1 h2 h3 h4, gN_ok _ h1 h2 h3 h4], rfl⟩
    have hlz : Z.length ≤ 729 := by
      have := madeR_le (n : Int) (m : Int) xs
      rw [← hZ, List.length_map] at this
      exact this
    have hln : 0 < Z.length := List.length_pos_iff.2 fun e => hne2 (by rw [e]; rfl)
    have HTK : Hid (∀ i (hi : i < Z.length), leastL (mirK n m) (n * m) ((Z.map Prod.snd).take (i + 1)) = min (leastL (mirK n m) (n * m) ((Z.map Prod.snd).take i)) (mirK n m Z[i].2)) := fun i hi => by
      rw [← leastL_snoc]
      congr 1
      rw [List.take_succ_eq_append_getElem (by rw [List.length_map]; exact hi), List.getElem_map]
    have HEND : Hid (leastL (mirK n m) (n * m) ((Z.map Prod.snd).take Z.length) = fewL n m xs) := by
      show _ = _
      rw [hL, ← hZ, List.take_of_length_le (by rw [List.length_map]; exact Nat.le_refl _)]
    have HST : Hid (leastL (mirK n m) (n * m) ((Z.map Prod.snd).take 0) = n * m) := rfl
    have hml : (Z.map Prod.fst).length = Z.length := List.length_map ..
    rw [hml]
    have ST := Lib.hid st.below
    clear hne hne2 hc st hZ hL hml
    have e3 : ((Z.length : Int) == 0) = false := by rw [beq_eq_false_iff_ne]; omega
    have e4 : 0 < (Z.length : Int) := by omega
    generalize hT : (fun i => leastL (mirK n m) (n * m) ((Z.map Prod.snd).take i)) = T at *
    have HT := Lib.hid (congrFun hT)
    have HTB : Hid (∀ i, T i ≤ n * m) := fun i => by rw [← HT.out]; exact HLB.out _
    have HTS : Hid (∀ i (hi : i < Z.length), T (i + 1) = min (T i) (mirK n m Z[i].2)) := fun i hi => by rw [← HT.out, ← HT.out]; exact HTK.out i hi
    have HT0 : Hid (T 0 = n * m) := by show _ = _; rw [← HT.out]; exact HST.out
    have HTE : Hid (T Z.length = fewL n m xs) := by show _ = _; rw [← HT.out]; exact HEND.out
    clear hT HTK HEND HST
    generalize n * m = N at *
    go_wp2_with fail
    go_loopw [30, 10] (fun v30 v10 wr => ∃ i : Nat, v30 = .int .i64 i ∧ i ≤ Z.length ∧ v10 = .int .i64 (T i : Nat) ∧ w2 = wr) (fun v30 _ _ => Z.length - (intOf v30).toNat)
    case atStart => exact ⟨0, rfl, Nat.zero_le _, by rw [HT0.out], rfl⟩
    case round =>
      obtain ⟨i, rfl, hi, rfl, rfl⟩ := hrel
      have hb := HTB.out i
      by_cases hlt : i < Z.length
      · have hc := HC.out i hlt
        have hgc := HGC.out i hlt
        have hmb := HMB.out (Z[i].2)
        have hts := HTS.out i hlt
        generalize Z[i].1 = zv at *
        generalize mirK n m Z[i].2 = q at *
        generalize T i = t at *
        have HGI := Lib.hid hgc
        clear hgc
        by_cases hmin : (t : Int) < q
        · have hts2 : T (i + 1) = t := by rw [hts]; omega
          have HTT := Lib.hid hts2
          clear hts hts2
          go_wp2_with fail
          refine HGI.out.mono ?_
          rintro e w3 ⟨rfl, rfl⟩
          go_wp2
          go_roundw
          case rel => exact ⟨i + 1, by go_num, by omega, by rw [HTT.out], by first | rfl | trivial⟩
          case measure => simp [intOf]; omega
        · have hts2 : T (i + 1) = q := by rw [hts]; omega
          have HTT := Lib.hid hts2
          clear hts hts2
          go_wp2_with fail
          refine HGI.out.mono ?_
          rintro e w3 ⟨rfl, rfl⟩
          go_wp2
          go_roundw
          case rel => exact ⟨i + 1, by go_num, by omega, by rw [HTT.out]; first | rfl | (congr 1; omega) | (congr 1; split <;> omega) | (split <;> (congr 1; omega)), by first | rfl | trivial⟩
          case measure => simp [intOf]; omega
      · obtain rfl : i = Z.length := by omega
        have HTE2 := HTE.out
        generalize hTz : T Z.length = tz at *
        clear hTz
        go_wp2
        go_ret2
        exact ⟨by rw [← HTE2]; rfl, ST.out⟩
end Go.Proofs.Ytoabhbdglgmcdaa
