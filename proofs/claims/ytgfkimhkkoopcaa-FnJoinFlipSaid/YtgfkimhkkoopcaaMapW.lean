/- Contracts: ports called by other numbers (l6jMap; JoinTurn, JoinFlip of the reference). -/
import Derived.Test.YtgfkimhkkoopcaaOfW
import Derived.Test.YtgfkimhkkoopcaaFill
import Derived.Test.YtgfkimhkkoopcaaTurnW
namespace Go.Proofs.Ytgfkimhkkoopcaa
open Go.RowKit
set_option linter.unusedVariables false

/-- The first j pairs are written under their new names. -/
def mapTo (f : Nat → Nat) (xs : List Int) : Nat → List Int
  | 0 => List.replicate xs.length 0
  | j + 1 => (mapTo f xs j).set (f j) (f (xs.getD j 0).toNat : Nat)
theorem mapTo_length (f : Nat → Nat) (xs : List Int) (j : Nat) : (mapTo f xs j).length = xs.length := by
  induction j with
  | zero => simp [mapTo]
  | succ j ih => simp [mapTo, ih]
def namesL (f : Nat → Nat) (N : Nat) : List Int := fillN (fun i => (f i : Int)) N
theorem namesL_length (f : Nat → Nat) (N : Nat) : (namesL f N).length = N := fillN_length _ _
theorem namesL_succ (f : Nat → Nat) (k : Nat) : namesL f k ++ [(f k : Int)] = namesL f (k + 1) := by simp [namesL, fillN, List.range_succ]

theorem l6jMap_any (ao bo : Option Addr) (ca cb : Nat) (xs : List Int) (f : Nat → Nat) (w : World) (hx : CellsI w ao xs) (hy : CellsI w bo (namesL f xs.length)) (hm : xs.length ≤ 20) (hok : okTo xs xs.length) (hf : ∀ p, p < xs.length → f p < xs.length) :
    Calls Try.prog 52 #[.slice ao xs.length ca, .slice bo xs.length cb] w fun e w' => ∃ v, e = .returned v ∧ OwnI w' w.heap.size v (mapTo f xs xs.length) ∧ Below w.heap.size w w' := by
  have HO := Lib.hid hok
  have HF := Lib.hid hf
  clear hok hf
  go_enter Try.func52, Try.ntmps52
  go_wp2_with (at_make; refine wpMakeI _ rfl _ _ rfl w.heap.size xs.length _ _ _ _ rfl rfl rfl rfl (by omega) (by simp) ?_; intro w1 hown hgrow)
  have hb1 : Below w.heap.size w w1 := Below.of_grown hgrow (Nat.le_refl _) (by simp)
  clear hgrow
  go_loopw [6] (fun i wr => ∃ j : Nat, j ≤ xs.length ∧ i = .int .i64 j ∧ OwnI wr w.heap.size (.slice (some ⟨w.heap.size, 0, none⟩) xs.length xs.length) (mapTo f xs j) ∧ Below w.heap.size w wr)
    (fun i _ => xs.length - (intOf i).toNat)
  case atStart => exact ⟨0, Nat.zero_le _, rfl, hown, hb1⟩
  case round =>
    obtain ⟨j, hj, rfl, ho, hb⟩ := hrel
    clear hown hb1
    by_cases hlt : j < xs.length
    · obtain ⟨b, off, rfl, hc, hbb⟩ := hx.at hlt
      obtain ⟨b2, off2, rfl, hc2, hbb2⟩ := hy.at (i := j) (by rw [namesL_length]; exact hlt)
      obtain ⟨m, hm3, hm4⟩ := okTo_get HO.out hlt
      have hck : wr.cell? ⟨b, off + j, none⟩ = some (.int .i64 m) := by rw [← hm3]; exact (hb.cell hbb).trans (hc j hlt)
      have hc2j : wr.cell? ⟨b2, off2 + j, none⟩ = some (.int .i64 (f j)) := by
        rw [(hb.cell hbb2).trans (hc2 j (by rw [namesL_length]; exact hlt))]; simp only [namesL, fillN_getD _ hlt]
      have hc2m : wr.cell? ⟨b2, off2 + m, none⟩ = some (.int .i64 (f m)) := by
        rw [(hb.cell hbb2).trans (hc2 m (by rw [namesL_length]; exact hm4))]; simp only [namesL, fillN_getD _ hm4]
      have hfj := HF.out j hlt
      obtain ⟨⟨u, hcell⟩, hfr, hs⟩ := ho.put (f j) (by rw [mapTo_length]; exact hfj)
      have hs := hs (f m : Nat)
      rw [show (mapTo f xs j).set (f j) (f m : Nat) = mapTo f xs (j + 1) by rw [mapTo, hm3, Int.toNat_natCast]] at hs
      have HS := Lib.hid hs
      have HB := Lib.hid hb
      generalize f j = fj at hc2j hfj hcell hfr HS
      generalize f m = fm at hc2m HS
      have hbB : b ≠ w.heap.size := by omega
      have hbB2 : b2 ≠ w.heap.size := by omega
      clear hs hb ho hx hy hc hc2 hm3
      go_wp2
      go_region
      all_goals
        go_wp2
        go_roundw
        case rel => exact ⟨j + 1, by omega, by go_num, HS.out, (HB.out.setCell (Nat.le_refl _) _).drew⟩
        case measure => simp [intOf]; omega
    · obtain rfl : j = xs.length := by omega
      clear hx hy
      go_wp2
      go_ret
      exact ⟨_, rfl, ho, hb⟩

def jturnF (n m N : Nat) (p : Nat) : Nat := (p + n) % N
def jturnL (n m : Int) (xs : List Int) : List Int := if ofB n m xs then mapTo (jturnF n.toNat m.toNat xs.length) xs xs.length else []
set_option maxHeartbeats 800000 in
theorem sJoinTurn_any (n m : Int) (ao : Option Addr) (cap : Nat) (xs : List Int) (w : World) (hx : CellsI w ao xs) (hm : xs.length ≤ maxLen) :
    Calls Try.prog 32 #[.int .i64 n, .int .i64 m, .slice ao xs.length cap] w (GivesI w.heap.size w (jturnL n m xs) (ofB n m xs)) := by
  cases hb : ofB n m xs
  · have hL : jturnL n m xs = [] := by simp [jturnL, hb]
    rw [hL]
    clear hL
    go_enter Try.func32, Try.ntmps32
    go_wp2_with (go_at_call 51; refine (l6jOf_any _ _ _ _ _ _ hx hm).mono ?_; rintro e w' ⟨rfl, rfl⟩; rw [hb])
    go_ret2
    exact gives_empty w false
  · obtain ⟨n, m, rfl, rfl, hn1, hn2, hm1, hm2, hl, hp⟩ := ofB_nat hb
    have hL : jturnL n m xs = mapTo (jturnF n m xs.length) xs xs.length := by simp [jturnL, hb]
    rw [hL]
    have ho := (pairsB_iff.1 hp).1
    have HO := Lib.hid ho
    have HL := Lib.hid hl
    have g1 : xs.length ≤ 2 * n + 2 * m := by omega
    have g2 : 2 * n + 2 * m ≤ xs.length := by omega
    have hf : ∀ p, p < xs.length → jturnF n m xs.length p < xs.length := fun p _ => Nat.mod_lt _ (by omega)
    have HF := Lib.hid hf
    clear hL ho hl hp hf
    go_enter Try.func32, Try.ntmps32
    go_wp2_with (go_at_call 51; refine (l6jOf_any _ _ _ _ _ _ hx hm).mono ?_; rintro e w' ⟨rfl, rfl⟩; rw [hb])
    clear hb
    go_loopw [9, 10] (fun v i wr => ∃ j : Nat, j ≤ xs.length ∧ i = .int .i64 j ∧ OwnI wr w.heap.size v (namesL (jturnF n m xs.length) j) ∧ Below w.heap.size w wr)
      (fun _ i _ => xs.length - (intOf i).toNat)
    case atStart => exact ⟨0, Nat.zero_le _, rfl, World.ownsRow_made w #[] 0 (Nat.le_refl _) (Nat.zero_le _) rfl, (Below.refl _ _).alloc (Nat.le_refl _) _⟩
    case round =>
      obtain ⟨j, hj, rfl, ho, hb⟩ := hrel
      by_cases hlt : j < xs.length
      · have hsz := hb.size
        have hnm := namesL_succ (jturnF n m xs.length) j
        have hnl := namesL_length (jturnF n m xs.length) j
        have hfj : ((jturnF n m xs.length j : Nat) : Int) = ((j : Int) + n) % xs.length := (Int.natCast_emod _ _).trans (by congr 1 <;> omega)
        rw [hfj] at hnm
        have HN := Lib.hid hnm
        have HO2 := Lib.hid ho
        have HB := Lib.hid hb
        have HNL := Lib.hid hnl
        have i1 : 0 ≤ ((j : Int) + n) % xs.length := Int.emod_nonneg _ (by omega)
        have i2 : ((j : Int) + n) % xs.length < xs.length := Int.emod_lt_of_pos _ (by omega)
        clear hnm ho hb hfj hnl
        go_wp2_with (at_builtin; refine wpAppendI _ rfl _ _ rfl w.heap.size _ _ (((j : Int) + n) % xs.length) _ rfl (HO2.out.alloc _) rfl (cell_one_new _ _ _) (by rw [HNL.out]; omega) (by simp; omega) ?_; intro v' w2 ho2 hg2)
        rw [HN.out] at ho2
        have hb2 : Below w.heap.size w w2 := (HB.out.alloc hsz _).trans (Below.of_grown hg2 (by simp; omega) (fun k hk => (HO2.out.lt k hk).1))
        have HO3 := Lib.hid ho2
        have HB3 := Lib.hid hb2
        clear ho2 hb2 hg2
        go_wp2
        go_roundw
        case rel => exact ⟨j + 1, by omega, by go_num, HO3.out, HB3.out⟩
        case measure => simp [intOf]; omega
      · obtain rfl : j = xs.length := by omega
        obtain ⟨ao2, c2, hv⟩ := ho.shape2
        rw [namesL_length] at hv
        subst hv
        go_wp2_with fail
        refine (l6jMap_any _ _ _ _ xs (jturnF n m xs.length) _ (hx.below hb (Nat.le_refl _)) ho.cells (by omega) HO.out HF.out).mono ?_
        rintro e w3 ⟨v3, rfl, o3, b3⟩
        go_wp2_with fail
        go_ret2
        exact ⟨_, rfl, o3.mono hb.size, hb.trans (b3.mono hb.size)⟩

def jflipF (n m N : Nat) (p : Nat) : Nat := (m + N - 1 - p) % N
def jflipL (n m : Int) (xs : List Int) : List Int := if ofB n m xs then mapTo (jflipF n.toNat m.toNat xs.length) xs xs.length else []
set_option maxHeartbeats 800000 in
theorem sJoinFlip_any (n m : Int) (ao : Option Addr) (cap : Nat) (xs : List Int) (w : World) (hx : CellsI w ao xs) (hm : xs.length ≤ maxLen) :
    Calls Try.prog 35 #[.int .i64 n, .int .i64 m, .slice ao xs.length cap] w (GivesI w.heap.size w (jflipL n m xs) (ofB n m xs)) := by
  cases hb : ofB n m xs
  · have hL : jflipL n m xs = [] := by simp [jflipL, hb]
    rw [hL]
    clear hL
    go_enter Try.func35, Try.ntmps35
    go_wp2_with (go_at_call 51; refine (l6jOf_any _ _ _ _ _ _ hx hm).mono ?_; rintro e w' ⟨rfl, rfl⟩; rw [hb])
    go_ret2
    exact gives_empty w false
  · obtain ⟨n, m, rfl, rfl, hn1, hn2, hm1, hm2, hl, hp⟩ := ofB_nat hb
    have hL : jflipL n m xs = mapTo (jflipF n m xs.length) xs xs.length := by simp [jflipL, hb]
    rw [hL]
    have ho := (pairsB_iff.1 hp).1
    have HO := Lib.hid ho
    have HL := Lib.hid hl
    have g1 : xs.length ≤ 2 * n + 2 * m := by omega
    have g2 : 2 * n + 2 * m ≤ xs.length := by omega
    have hf : ∀ p, p < xs.length → jflipF n m xs.length p < xs.length := fun p _ => Nat.mod_lt _ (by omega)
    have HF := Lib.hid hf
    clear hL ho hl hp hf
    go_enter Try.func35, Try.ntmps35
    go_wp2_with (go_at_call 51; refine (l6jOf_any _ _ _ _ _ _ hx hm).mono ?_; rintro e w' ⟨rfl, rfl⟩; rw [hb])
    clear hb
    go_loopw [9, 10] (fun v i wr => ∃ j : Nat, j ≤ xs.length ∧ i = .int .i64 j ∧ OwnI wr w.heap.size v (namesL (jflipF n m xs.length) j) ∧ Below w.heap.size w wr)
      (fun _ i _ => xs.length - (intOf i).toNat)
    case atStart => exact ⟨0, Nat.zero_le _, rfl, World.ownsRow_made w #[] 0 (Nat.le_refl _) (Nat.zero_le _) rfl, (Below.refl _ _).alloc (Nat.le_refl _) _⟩
    case round =>
      obtain ⟨j, hj, rfl, ho, hb⟩ := hrel
      by_cases hlt : j < xs.length
      · have hsz := hb.size
        have hnm := namesL_succ (jflipF n m xs.length) j
        have hnl := namesL_length (jflipF n m xs.length) j
        have hfj : ((jflipF n m xs.length j : Nat) : Int) = ((m : Int) - 1 - j) % xs.length := (Int.natCast_emod _ _).trans (by rw [← Int.add_emod_right ((m : Int) - 1 - j)]; congr 1 <;> omega)
        rw [hfj] at hnm
        have HN := Lib.hid hnm
        have HO2 := Lib.hid ho
        have HB := Lib.hid hb
        have HNL := Lib.hid hnl
        have i1 : 0 ≤ ((m : Int) - 1 - j) % xs.length := Int.emod_nonneg _ (by omega)
        have i2 : ((m : Int) - 1 - j) % xs.length < xs.length := Int.emod_lt_of_pos _ (by omega)
        clear hnm ho hb hfj hnl
        go_wp2_with (at_builtin; refine wpAppendI _ rfl _ _ rfl w.heap.size _ _ (((m : Int) - 1 - j) % xs.length) _ rfl (HO2.out.alloc _) rfl (cell_one_new _ _ _) (by rw [HNL.out]; omega) (by simp; omega) ?_; intro v' w2 ho2 hg2)
        rw [HN.out] at ho2
        have hb2 : Below w.heap.size w w2 := (HB.out.alloc hsz _).trans (Below.of_grown hg2 (by simp; omega) (fun k hk => (HO2.out.lt k hk).1))
        have HO3 := Lib.hid ho2
        have HB3 := Lib.hid hb2
        clear ho2 hb2 hg2
        go_wp2
        go_roundw
        case rel => exact ⟨j + 1, by omega, by go_num, HO3.out, HB3.out⟩
        case measure => simp [intOf]; omega
      · obtain rfl : j = xs.length := by omega
        obtain ⟨ao2, c2, hv⟩ := ho.shape2
        rw [namesL_length] at hv
        subst hv
        go_wp2_with fail
        refine (l6jMap_any _ _ _ _ xs (jflipF n m xs.length) _ (hx.below hb (Nat.le_refl _)) ho.cells (by omega) HO.out HF.out).mono ?_
        rintro e w3 ⟨v3, rfl, o3, b3⟩
        go_wp2_with fail
        go_ret2
        exact ⟨_, rfl, o3.mono hb.size, hb.trans (b3.mono hb.size)⟩
end Go.Proofs.Ytgfkimhkkoopcaa
