/- Contracts: pairings turned and flipped (JoinTurn, JoinFlip of the program). -/
import Derived.Test.YtfpcfolcdpdomaaMapW
import Derived.Test.YtfpcfolcdpdomaaPlaceW
namespace Go.Proofs.Ytfpcfolcdpdomaa
open Go.RowKit
set_option linter.unusedVariables false

theorem jturnL_le (n m : Int) (xs : List Int) : (jturnL n m xs).length ≤ 1048576 := by
  unfold jturnL
  split
  · rename_i h
    obtain ⟨n', m', _, _, _, _, _, _, hl, _⟩ := ofB_nat h
    rw [mapTo_length]; omega
  · simp
theorem jflipL_le (n m : Int) (xs : List Int) : (jflipL n m xs).length ≤ 1048576 := by
  unfold jflipL
  split
  · rename_i h
    obtain ⟨n', m', _, _, _, _, _, _, hl, _⟩ := ofB_nat h
    rw [mapTo_length]; omega
  · simp
theorem jturn_same (xs : List Int) (n m : Nat) (hok : okTo xs xs.length) (j : Nat) (hj : j ≤ xs.length) : mapTo (jturnF n m xs.length) xs j = turnTo xs n j := by
  induction j with
  | zero => rfl
  | succ j ih =>
    obtain ⟨q, hq, hq2⟩ := okTo_get hok (show j < xs.length by omega)
    rw [mapTo, turnTo, ih (by omega), hq, Int.toNat_natCast]
    simp only [jturnF]
    congr 1

def flipI (n m p : Int) : Int := if sideI n m p = 1 then portI n m 3 (atI n m p) else if sideI n m p = 3 then portI n m 1 (atI n m p) else portI n m (sideI n m p) (m - 1 - atI n m p)
theorem flip_same : ∀ n ∈ [1, 2, 3, 4, 5], ∀ m ∈ [1, 2, 3, 4, 5], ∀ p ∈ List.range (2 * n + 2 * m), flipI n m p = (jflipF n m (2 * n + 2 * m) p : Nat) := by decide +kernel

theorem at_bound2 (n m p : Nat) (hn : 1 ≤ n) (hn2 : n ≤ 5) (hm : 1 ≤ m) (hm2 : m ≤ 5) (hp : p < 2 * n + 2 * m) : 0 ≤ atI n m p ∧ atI n m p ≤ 20 ∧ 0 ≤ sideI n m p ∧ sideI n m p ≤ 3 := by
  unfold atI sideI
  repeat' split
  all_goals omega

theorem flip_any (n m p : Nat) (bn om bm on : Nat) (w : World) (hn : 1 ≤ n) (hn2 : n ≤ 5) (hm : 1 ≤ m) (hm2 : m ≤ 5) (hp : p < 2 * n + 2 * m)
    (hcn : w.cell? ⟨bn, on, none⟩ = some (.int .i64 n)) (hcm : w.cell? ⟨bm, om, none⟩ = some (.int .i64 m)) :
    Calls Try.prog 43 #[.int .i64 p, .pointer (some ⟨bn, on, none⟩), .pointer (some ⟨bm, om, none⟩)] w fun e w' => e = .returned (.int .i64 (jflipF n m (2 * n + 2 * m) p : Nat)) ∧ Below w.heap.size w w' := by
  have hbn := World.block_lt_of_cell? w _ hcn
  have hbm := World.block_lt_of_cell? w _ hcm
  simp only at hbn hbm
  obtain ⟨ha0, ha1, hs0, hs1⟩ := at_bound2 n m p hn hn2 hm hm2 hp
  have hfl := flip_same n (by simp; omega) m (by simp; omega) p (by simpa using hp)
  have hdef : flipI n m p = if sideI n m p = 1 then portI n m 3 (atI n m p) else if sideI n m p = 3 then portI n m 1 (atI n m p) else portI n m (sideI n m p) (m - 1 - atI n m p) := rfl
  rw [hfl] at hdef
  generalize (jflipF n m (2 * n + 2 * m) p : Nat) = R at hdef
  clear hfl
  have HD := Lib.hid hdef
  clear hdef
  go_enter Try.func43, Try.ntmps43
  go_wp2_with fail
  refine (placeOf_any _ _ _ _ (by omega) (by omega) (by omega) (by omega) (by omega) (by omega)).mono ?_
  rintro e w1 ⟨rfl, b1⟩
  have hcn1 := (b1.cell (p := ⟨bn, on, none⟩) hbn).trans hcn
  have hcm1 := (b1.cell (p := ⟨bm, om, none⟩) hbm).trans hcm
  have hbn1 : bn < w1.heap.size := Nat.lt_of_lt_of_le hbn b1.size
  have hbm1 : bm < w1.heap.size := Nat.lt_of_lt_of_le hbm b1.size
  have B1 := Lib.hid b1
  clear hcn hcm b1
  generalize sideI n m p = s at hs0 hs1 HD
  generalize atI n m p = a at ha0 ha1 HD
  have hs : s = 0 ∨ s = 1 ∨ s = 2 ∨ s = 3 := by omega
  rcases hs with rfl | rfl | rfl | rfl
  all_goals
    go_wp2_with fail
    refine (portOf_any _ _ _ _ _ (by omega) (by omega) (by omega) (by omega) (by omega) (by omega)).mono ?_
    rintro e w2 ⟨rfl, b2⟩
    go_wp2_with fail
    go_ret
    have b1 := B1.out
    have z1 := b1.size
    refine ⟨ret_int (by rw [HD.out]; simp), Below.trans ?_ (b2.mono (by simp; omega))⟩
    go_grown

theorem gives_emptyB {w0 w : World} (h : Below w0.heap.size w0 w) (b : Bool) : GivesI w0.heap.size w0 [] b (.returned (.tuple #[.slice (some ⟨w.heap.size, 0, none⟩) 0 0, .bool b])) (w.alloc (.cells #[] 3)) :=
  ⟨_, rfl, (World.ownsRow_made w #[] 0 h.size (Nat.zero_le _) rfl), h.alloc h.size _⟩

theorem iJoinFlip_any (n m : Int) (ao : Option Addr) (cap : Nat) (xs : List Int) (w : World) (hx : CellsI w ao xs) (hm : xs.length ≤ maxLen) :
    Calls Try.prog 22 #[.int .i64 n, .int .i64 m, .slice ao xs.length cap] w (GivesI w.heap.size w (jflipL n m xs) (ofB n m xs)) := by
  have hx2 : CellsI ((w.alloc (.cells #[.int .i64 n] 3)).alloc (.cells #[.int .i64 m] 3)) ao xs :=
    hx.below (((Below.refl _ _).alloc (Nat.le_refl _) _).alloc (by simp) _) (Nat.le_refl _)
  cases hb : ofB n m xs
  · have hL : jflipL n m xs = [] := by simp [jflipL, hb]
    rw [hL]
    clear hL
    go_enter Try.func22, Try.ntmps22
    go_wp2_with fail
    refine (pairingOk_any _ _ _ _ _ _ hx2 hm).mono ?_
    rintro e w' ⟨rfl, rfl⟩
    rw [hb]
    go_wp2_with fail
    go_ret2
    have hg := gives_emptyB (w0 := w) (w := (w.alloc (.cells #[.int .i64 n] 3)).alloc (.cells #[.int .i64 m] 3)) (((Below.refl _ _).alloc (Nat.le_refl _) _).alloc (by simp) _) false
    simp only [World.size_alloc] at hg
    exact hg
  · obtain ⟨n, m, rfl, rfl, hn1, hn2, hm1, hm2, hl, hp⟩ := ofB_nat hb
    have hL : jflipL n m xs = mapTo (jflipF n m xs.length) xs xs.length := by simp [jflipL, hb]
    rw [hL]
    have HO := Lib.hid (pairsB_iff.1 hp).1
    have HL := Lib.hid hl
    have g1 : xs.length ≤ 20 := by omega
    have g2 : 4 ≤ xs.length := by omega
    clear hL hl hp
    go_enter Try.func22, Try.ntmps22
    go_wp2_with fail
    refine (pairingOk_any _ _ _ _ _ _ hx2 hm).mono ?_
    rintro e w' ⟨rfl, rfl⟩
    rw [hb]
    clear hb
    go_wp2_with (at_make; refine wpMakeI _ rfl _ _ rfl w.heap.size xs.length _ _ _ _ rfl rfl rfl rfl (by omega) (by simp; omega) ?_; intro w1 hown hgrow)
    have hb1 : Below w.heap.size w w1 := (((Below.refl _ _).alloc (Nat.le_refl _) _).alloc (by simp) _).trans (Below.of_grown hgrow (by simp; omega) (by simp))
    have hcn1 : w1.cell? ⟨w.heap.size, 0, none⟩ = some (.int .i64 n) := hgrow.cell (by simp) (by simp)
    have hcm1 : w1.cell? ⟨w.heap.size + 1, 0, none⟩ = some (.int .i64 m) := hgrow.cell (by simp) (by simp)
    simp only [World.size_alloc] at hown
    clear hgrow hx2
    go_loopw [24] (fun i wr => ∃ j : Nat, j ≤ xs.length ∧ i = .int .i64 j ∧ OwnI wr w.heap.size (.slice (some ⟨w.heap.size + 1 + 1, 0, none⟩) xs.length xs.length) (mapTo (jflipF n m xs.length) xs j) ∧ Below w.heap.size w wr ∧
        wr.cell? ⟨w.heap.size, 0, none⟩ = some (.int .i64 n) ∧ wr.cell? ⟨w.heap.size + 1, 0, none⟩ = some (.int .i64 m))
      (fun i _ => xs.length - (intOf i).toNat)
    case atStart => exact ⟨0, Nat.zero_le _, rfl, hown, hb1, hcn1, hcm1⟩
    case round =>
      obtain ⟨j, hj, rfl, ho, hb, hcn, hcm⟩ := hrel
      clear hown hb1 hcn1 hcm1
      by_cases hlt : j < xs.length
      · obtain ⟨b, off, rfl, hc, hbb⟩ := hx.at hlt
        obtain ⟨q, hq3, hq4⟩ := okTo_get HO.out hlt
        have hck : wr.cell? ⟨b, off + j, none⟩ = some (.int .i64 q) := by rw [← hq3]; exact (hb.cell hbb).trans (hc j hlt)
        have hlo := (ho.lt _ rfl).2
        clear hc hx
        have hlen := HL.out
        have HP := Lib.hid hq3
        clear hq3
        have c1 := flip_any n m j w.heap.size 0 (w.heap.size + 1) 0 wr hn1 hn2 hm1 hm2 (by omega) hcn hcm
        rw [← HL.out] at c1
        have HC1 := Lib.hid c1
        clear c1 hlen
        go_wp2_with fail
        refine HC1.out.mono ?_
        rintro e w2 ⟨rfl, b2⟩
        have hcn2 := (b2.cell (p := ⟨w.heap.size, 0, none⟩) (World.block_lt_of_cell? wr _ hcn)).trans hcn
        have hcm2 := (b2.cell (p := ⟨w.heap.size + 1, 0, none⟩) (World.block_lt_of_cell? wr _ hcm)).trans hcm
        have ho2 := ho.below b2 (Nat.le_refl _)
        have hb2 := hb.trans (b2.mono hb.size)
        have c2 := flip_any n m q w.heap.size 0 (w.heap.size + 1) 0 w2 hn1 hn2 hm1 hm2 (by have := HL.out; omega) hcn2 hcm2
        rw [← HL.out] at c2
        have HC2 := Lib.hid c2
        clear c2 hcn hcm ho hb b2 HC1 hck
        have hF : jflipF n m xs.length j < xs.length := Nat.mod_lt _ (by omega)
        have HD : Hid (mapTo (jflipF n m xs.length) xs (j + 1) = (mapTo (jflipF n m xs.length) xs j).set (jflipF n m xs.length j) (jflipF n m xs.length q : Nat)) := by
          show mapTo _ _ _ = _
          rw [mapTo, HP.out, Int.toNat_natCast]
        generalize jflipF n m xs.length j = fj at hF HD
        go_wp2_with fail
        refine HC2.out.mono ?_
        rintro e w3 ⟨rfl, b3⟩
        generalize jflipF n m xs.length q = fq at HD
        have hcn3 := (b3.cell (p := ⟨w.heap.size, 0, none⟩) (World.block_lt_of_cell? w2 _ hcn2)).trans hcn2
        have hcm3 := (b3.cell (p := ⟨w.heap.size + 1, 0, none⟩) (World.block_lt_of_cell? w2 _ hcm2)).trans hcm2
        have ho3 := ho2.below b3 (Nat.le_refl _)
        have hb3 := hb2.trans (b3.mono hb2.size)
        obtain ⟨⟨u, hcell⟩, hfr, hs⟩ := ho3.put fj (by rw [mapTo_length]; exact hF)
        have hs := hs fq
        rw [← HD.out] at hs
        have HS := Lib.hid hs
        have HB := Lib.hid hb3
        have HN := Lib.hid hcn3
        have HM := Lib.hid hcm3
        clear hs hb3 ho3 b3 hb2 ho2 hcn2 hcm2 HC2 hcn3 hcm3 HD
        go_wp2
        go_roundw
        case rel => exact ⟨j + 1, by omega, by go_num, HS.out, HB.out.setCell (by simp; omega) _, cell_put_ne HN.out (by simp; omega), cell_put_ne HM.out (by simp)⟩
        case measure => simp [intOf]; omega
      · obtain rfl : j = xs.length := by omega
        clear hx
        go_wp2
        go_ret2
        exact ⟨_, rfl, ho, hb⟩
end Go.Proofs.Ytfpcfolcdpdomaa
