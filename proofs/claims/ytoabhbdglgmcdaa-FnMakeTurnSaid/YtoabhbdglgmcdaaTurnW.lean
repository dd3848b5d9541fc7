/- Contracts: pairings turned round (CrossTurn, both). -/
import Derived.Test.YtoabhbdglgmcdaaPairsW
import Derived.Test.YtoabhbdglgmcdaaHelpW
namespace Go.Proofs.Ytoabhbdglgmcdaa
open Go.RowKit

/-- The first j pairs are written, k places on. -/
def turnTo (xs : List Int) (k : Nat) : Nat → List Int
  | 0 => List.replicate xs.length 0
  | j + 1 => (turnTo xs k j).set ((j + k) % xs.length) ((xs.getD j 0 + k) % xs.length)
theorem okTo_get {xs : List Int} (h : okTo xs xs.length) {j : Nat} (hj : j < xs.length) : ∃ m : Nat, xs.getD j 0 = m ∧ m < xs.length := by
  have := h j hj
  simp only [okAt, Bool.and_eq_true, inB_iff] at this
  obtain ⟨m, hm⟩ := Int.eq_ofNat_of_zero_le this.1.1.1
  exact ⟨m, hm, by omega⟩
theorem turnTo_length (xs : List Int) (k j : Nat) : (turnTo xs k j).length = xs.length := by
  induction j with
  | zero => simp [turnTo]
  | succ j ih => simp [turnTo, ih]
def turnB (xs : List Int) (k : Int) : Bool := pairsB xs && inB k 0 20
def turnL (xs : List Int) (k : Int) : List Int := if turnB xs k then turnTo xs k.toNat xs.length else []

theorem turnL_le (xs : List Int) (k : Int) : (turnL xs k).length ≤ 1048576 := by
  unfold turnL
  split
  · rename_i h
    simp only [turnB, Bool.and_eq_true] at h
    have := inB_iff.1 (pairsB_iff.1 h.1).2
    rw [turnTo_length]; omega
  · simp
/-- What a call hands back that makes a slice of numbers and says whether it did. -/
def GivesI (B : Nat) (w : World) (L : List Int) (b : Bool) (e : Ending) (w' : World) : Prop :=
  ∃ v, e = .returned (.tuple #[v, .bool b]) ∧ OwnI w' B v L ∧ Below B w w'

theorem gives_empty (w : World) (b : Bool) : GivesI w.heap.size w [] b (.returned (.tuple #[.slice (some ⟨w.heap.size, 0, none⟩) 0 0, .bool b])) (w.alloc (.cells #[] 3)) :=
  ⟨_, rfl, World.ownsRow_made w #[] 0 (Nat.le_refl _) (Nat.zero_le _) rfl, (Below.refl _ _).alloc (Nat.le_refl _) _⟩

theorem iCrossTurn_any (ao : Option Addr) (cap : Nat) (xs : List Int) (k : Int) (w : World) (hx : CellsI w ao xs) (hm : xs.length ≤ maxLen) :
    Calls Try.prog 42 #[.slice ao xs.length cap, .int .i64 k] w (GivesI w.heap.size w (turnL xs k) (turnB xs k)) := by
  have hm2 := hm
  unfold maxLen at hm2
  by_cases hb : pairsB xs = true
  · by_cases hk : inB k 0 20 = true
    · have hL : turnL xs k = turnTo xs k.toNat xs.length := by simp [turnL, turnB, hb, hk]
      have hB : turnB xs k = true := by simp [turnB, hb, hk]
      rw [hL, hB]
      have hp := (pairsB_iff.1 hb)
      obtain ⟨k0, k20⟩ := inB_iff.1 hk
      obtain ⟨k, rfl⟩ := Int.eq_ofNat_of_zero_le k0
      rw [Int.toNat_natCast]
      have hlen := inB_iff.1 hp.2
      have HP := Lib.hid hp
      clear hL hB hp
      go_enter Try.func42, Try.ntmps42
      go_wp2_with (first | (go_at_call 62; refine (iCrossIn_any _ _ _ _ hx hm).mono ?_; rintro e w' ⟨rfl, rfl⟩) | (go_at_call 63; refine (within_any _ _ _ _).mono ?_; rintro e w' ⟨rfl, rfl⟩) | (at_make; refine wpMakeI _ rfl _ _ rfl w.heap.size xs.length _ _ _ _ rfl rfl rfl rfl (by omega) (by simp) ?_; intro w1 hown hgrow))
      have hb1 : Below w.heap.size w w1 := Below.of_grown hgrow (Nat.le_refl _) (by simp)
      clear hgrow
      go_loopw [25] (fun i wr => ∃ j : Nat, j ≤ xs.length ∧ i = .int .i64 j ∧ OwnI wr w.heap.size (.slice (some ⟨w.heap.size, 0, none⟩) xs.length xs.length) (turnTo xs k j) ∧ Below w.heap.size w wr)
        (fun i _ => xs.length - (intOf i).toNat)
      case atStart => exact ⟨0, Nat.zero_le _, rfl, hown, hb1⟩
      case round =>
        obtain ⟨j, hj, rfl, ho, hb⟩ := hrel
        clear hown hb1
        by_cases hlt : j < xs.length
        · obtain ⟨b, off, rfl, hc, hbb⟩ := hx.at hlt
          obtain ⟨m, hm3, hm4⟩ := okTo_get HP.out.1 hlt
          have hck : wr.cell? ⟨b, off + j, none⟩ = some (.int .i64 m) := by rw [← hm3]; exact (hb.cell hbb).trans (hc j hlt)
          have hl : (turnTo xs k j).length = xs.length := turnTo_length xs k j
          have hmod : (j + k) % xs.length < xs.length := Nat.mod_lt _ (by omega)
          have hbB : b ≠ w.heap.size := by omega
          have ho2 : OwnI wr w.heap.size (.slice (some ⟨w.heap.size, 0, none⟩) (turnTo xs k j).length xs.length) (turnTo xs k j) := by rw [hl]; exact ho
          have hcell := World.ownsRow.cellAt ho2 ((j + k) % xs.length) (by omega)
          have hfr := World.ownsRow.frozenAt ho2 ((j + k) % xs.length)
          have hnew := ho2.stored ((j + k) % xs.length) ((m + k) % xs.length)
          have hst : (turnTo xs k j).set ((j + k) % xs.length) ((m + k) % xs.length) = turnTo xs k (j + 1) := by rw [turnTo, hm3]
          rw [hst, hl] at hnew
          have HN := Lib.hid hnew
          have HB := Lib.hid hb
          obtain ⟨u, hu⟩ : ∃ u, ((turnTo xs k j).map (Value.int .i64))[(j + k) % xs.length]? = some u := ⟨_, List.getElem?_eq_getElem (by simp [hl]; exact hmod)⟩
          rw [hu] at hcell
          have i1 : 0 ≤ ((j : Int) + k) % xs.length := Int.emod_nonneg _ (by omega)
          have i2 : ((j : Int) + k) % xs.length < xs.length := Int.emod_lt_of_pos _ (by omega)
          clear hnew ho ho2 hb hc hx hl hu hst hm3
          go_wp2
          go_region
          all_goals
            go_wp2
            go_roundw
            case rel => exact ⟨j + 1, by omega, by go_num, HN.out.1, (HB.out.setCell (Nat.le_refl _) _).drew⟩
            case measure => simp [intOf]; omega
        · obtain rfl : j = xs.length := by omega
          clear hx
          go_wp2
          go_ret2
          exact ⟨_, rfl, ho, hb⟩
    · have hk : inB k 0 20 = false := by simpa using hk
      have hL : turnL xs k = [] := by simp [turnL, turnB, hk]
      have hB : turnB xs k = false := by simp [turnB, hk]
      rw [hL, hB]
      clear hL hB
      go_enter Try.func42, Try.ntmps42
      go_wp2_with (first | (go_at_call 62; refine (iCrossIn_any _ _ _ _ hx hm).mono ?_; rintro e w' ⟨rfl, rfl⟩) | (go_at_call 63; refine (within_any _ _ _ _).mono ?_; rintro e w' ⟨rfl, rfl⟩))
      go_ret2
      exact gives_empty w false
  · have hb : pairsB xs = false := by simpa using hb
    have hL : turnL xs k = [] := by simp [turnL, turnB, hb]
    have hB : turnB xs k = false := by simp [turnB, hb]
    rw [hL, hB]
    clear hL hB
    go_enter Try.func42, Try.ntmps42
    go_wp2_with (first | (go_at_call 62; refine (iCrossIn_any _ _ _ _ hx hm).mono ?_; rintro e w' ⟨rfl, rfl⟩) | (go_at_call 63; refine (within_any _ _ _ _).mono ?_; rintro e w' ⟨rfl, rfl⟩))
    go_ret2
    exact gives_empty w false
end Go.Proofs.Ytoabhbdglgmcdaa
