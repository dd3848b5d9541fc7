/- Contract: the text of a mark (markText). -/
/- Contracts: the marks of a slice of texts (markStringS, heldStringS). -/
import Derived.Test.YtoodfgfbppkbmaaMakeW
import Derived.Test.YtoodfgfbppkbmaaStS
import Derived.Test.YtoodfgfbppkbmaaHelpW
import Derived.Test.YtoodfgfbppkbmaaDrawSomeW
namespace Go.Proofs.Ytoodfgfbppkbmaa
open Go.RowKit
set_option linter.unusedVariables false
set_option linter.unusedSimpArgs false

/-- The digits of k ahead of o. -/
def mkLoop : Nat → Nat → ByteArray → ByteArray
  | 0, _, o => o
  | f + 1, k, o => if k = 0 then o else mkLoop f (k / 10) (strOfNums [(48 + k % 10 : Int)] ++ o)
def mkT (k : Int) : ByteArray := if k ≤ 0 then ⟨#[109, 48]⟩ else ⟨#[109]⟩ ++ mkLoop k.toNat k.toNat ByteArray.empty

theorem mkLoop_zero (f : Nat) (o : ByteArray) : mkLoop f 0 o = o := by cases f <;> simp [mkLoop]
theorem digit_text (W : World) (d : Int) : (convert 32 9 (.slice (some ⟨W.heap.size, 0, none⟩) 1 1)).run Try.prog (W.alloc (.cells #[.int .u8 d] 5)) = .ok (.string (strOfNums [d])) (W.alloc (.cells #[.int .u8 d] 5)) := by
  have ho : (SY (.slice (some ⟨W.heap.size, 0, none⟩) 1 1) [d]).own (W.alloc (.cells #[.int .u8 d] 5)) W.heap.size :=
    World.ownsRow_lit W #[.int .u8 d] 1 (Nat.le_refl _) (by unfold maxLen; omega) rfl
  obtain ⟨a, c, he, h⟩ := SY_text ho
  exact h _ fun _ _ => rfl

set_option maxRecDepth 100000 in
set_option maxHeartbeats 1000000 in
theorem markText_any (k : Int) (w : World) (h1 : k ≤ 4194304) :
    Calls Try.prog 41 #[.int .i64 k] w fun e w' => e = .returned (.string (mkT k)) ∧ Below w.heap.size w w' := by
  by_cases h0 : k ≤ 0
  · have HT := Lib.hid (show mkT k = ⟨#[109, 48]⟩ by simp [mkT, h0])
    go_enter Try.func41, Try.ntmps41
    go_wp2
    go_ret
    exact ⟨by rw [HT.out] <;> rfl, Below.refl _ _⟩
  · have HT := Lib.hid (show mkT k = ⟨#[109]⟩ ++ mkLoop k.toNat k.toNat ByteArray.empty by simp [mkT, h0])
    go_enter Try.func41, Try.ntmps41
    obtain ⟨q, rfl⟩ : ∃ q : Nat, k = q := ⟨k.toNat, by omega⟩
    rw [Int.toNat_natCast] at HT
    have hdt := digit_text
    go_wp2_with fail
    go_loopw [0, 3] (fun v0 v3 wr => ∃ (kk f : Nat) (o : ByteArray), kk ≤ f ∧ kk ≤ 4194304 ∧ o.size + kk ≤ 4194304 ∧ v0 = .int .i64 kk ∧ v3 = .string o ∧ Hid (mkLoop q q ByteArray.empty = mkLoop f kk o) ∧ Below w.heap.size w wr) (fun v0 _ _ => (intOf v0).toNat)
    case atStart => exact ⟨q, q, ByteArray.empty, Nat.le_refl _, by omega, by simp; omega, rfl, rfl, Lib.hid rfl, Below.refl _ _⟩
    case round =>
      obtain ⟨kk, f, o, hf, hk, ho, rfl, rfl, hl, hb⟩ := hrel
      by_cases hz : kk = 0
      · subst hz
        have hl2 := hl.out
        rw [mkLoop_zero] at hl2
        have HL2 := Lib.hid hl2
        have HB := Lib.hid hb
        clear hl hl2 hb hdt
        go_wp2
        go_ret
        exact ⟨by rw [HT.out, HL2.out] <;> rfl, HB.out⟩
      · obtain ⟨f', rfl⟩ : ∃ f', f = f' + 1 := ⟨f - 1, by omega⟩
        have hl2 := hl.out
        rw [mkLoop, if_neg hz] at hl2
        have HL2 := Lib.hid hl2
        have hd := hdt wr (48 + (kk : Int) % 10)
        have HB := Lib.hid (hb.alloc hb.size (.cells #[.int .u8 (48 + (kk : Int) % 10)] 5))
        have hpos : (0 : Int) < kk := by omega
        have hs1 : (strOfNums [48 + (kk : Int) % 10]).size = 1 := by simp [strOfNums]; rfl
        have hs2 : (strOfNums [48 + (kk : Int) % 10] ++ o).size = 1 + o.size := by rw [ByteArray.size_append, hs1]
        have HS2 := Lib.hid hs2
        generalize strOfNums [48 + (kk : Int) % 10] = ds at *
        have ho2 : o.size ≤ 4194304 := by omega
        clear hl hl2 hb hdt
        go_wp2
        go_roundw
        case rel => exact ⟨kk / 10, f', ds ++ o, by omega, by omega, by rw [HS2.out]; omega, by go_num, rfl, HL2, HB.out⟩
        case measure => simp [intOf]; omega

def marksS (k : Int) (n : Nat) : List ByteArray := (List.range n).map fun i : Nat => mkT (k + (i : Int))
theorem marksS_length (k : Int) (n : Nat) : (marksS k n).length = n := by simp [marksS]
theorem marksS_get (k : Int) {n j : Nat} (h : j < n) : rowOf (marksS k n) j = mkT (k + j) := by simp [rowOf, marksS, h]
def mkToS (k : Int) (xs : List ByteArray) (j : Nat) : List ByteArray := marksS k j ++ xs.drop j
theorem mkToS_length (k : Int) (xs : List ByteArray) {j : Nat} (h : j ≤ xs.length) : (mkToS k xs j).length = xs.length := by simp [mkToS, marksS_length]; omega
theorem mkToS_zero (k : Int) (xs : List ByteArray) : mkToS k xs 0 = xs := by simp [mkToS, marksS]
theorem mkToS_all (k : Int) (xs : List ByteArray) : mkToS k xs xs.length = marksS k xs.length := by simp [mkToS]
theorem mkToS_set (k : Int) (xs : List ByteArray) {j : Nat} (h : j < xs.length) : (mkToS k xs j).set j (mkT (k + j)) = mkToS k xs (j + 1) := by
  apply List.ext_getElem?
  intro i
  rw [List.getElem?_set]
  unfold mkToS
  by_cases e : j = i
  · subst e
    rw [if_pos rfl, List.getElem?_append_left (by simp [marksS])]
    simp [marksS, h]; omega
  · rw [if_neg e]
    rcases Nat.lt_or_ge i j with hij | hij
    · rw [List.getElem?_append_left (by simp [marksS]; exact hij), List.getElem?_append_left (by simp [marksS]; omega)]
      simp [marksS, hij, show i < j + 1 by omega]
    · rw [List.getElem?_append_right (by simp [marksS]; exact hij), List.getElem?_append_right (by simp [marksS]; omega)]
      simp [marksS]
      congr 1
      omega
theorem Below.grown' {w w' : World} (h : Below w.heap.size w w') (row : Option Nat) : w.grownBy w' row := ⟨h.os, h.tape, h.output, h.size, fun k hk _ => h.block k hk⟩

set_option maxHeartbeats 4000000 in
theorem markStringS_any (B : Nat) (v : Value) (k : Int) (xs : List ByteArray) (w : World) (hx : (SS v xs).own w B) (hm : xs.length ≤ 1048576) (hk0 : 0 ≤ k) (hk1 : k ≤ 1048576) :
    Calls Try.prog 16 #[v, .int .i64 k] w fun e w' => e = .returned (.int .i64 (k + xs.length)) ∧ (SS v (marksS k xs.length)).own w' B ∧ w.grownBy w' v.ownBlock := by
  rcases Nat.eq_zero_or_pos xs.length with h0 | h0
  · have hxs : xs = [] := List.eq_nil_of_length_eq_zero h0
    subst hxs
    obtain ⟨ao, cap, rfl, _, _⟩ := SS_shape hx
    have HX := Lib.hid hx
    clear hx
    go_enter Try.func16, Try.ntmps16
    go_wp2_with fail
    go_loopw [1, 5] (fun kk i wr => i = .int .i64 0 ∧ kk = .int .i64 k ∧ wr = w) (fun _ i _ => 0)
    case atStart => exact ⟨rfl, rfl, rfl⟩
    case round =>
      obtain ⟨rfl, rfl, rfl⟩ := hrel
      go_wp2
      go_ret
      exact ⟨by simp, by simpa [marksS] using HX.out, grownBy_refl _ _⟩
  · obtain ⟨g, cap, rfl⟩ := SS_block hx h0
    have HX := Lib.hid hx
    clear hx
    go_enter Try.func16, Try.ntmps16
    go_wp2_with fail
    go_loopw [1, 5] (fun kk i wr => ∃ j : Nat, j ≤ xs.length ∧ i = .int .i64 j ∧ kk = .int .i64 (k + j) ∧ Hid ((SS (.slice (some ⟨g, 0, none⟩) xs.length cap) (mkToS k xs j)).own wr B) ∧ Hid (w.grownBy wr (some g)))
      (fun _ i _ => xs.length - (intOf i).toNat)
    case atStart => exact ⟨0, Nat.zero_le _, rfl, by simp, Lib.hid (by rw [mkToS_zero]; exact HX.out), Lib.hid (grownBy_refl _ _)⟩
    case round =>
      obtain ⟨j, hj, rfl, rfl, ho, hg⟩ := hrel
      clear HX
      have hl : (mkToS k xs j).length = xs.length := mkToS_length k xs hj
      by_cases hlt : j < xs.length
      · have HL := Lib.hid hl
        have HSET := Lib.hid (mkToS_set k xs hlt)
        clear hl
        go_wp2_with fail
        refine (markText_any (k + j) wr (by omega)).mono ?_
        rintro e w2 ⟨rfl, b2⟩
        have g2 := Below.grown' b2 (some g)
        have ho2 : (SS (.slice (some ⟨g, 0, none⟩) (mkToS k xs j).length cap) (mkToS k xs j)).own w2 B := by
          rw [HL.out]
          exact Seg.own.below ho.out b2 (Nat.le_refl _)
        have hcell := World.ownsRow.cellAt ho2 j (by show j < (mkToS k xs j).length * 1; rw [HL.out]; omega)
        have hfr2 := World.ownsRow.frozenAt ho2 j
        have hnew := SS_stored ho2 j (mkT (k + j))
        rw [HSET.out, HL.out] at hnew
        have HN := Lib.hid hnew
        have HG := Lib.hid (grownBy_trans hg.out g2)
        obtain ⟨u, hu⟩ : ∃ u, (SS (.slice (some ⟨g, 0, none⟩) (mkToS k xs j).length cap) (mkToS k xs j)).xs[j]? = some u := ⟨_, List.getElem?_eq_getElem (by simp only [SS, List.length_map]; rw [HL.out]; exact hlt)⟩
        rw [hu] at hcell
        clear hnew ho ho2 hg hu g2 b2
        generalize mkT (k + j) = tx at *
        go_wp2
        go_roundw
        case rel => exact ⟨j + 1, by omega, by go_num, by go_num, Lib.hid HN.out.1, Lib.hid (grownBy_trans HG.out HN.out.2)⟩
        case measure => simp [intOf]; omega
      · obtain rfl : j = xs.length := by omega
        have HO := Lib.hid (show (SS (.slice (some ⟨g, 0, none⟩) xs.length cap) (marksS k xs.length)).own wr B by rw [← mkToS_all]; exact ho.out)
        clear ho hl
        go_wp2
        go_ret
        exact ⟨rfl, HO.out, hg.out⟩
end Go.Proofs.Ytoodfgfbppkbmaa
