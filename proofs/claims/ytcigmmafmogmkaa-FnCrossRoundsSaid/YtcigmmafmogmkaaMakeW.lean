/- Grids made of letters: plain facts. -/
/- Contract: the grid of letters that a closure tells (makeGrid), once for each closure. -/
import Derived.Test.YtcigmmafmogmkaaEndL
import Derived.Test.YtcigmmafmogmkaaCellW
import Derived.Laws.BytesArg
import Derived.Test.YtcigmmafmogmkaaDrawGridL
import Derived.Test.YtcigmmafmogmkaaStS
namespace Go.Proofs.Ytcigmmafmogmkaa
open Go.RowKit
set_option linter.unusedVariables false
set_option linter.unusedSimpArgs false

def rowT (m : Nat) (f : Nat → Int) : ByteArray := strOfNums ((List.range m).map f)
/-- The rows of letters that a function tells. -/
def gridT (n m : Nat) (f : Nat → Nat → Int) : List ByteArray := (List.range n).map fun r => rowT m (f r)
theorem rowT_size (m : Nat) (f : Nat → Int) : (rowT m f).size = m := by simp [rowT, strOfNums_size]
theorem rowT_sgn {m k : Nat} {f : Nat → Int} (hk : k < m) (h : 0 ≤ f k ∧ f k < 256) : sgn (rowT m f) k = f k := by
  unfold sgn rowT
  rw [strOfNums_data]
  simp [hk, UInt8.toNat_ofNat']
  omega
theorem letB_bd {c : Int} (h : letB c = true) : 0 ≤ c ∧ c < 256 := by
  simp [letB] at h
  omega
theorem gridT_length (n m : Nat) (f : Nat → Nat → Int) : (gridT n m f).length = n := by simp [gridT]
theorem gridT_row {n m i : Nat} {f : Nat → Nat → Int} (hi : i < n) : rowOf (gridT n m f) i = rowT m (f i) := by simp [rowOf, gridT, hi]
theorem gridT_succ (n m : Nat) (f : Nat → Nat → Int) : gridT n m f ++ [rowT m (f n)] = gridT (n + 1) m f := by simp [gridT, List.range_succ]
theorem gridT_ok {n m : Nat} {f : Nat → Nat → Int} (hn1 : 1 ≤ n) (hn5 : n ≤ 5) (hm1 : 1 ≤ m) (hm5 : m ≤ 5) (h : ∀ i k, i < n → k < m → letB (f i k) = true) : gridB (gridT n m f) = true := by
  rw [gridB_iff, gridT_length, gridT_row (show 0 < n by omega), rowT_size]
  refine ⟨⟨hn1, hn5⟩, fun i hi => ?_, hm1, hm5⟩
  rw [gridT_row hi, rowB_iff, rowT_size]
  exact ⟨rfl, fun k hk => by rw [rowT_sgn hk (letB_bd (h i k hi hk))]; exact h i k hi hk⟩
/-- Grids with the same rows, columns and letters have the same beams. -/
structure Gr.Same (g g' : Gr) : Prop where
  n : g.n = g'.n
  m : g.m = g'.m
  lt : ∀ i k, i < g.n → k < g.m → g.lt i k = g'.lt i k
theorem gridT_gr {n m : Nat} {f : Nat → Nat → Int} (hn1 : 1 ≤ n) (h : ∀ i k, i < n → k < m → letB (f i k) = true) : Gr.Same (gr (gridT n m f)) ⟨n, m, f⟩ where
  n := gridT_length n m f
  m := by
    show (rowOf (gridT n m f) 0).size = m
    rw [gridT_row (show 0 < n by omega), rowT_size]
  lt := fun i k hi hk => by
    have hi : i < n := by
      have : (gr (gridT n m f)).n = n := gridT_length n m f
      omega
    have hk : k < m := by
      have : (gr (gridT n m f)).m = m := by
        show (rowOf (gridT n m f) 0).size = m
        rw [gridT_row (show 0 < n by omega), rowT_size]
      omega
    show sgn (rowOf (gridT n m f) i) k = f i k
    rw [gridT_row hi, rowT_sgn hk (letB_bd (h i k hi hk))]
theorem sgn_bd (s : ByteArray) (k : Nat) : 0 ≤ sgn s k ∧ sgn s k < 256 := by
  unfold sgn
  have := UInt8.toNat_lt (s.data.toList.getD k 0)
  omega
theorem byteArray_ext {s t : ByteArray} (h : s.data.toList = t.data.toList) : s = t := by
  cases s; cases t
  simp only [ByteArray.mk.injEq]
  exact Array.toList_inj.1 h
theorem rowT_of (s : ByteArray) : rowT s.size (sgn s) = s := by
  apply byteArray_ext
  unfold rowT
  rw [strOfNums_data]
  apply List.ext_getElem
  · rw [List.length_map, List.length_map, List.length_range, Array.length_toList]
    rfl
  · intro i h1 h2
    rw [List.getElem_map, List.getElem_map, List.getElem_range]
    unfold sgn
    rw [Int.toNat_natCast, List.getD_eq_getElem?_getD, List.getElem?_eq_getElem h2, Option.getD_some, UInt8.ofNat_toNat]
theorem rowT_congr {m : Nat} {f g : Nat → Int} (h : ∀ k, k < m → f k = g k) : rowT m f = rowT m g := by
  unfold rowT
  congr 1
  exact List.map_congr_left fun k hk => h k (List.mem_range.1 hk)
theorem gridT_congr {n m : Nat} {f g : Nat → Nat → Int} (h : ∀ i k, i < n → k < m → f i k = g i k) : gridT n m f = gridT n m g := by
  unfold gridT
  exact List.map_congr_left fun i hi => rowT_congr fun k hk => h i k (List.mem_range.1 hi) hk
theorem gridT_of {ss : List ByteArray} (hg : gridB ss = true) : gridT (gr ss).n (gr ss).m (gr ss).lt = ss := by
  apply List.ext_getElem
  · rw [gridT_length]; rfl
  · intro i h1 h2
    have e : (gridT (gr ss).n (gr ss).m (gr ss).lt)[i] = rowT (gr ss).m ((gr ss).lt i) := by simp [gridT]
    have hr : rowOf ss i = ss[i] := by simp [rowOf, h2]
    rw [e, ← gr_row hg h2, hr]
    show rowT ss[i].size (sgn (rowOf ss i)) = ss[i]
    rw [hr, rowT_of]
/-- The grid with another letter in a cell. -/
def Gr.putF (g : Gr) (cell : Nat) (c : Int) (i k : Nat) : Int := if i * g.m + k = cell then c else g.lt i k
def putS (ss : List ByteArray) (cell : Nat) (c : Int) : List ByteArray := gridT (gr ss).n (gr ss).m ((gr ss).putF cell c)
theorem putF_let {g : Gr} (hg : g.ok) {cell : Nat} {c : Int} (hc : letB c = true) {i k : Nat} (hi : i < g.n) (hk : k < g.m) : letB (g.putF cell c i k) = true := by
  unfold Gr.putF
  split
  · exact hc
  · exact hg.let' i k hi hk
theorem putS_ok {ss : List ByteArray} (hg : gridB ss = true) (cell : Nat) {c : Int} (hc : letB c = true) : gridB (putS ss cell c) = true := by
  have hok := gr_ok hg
  exact gridT_ok hok.n1 hok.n5 hok.m1 hok.m5 fun i k hi hk => putF_let hok hc hi hk
/-- A mirror exchanged. -/
def exch (c : Int) : Int := if c = 114 then 102 else if c = 102 then 114 else c
theorem exch_let {c : Int} (h : letB c = true) : letB (exch c) = true := by
  simp [letB] at h
  unfold exch
  rcases h with (h | h) | h <;> subst h <;> rfl

theorem SY_text {w : World} {base : Nat} {v : Value} {ys : List Int} (h : (SY v ys).own w base) :
    ∃ ao cap, v = .slice ao ys.length cap ∧ ∀ W, (∀ b, (∃ k, v.ownBlock = some k ∧ b = k) → W.heap[b]? = w.heap[b]?) → (convert 29 9 v).run Try.prog W = .ok (.string (strOfNums ys)) W := by
  rcases h.2 with ⟨hv, hn⟩ | ⟨g, cap, cur, hv, hb, hg, hnc, hcm, _⟩
  · have h0 : ys.length = 0 := hn
    have h1 : ys = [] := List.eq_nil_of_length_eq_zero h0
    subst h1
    have hv' : v = .slice none 0 0 := hv
    subst hv'
    exact ⟨none, 0, rfl, fun W _ => run_convert_bytes_nil W _ _ Try.underlying29 Try.underlying5 _ _ _ Try.underlying9⟩
  · have hv' : v = .slice (some ⟨g, 0, none⟩) ys.length cap := hv
    subst hv'
    refine ⟨_, cap, rfl, fun W hW => ?_⟩
    refine run_convert_bytes_arg W _ _ Try.underlying29 Try.underlying5 g 0 ys.length cap ys rfl (fun i hi => ?_) _ Try.underlying9
    have hc := World.ownsRow.cellAt h i (by show i < ys.length * 1; omega)
    rw [Nat.zero_add]
    refine (World.cell?_of_block (w := w) (hW g ⟨g, rfl, rfl⟩)).trans ?_
    rw [hc]
    simp [SY, hi]






end Go.Proofs.Ytcigmmafmogmkaa
