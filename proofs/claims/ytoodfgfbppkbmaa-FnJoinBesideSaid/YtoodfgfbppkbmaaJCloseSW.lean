/- Contract: a pairing closed, as the spec counts its rounds (JoinClose). -/
import Derived.Test.YtoodfgfbppkbmaaGlue2L
import Derived.Test.YtoodfgfbppkbmaaStS
import Derived.Deep.LoopGhost
namespace Go.Proofs.Ytoodfgfbppkbmaa
open Go.RowKit
set_option linter.unusedVariables false
set_option linter.unusedSimpArgs false

theorem St.fillAt {w0 W : World} {segs : List Seg} (h : St w0 W segs) {g n cap N : Nat} {f : Nat → Int} (i : Nat) (hi : segs[i]? = some (SI (.slice (some ⟨g, 0, none⟩) n cap) (fillN f N))) {j : Nat} (hj : j < N) :
    W.cell? ⟨g, j, none⟩ = some (.int .i64 (f j)) := by
  obtain ⟨b, off, he, hc⟩ := h.cellAt i hi (j := j) (by rw [fillN_length]; exact hj)
  cases he
  rw [Nat.zero_add, fillN_getD f hj] at hc
  exact hc

end Go.Proofs.Ytoodfgfbppkbmaa
