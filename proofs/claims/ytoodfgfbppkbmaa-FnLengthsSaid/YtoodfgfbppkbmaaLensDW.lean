/- Contracts: the draw of FnLengths, BeamLength. -/
import Derived.Test.YtoodfgfbppkbmaaDrawJGridW
import Derived.Test.YtoodfgfbppkbmaaTimesW
namespace Go.Proofs.Ytoodfgfbppkbmaa
open Go.RowKit
set_option linter.unusedVariables false
set_option linter.unusedSimpArgs false

theorem DrawRoundLengths_any (ao : Option Addr) (cap : Nat) (zs : List Int) (w : World) (hy : CellsY w ao zs) (hcap : zs.length ≤ cap) (hcm : cap ≤ maxLen) :
    Calls Try.prog 21 #[.slice ao zs.length cap] w fun e w' => ∃ v T, e = .returned v ∧ 1 ≤ T.length ∧ T.length ≤ 5 ∧ (∀ s ∈ T, 1 ≤ s.size ∧ s.size ≤ 6) ∧ St w w' [SS v T] := by
  go_enter Try.func21, Try.ntmps21
  go_wp2_with fail
  refine (l6Open_any ao cap zs w hy (Nat.le_trans hcap hcm) hcap hcm).mono ?_
  rintro e w1 ⟨rfl, o, b⟩
  have st1 := (St.init w).addSeg o b
  have hz : (zs.take 2000).length ≤ 1000000 := by simp; omega
  have hy2 := hy.take 2000
  generalize zs.take 2000 = ys at hz hy2 o st1
  clear o b hy
  go_wp2_with fail
  refine (l91SomeH_any w w1 [] w.heap.size ao ys cap _ 5 5 hy2 st1 (by omega) hz (by omega) (by omega) (by omega) (by omega)).mono ?_
  rintro e w2 ⟨v, T, p2, rfl, h1, h2, h3, _, st2⟩
  have H3 := Lib.hid h3
  have ST := Lib.hid (St.drop1 st2)
  clear h3 st1 st2
  go_wp2_with fail
  go_ret
  exact ⟨_, T, rfl, h1, h2, H3.out, ST.out⟩
theorem BeamLength_any (ao : Option Addr) (cap : Nat) (ss : List ByteArray) (p : Nat) (w : World) (hx : CellsS w ao ss) (hm : ss.length ≤ maxLen) (hsz : ∀ s ∈ ss, s.size ≤ maxLen) (hg : gridB ss = true) (hp : p < (gr ss).ports) :
    Calls Try.prog 25 #[.slice ao ss.length cap, .int .i64 p] w fun e w' => e = .returned (.tuple #[.int .i64 ((gr ss).lenOf p : Nat), .bool true]) ∧ Below w.heap.size w w' := by
  have hb : wayB ss p = true := by
    simp only [wayB, Bool.and_eq_true, inB_iff]
    exact ⟨hg, by omega⟩
  have hl : (wayL ss p).length = (gr ss).lenOf p := by
    simp only [wayL, hb, if_true, Int.toNat_natCast, Gr.wayI_eq, List.length_map]
    exact Gr.wayOf_length (gr_ok hg) p
  have HW := iBeamWay_any ao cap ss p w hx hm hsz
  rw [hb] at HW
  have HW := Lib.hid HW
  have HL := Lib.hid hl
  clear hx hsz hb hl hg hp
  go_enter Try.func25, Try.ntmps25
  go_wp2_with fail
  refine HW.out.mono ?_
  rintro e w2 ⟨v, rfl, st⟩
  obtain ⟨a, c, rfl⟩ := st.shapeI0
  have HB := Lib.hid st.below
  clear st HW
  generalize hn : (wayL ss p).length = n at *
  have HN := Lib.hid hn
  clear hn
  go_wp2
  go_ret2
  exact ⟨by rw [← HL.out]; rfl, HB.out⟩
end Go.Proofs.Ytoodfgfbppkbmaa
