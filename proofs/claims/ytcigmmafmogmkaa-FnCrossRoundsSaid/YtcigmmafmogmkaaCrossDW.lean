/- Contracts: the draws of the laws on crossings; GridFull. -/
import Derived.Test.YtcigmmafmogmkaaDrawSomeW
import Derived.Test.YtcigmmafmogmkaaDrawJGridW
import Derived.Test.YtcigmmafmogmkaaTwiceW
import Derived.Test.YtcigmmafmogmkaaCellW
namespace Go.Proofs.Ytcigmmafmogmkaa
open Go.RowKit
set_option linter.unusedVariables false
set_option linter.unusedSimpArgs false

theorem DrawCrossBeams_any (ao : Option Addr) (cap : Nat) (zs : List Int) (w : World) (hy : CellsY w ao zs) (hcap : zs.length ≤ cap) (hcm : cap ≤ maxLen) :
    Calls Try.prog 22 #[.slice ao zs.length cap] w fun e w' => ∃ v T, e = .returned v ∧ 1 ≤ T.length ∧ T.length ≤ 5 ∧ (∀ s ∈ T, 1 ≤ s.size ∧ s.size ≤ 6) ∧ St w w' [SS v T] := by
  go_enter Try.func22, Try.ntmps22
  go_wp2_with fail
  refine (l91One_any ao cap zs w hy hcap hcm).mono ?_
  rintro e w2 ⟨v, T, rfl, h1, h2, h3, st2⟩
  have H3 : Hid (∀ s ∈ T, 1 ≤ s.size ∧ s.size ≤ 6) := fun s hs => ⟨(h3 s hs).1, Nat.le_trans (h3 s hs).2 (by decide)⟩
  have ST := Lib.hid st2
  clear h3 st2
  go_wp2_with fail
  go_ret
  exact ⟨_, T, rfl, h1, by omega, H3.out, ST.out⟩
theorem DrawCrossTotal_any (ao : Option Addr) (cap : Nat) (zs : List Int) (w : World) (hy : CellsY w ao zs) (hcap : zs.length ≤ cap) (hcm : cap ≤ maxLen) :
    Calls Try.prog 16 #[.slice ao zs.length cap] w fun e w' => ∃ v T, e = .returned v ∧ 1 ≤ T.length ∧ T.length ≤ 5 ∧ (∀ s ∈ T, 1 ≤ s.size ∧ s.size ≤ 6) ∧ St w w' [SS v T] := by
  go_enter Try.func16, Try.ntmps16
  go_wp2_with fail
  refine (l91One_any ao cap zs w hy hcap hcm).mono ?_
  rintro e w2 ⟨v, T, rfl, h1, h2, h3, st2⟩
  have H3 : Hid (∀ s ∈ T, 1 ≤ s.size ∧ s.size ≤ 6) := fun s hs => ⟨(h3 s hs).1, Nat.le_trans (h3 s hs).2 (by decide)⟩
  have ST := Lib.hid st2
  clear h3 st2
  go_wp2_with fail
  go_ret
  exact ⟨_, T, rfl, h1, by omega, H3.out, ST.out⟩
theorem DrawCrossRounds_any (ao : Option Addr) (cap : Nat) (zs : List Int) (w : World) (hy : CellsY w ao zs) (hcap : zs.length ≤ cap) (hcm : cap ≤ maxLen) :
    Calls Try.prog 20 #[.slice ao zs.length cap] w fun e w' => ∃ v T, e = .returned v ∧ 1 ≤ T.length ∧ T.length ≤ 5 ∧ (∀ s ∈ T, 1 ≤ s.size ∧ s.size ≤ 6) ∧ St w w' [SS v T] := by
  go_enter Try.func20, Try.ntmps20
  go_wp2_with fail
  refine (l6Open_any ao cap zs w hy (Nat.le_trans hcap hcm) hcap hcm).mono ?_
  rintro e w1 ⟨rfl, o, b⟩
  have st1 := (St.init w).addSeg o b
  have hz : (zs.take 2000).length ≤ 1000000 := by simp; omega
  have hy2 := hy.take 2000
  generalize zs.take 2000 = ys at hz hy2 o st1
  clear o b hy
  go_wp2_with fail
  refine (l91SomeH_any w w1 [] w.heap.size ao ys cap _ 5 5 hy2 st1 (by omega) hz (by omega) (by omega) (by omega) (by omega)).mono ?_
  rintro e w2 ⟨v, T, p2, rfl, h1, h2, h3, _, st2⟩
  have H3 := Lib.hid h3
  have ST := Lib.hid (St.drop1 st2)
  clear h3 st1 st2
  go_wp2_with fail
  go_ret
  exact ⟨_, T, rfl, h1, h2, H3.out, ST.out⟩

theorem GridFull_any (ao : Option Addr) (cap : Nat) (ss : List ByteArray) (w : World) (hx : CellsS w ao ss) (hm : ss.length ≤ maxLen) (hsz : ∀ s ∈ ss, s.size ≤ maxLen) (hg : gridB ss = true) :
    Calls Try.prog 25 #[.slice ao ss.length cap] w fun e w' => e = .returned (.bool ((gr ss).mirN == (gr ss).n * (gr ss).m)) ∧ w = w' := by
  have HC := iGridCount_any ao cap ss w hx hm hsz
  have hM : mirL ss = ((gr ss).mirN : Nat) := by simp [mirL, hg]
  rw [hM, hg] at HC
  have HC := Lib.hid HC
  have HCE := Lib.hid (cells_any ao cap ss w hx hg)
  have hb : ((((gr ss).mirN : Nat) : Int) == (((gr ss).n * (gr ss).m : Nat) : Int)) = ((gr ss).mirN == (gr ss).n * (gr ss).m) := by
    rw [Bool.eq_iff_iff, beq_iff_eq, beq_iff_eq]; omega
  clear hx hsz hg hM
  generalize (gr ss).mirN = A at *
  generalize (gr ss).n * (gr ss).m = B at *
  cases hb2 : (A == B)
  all_goals
    rw [hb2] at hb
    go_enter Try.func25, Try.ntmps25
    go_wp2_with (first | (go_at_call 17; refine HC.out.mono ?_; rintro e w' ⟨rfl, rfl⟩) | (go_at_call 47; refine HCE.out.mono ?_; rintro e w' ⟨rfl, rfl⟩))
    go_ret
    exact ⟨rfl, rfl⟩
end Go.Proofs.Ytcigmmafmogmkaa
