/- Contracts: what a change of a cell does to the number of paths (ChangeEmpty, ChangeDelta, ChangePaths; both programs). -/
import Derived.Test.YtmlenaelijchjaaChangePairsW
import Derived.Test.YtmlenaelijchjaaPathManyW
namespace Go.Proofs.Ytmlenaelijchjaa
open Go.RowKit
set_option linter.unusedVariables false
set_option linter.unusedSimpArgs false

/-- The number of paths with a letter put. -/
noncomputable def putP (ss : List ByteArray) (c : Nat) (L : Int) : Int := ((gr (putS ss c L)).pmany : Nat)
noncomputable def emptyL (ss : List ByteArray) (c : Int) : Int := if mirB ss c = true then putP ss c.toNat 46 - (gr ss).pmany else 0
noncomputable def deltaL (ss : List ByteArray) (c : Int) : Int := if mirB ss c = true then putP ss c.toNat (exch ((gr ss).sig c.toNat)) - (gr ss).pmany else 0
noncomputable def pathsL (ss : List ByteArray) (c : Int) : List Int := if cellB ss c = true then [putP ss c.toNat 46, putP ss c.toNat 114, putP ss c.toNat 102] else []
theorem pmany_le {ss : List ByteArray} (hg : gridB ss = true) : (gr ss).pmany ≤ 200 := by
  have hok := gr_ok hg
  have h1 := Gr.rmany_le hok
  have h2 := hok.n5
  have h3 := hok.m5
  unfold Gr.pmany
  omega
theorem pathsL_le (ss : List ByteArray) (c : Int) : (pathsL ss c).length ≤ 1048576 := by
  unfold pathsL
  split <;> simp

theorem iChangeDelta_any (ao : Option Addr) (cap : Nat) (ss : List ByteArray) (c : Int) (w : World) (hx : CellsS w ao ss) (hm : ss.length ≤ maxLen) (hsz : ∀ s ∈ ss, s.size ≤ maxLen) :
    Calls Try.prog 8 #[.slice ao ss.length cap, .int .i64 c] w fun e w' => e = .returned (.tuple #[.int .i64 (deltaL ss c), .bool (mirB ss c)]) ∧ Below w.heap.size w w' := by
  have HMI := Lib.hid (mirrorAt_any ao cap ss c w hx hm hsz)
  have HX := Lib.hid hx
  clear hx hsz
  cases hb : mirB ss c
  · have HB := Lib.hid hb
    have HL := Lib.hid (show deltaL ss c = 0 by simp [deltaL, hb])
    clear hb
    go_enter Try.func8, Try.ntmps8
    go_wp2_with fail
    refine HMI.out.mono ?_
    rintro e w2 ⟨rfl, hd⟩
    rw [HB.out]
    go_wp2
    go_ret2
    exact ⟨by rw [HL.out]; rfl, hd.below _⟩
  · obtain ⟨hg, q, rfl, hq, hmir⟩ := mirB_nat hb
    have HB := Lib.hid hb
    have HG := Lib.hid hg
    have HQ := Lib.hid hq
    have hok := gr_ok hg
    have h25 : (gr ss).n * (gr ss).m ≤ 25 := Gr.size_le hok
    have hL : deltaL ss q = ((gr (putS ss q (exch ((gr ss).sig q)))).pmany : Nat) - ((gr ss).pmany : Nat) := by simp [deltaL, hb, putP]
    have hg2 : gridB (putS ss q (exch ((gr ss).sig q))) = true := putS_ok hg q (exch_let (hok.let' _ _ (Gr.row_lt hok hq) (Gr.col_lt hok q)))
    have hp1 := pmany_le hg
    have hp2 := pmany_le hg2
    have HG2 := Lib.hid hg2
    have HL := Lib.hid hL
    have HP1 := Lib.hid fun W (h : CellsS W ao ss) => pathMany_any ao cap ss W h hg
    have HP2 := Lib.hid fun a' c' W (h : CellsS W a' (putS ss q (exch ((gr ss).sig q)))) => pathMany_any a' c' (putS ss q (exch ((gr ss).sig q))) W h hg2
    clear hb hg hok hL hmir hg2
    go_enter Try.func8, Try.ntmps8
    go_wp2_with fail
    refine HMI.out.mono ?_
    rintro e w2 ⟨rfl, hd⟩
    rw [HB.out]
    have st := (St.init w).dr hd
    go_wp2_with fail
    refine (other_any ao cap ss q _ (st.oldS HX.out) HG.out HQ.out).mono ?_
    rintro e w3 ⟨v3, rfl, s3⟩
    replace st := st.join s3
    obtain ⟨a3, c3, rfl⟩ := st.shapeS 0 rfl
    clear s3
    go_wp2_with fail
    refine (HP2.out _ _ _ (st.texts 0 rfl)).mono ?_
    rintro e w4 ⟨rfl, b4⟩
    replace st := st.step b4
    clear b4
    go_wp2_with fail
    refine (HP1.out _ (st.oldS HX.out)).mono ?_
    rintro e w5 ⟨rfl, b5⟩
    replace st := st.step b5
    have HS := Lib.hid st.below
    clear b5 st HP1 HP2 HQ hq
    generalize (gr ss).pmany = A at *
    generalize (gr (putS ss q (exch ((gr ss).sig q)))).pmany = B at *
    go_wp2
    go_ret2
    exact ⟨by rw [HL.out] <;> rfl, HS.out⟩

end Go.Proofs.Ytmlenaelijchjaa
