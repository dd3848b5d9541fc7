/- Contracts: ports and where their beams end (portOk, BeamEnd). -/
import Derived.Test.YtecnmikfaoankaaPairsBW
namespace Go.Proofs.Ytecnmikfaoankaa
open Go.RowKit
set_option linter.unusedVariables false

/-- At a grid: is p a port? -/
theorem portOk_any (ao : Option Addr) (cap : Nat) (ss : List ByteArray) (p : Int) (w : World) (hx : CellsS w ao ss) (hm : ss.length ≤ maxLen) (hsz : ∀ s ∈ ss, s.size ≤ maxLen) :
    Calls Try.prog 48 #[.slice ao ss.length cap, .int .i64 p] w fun e w' => e = .returned (.bool (gridB ss && inB p 0 ((gr ss).ports - 1))) ∧ w = w' := by
  have HX := Lib.hid hx
  have HGI := Lib.hid (iGridIn_any ao cap ss w hx hm hsz)
  clear hx hsz
  cases hg : gridB ss
  · have HG := Lib.hid hg
    clear hg
    go_enter Try.func48, Try.ntmps48
    go_wp2_with fail
    refine HGI.out.mono ?_
    rintro e w2 ⟨rfl, rfl⟩
    rw [HG.out]
    go_wp2
    go_ret
    exact ⟨rfl, rfl⟩
  · have HG := Lib.hid hg
    have hP : 1 ≤ (gr ss).ports ∧ (gr ss).ports ≤ 20 := by
      have h := gr_ok hg
      have := h.n1
      have := h.n5
      have := h.m1
      have := h.m5
      unfold Gr.ports
      omega
    have HPM := Lib.hid (portMany_any ao cap ss w HX.out hg)
    clear hg
    generalize (gr ss).ports = P at *
    go_enter Try.func48, Try.ntmps48
    go_wp2_with fail
    refine HGI.out.mono ?_
    rintro e w2 ⟨rfl, rfl⟩
    rw [HG.out]
    go_wp2_with fail
    refine HPM.out.mono ?_
    rintro e w2 ⟨rfl, rfl⟩
    go_wp2_with fail
    refine (within_any _ _ _ _).mono ?_
    rintro e w2 ⟨rfl, rfl⟩
    go_wp2
    go_ret
    exact ⟨ret_bool (by simp), rfl⟩

/-- The end of the beam from a port. -/
theorem beamEnd_any (ao : Option Addr) (cap : Nat) (ss : List ByteArray) (p : Nat) (w : World) (hx : CellsS w ao ss) (hm : ss.length ≤ maxLen) (hsz : ∀ s ∈ ss, s.size ≤ maxLen) (hg : gridB ss = true) (hp : p < (gr ss).ports) :
    Calls Try.prog 22 #[.slice ao ss.length cap, .int .i64 p] w fun e w' => e = .returned (.tuple #[.int .i64 ((gr ss).endOf p : Nat), .bool true]) ∧ Below w.heap.size w w' := by
  have HX := Lib.hid hx
  have HPO := portOk_any ao cap ss p w hx hm hsz
  rw [hg, show inB (p : Int) 0 ((gr ss).ports - 1) = true from inB_iff.2 (by omega)] at HPO
  have HPO := Lib.hid HPO
  obtain ⟨K, y, hB⟩ := Gr.beam_of (gr_ok hg) hp
  have HE := Lib.hid (Gr.endOf_eq hB)
  have HBE := Lib.hid (beam_any ao cap ss p K y w hx hg hp hB)
  clear hx hsz hB hg hp
  go_enter Try.func22, Try.ntmps22
  go_wp2_with fail
  refine HPO.out.mono ?_
  rintro e w2 ⟨rfl, rfl⟩
  go_wp2_with fail
  refine HBE.out.mono ?_
  rintro e w2 ⟨v, rfl, _, b⟩
  have HB2 := Lib.hid b
  clear b
  go_wp2
  go_ret2
  exact ⟨by rw [HE.out]; rfl, HB2.out⟩
end Go.Proofs.Ytecnmikfaoankaa
