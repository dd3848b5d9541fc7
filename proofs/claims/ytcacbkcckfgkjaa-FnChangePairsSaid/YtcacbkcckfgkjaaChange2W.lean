/- Contracts: GridPut, RoundPaths, the laws' total. -/
import Derived.Test.YtcacbkcckfgkjaaPathManyW
import Derived.Test.YtcacbkcckfgkjaaPut2W
import Derived.Test.YtcacbkcckfgkjaaAfterW
namespace Go.Proofs.Ytcacbkcckfgkjaa
open Go.RowKit
set_option linter.unusedVariables false
set_option linter.unusedSimpArgs false

theorem RoundPaths_any (ao : Option Addr) (cap : Nat) (ss : List ByteArray) (w : World) (hx : CellsS w ao ss) (hm : ss.length ≤ maxLen) (hsz : ∀ s ∈ ss, s.size ≤ maxLen) (hg : gridB ss = true) :
    Calls Try.prog 34 #[.slice ao ss.length cap] w fun e w' => e = .returned (.tuple #[.int .i64 ((gr ss).pmany : Nat), .bool true]) ∧ Below w.heap.size w w' := by
  have HGI := Lib.hid (iGridIn_any ao cap ss w hx hm hsz)
  have HPM := Lib.hid (pathMany_any ao cap ss w hx hg)
  have HG := Lib.hid hg
  clear hg hx hsz
  go_enter Try.func34, Try.ntmps34
  go_wp2_with fail
  refine HGI.out.mono ?_
  rintro e w2 ⟨rfl, rfl⟩
  rw [HG.out]
  go_wp2_with fail
  refine HPM.out.mono ?_
  rintro e w3 ⟨rfl, b⟩
  generalize hA : (gr ss).pmany = A at *
  have HA := Lib.hid hA
  clear hA
  go_wp2
  go_ret2
  exact ⟨by rw [HA.out]; rfl, b⟩
theorem GridPut_any (ao : Option Addr) (cap : Nat) (ss : List ByteArray) (c : Nat) (s : ByteArray) (L : Int) (w : World) (hx : CellsS w ao ss) (hm : ss.length ≤ maxLen) (hsz : ∀ s ∈ ss, s.size ≤ maxLen) (hg : gridB ss = true)
    (hc : c < (gr ss).n * (gr ss).m) (hs : s.size = 1) (hL : sgn s 0 = L) (hLt : letB L = true) :
    Calls Try.prog 33 #[.slice ao ss.length cap, .int .i64 c, .string s] w fun e w' => ∃ v, e = .returned (.tuple #[v, .bool true]) ∧ St w w' [SS v (putS ss c L)] := by
  have HGI := Lib.hid (iGridIn_any ao cap ss w hx hm hsz)
  have HCE := Lib.hid (cells_any ao cap ss w hx hg)
  have h25 := Gr.size_le (gr_ok hg)
  have HPT := Lib.hid (put_any ao cap ss c L w hx hg (by omega))
  have HG := Lib.hid hg
  have HSG := Lib.hid ((sgn_eq s 0 (by omega)).trans hL)
  have HLT := Lib.hid hLt
  have HIN := Lib.hid (show inB (c : Int) 0 (((gr ss).n * (gr ss).m : Nat) - 1) = true from inB_iff.2 (by omega))
  clear hg hx hsz hL hLt
  generalize (gr ss).n * (gr ss).m = N at *
  go_enter Try.func33, Try.ntmps33
  go_wp2_with fail
  refine HGI.out.mono ?_
  rintro e w2 ⟨rfl, rfl⟩
  rw [HG.out]
  go_wp2_with fail
  refine HCE.out.mono ?_
  rintro e w2 ⟨rfl, rfl⟩
  go_wp2_with fail
  refine (within_any _ _ _ _).mono ?_
  rintro e w2 ⟨rfl, rfl⟩
  rw [HIN.out]
  go_wp2_with fail
  refine (letterOk_any _ _).mono ?_
  rintro e w2 ⟨rfl, rfl⟩
  rw [HSG.out, HLT.out]
  go_wp2_with fail
  rw [HSG.out]
  refine HPT.out.mono ?_
  rintro e w3 ⟨v, rfl, st⟩
  have ST := Lib.hid st
  clear st
  go_wp2_with fail
  go_ret2
  exact ⟨_, rfl, ST.out⟩
end Go.Proofs.Ytcacbkcckfgkjaa
