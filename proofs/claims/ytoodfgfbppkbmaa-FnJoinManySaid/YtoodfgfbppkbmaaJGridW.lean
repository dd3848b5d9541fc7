/- Contracts: JoinGrid and JoinMany of both sides. -/
import Derived.Test.YtoodfgfbppkbmaaJGridSW
import Derived.Test.YtoodfgfbppkbmaaJGridIW
namespace Go.Proofs.Ytoodfgfbppkbmaa
open Go.RowKit
set_option linter.unusedVariables false
set_option linter.unusedSimpArgs false

set_option maxHeartbeats 1000000 in
theorem sJoinGrid_any (ao : Option Addr) (cap : Nat) (ss : List ByteArray) (w : World) (hx : CellsS w ao ss) (hm : ss.length ≤ maxLen) (hsz : ∀ s ∈ ss, s.size ≤ maxLen) :
    Calls Try.prog 11 #[.slice ao ss.length cap] w fun e w' => ∃ v, e = .returned (.tuple #[v, .bool (gridB ss)]) ∧ St w w' [SI v (jgL ss)] := by
  have HGI := Lib.hid (sGridIn_any ao cap ss w hx hm hsz)
  cases hg : gridB ss
  · rw [hg] at HGI
    have HL := Lib.hid (show jgL ss = [] by simp [jgL, hg])
    clear hg hx hsz
    go_enter Try.func11, Try.ntmps11
    go_wp2_with (go_at_call 37; refine HGI.out.mono ?_; rintro e w2 ⟨rfl, d⟩; have HD := Lib.hid ((St.init w).dr d); clear d)
    go_ret2
    exact ⟨_, rfl, by rw [HL.out]; exact HD.out.join (st_si_nil2 _)⟩
  · rw [hg] at HGI
    have HJ := Lib.hid fun W (hb : Below w.heap.size w W) => l6jGrid_any ao cap ss W (hx.below hb (Nat.le_refl _)) hg
    have HL := Lib.hid (show jgL ss = jgP ss ((gr ss).m - 1) by simp [jgL, hg])
    generalize jgP ss ((gr ss).m - 1) = LL at *
    generalize jgN ss ((gr ss).m - 1) = NN at *
    clear hg hx hsz
    go_enter Try.func11, Try.ntmps11
    go_wp2_with (first | (go_at_call 37; refine HGI.out.mono ?_; rintro e w2 ⟨rfl, d⟩; have HD := Lib.hid ((St.init w).dr d); clear d) | (go_at_call 38; refine (HJ.out _ HD.out.below).mono ?_; rintro e w3 ⟨v3, rfl, sta⟩; have HST := Lib.hid (HD.out.join sta); clear sta))
    go_ret2
    exact ⟨_, rfl, by rw [HL.out]; exact HST.out⟩

set_option maxHeartbeats 1000000 in
theorem iJoinGrid_any (ao : Option Addr) (cap : Nat) (ss : List ByteArray) (w : World) (hx : CellsS w ao ss) (hm : ss.length ≤ maxLen) (hsz : ∀ s ∈ ss, s.size ≤ maxLen) (hcap : ss.length ≤ cap) :
    Calls Try.prog 13 #[.slice ao ss.length cap] w fun e w' => ∃ v, e = .returned (.tuple #[v, .bool (gridB ss)]) ∧ St w w' [SI v (jgL ss)] := by
  have HGI := Lib.hid (iGridIn_any ao cap ss w hx hm hsz)
  cases hg : gridB ss
  · rw [hg] at HGI
    have HL := Lib.hid (show jgL ss = [] by simp [jgL, hg])
    clear hg hx hsz
    go_enter Try.func13, Try.ntmps13
    go_wp2_with (go_at_call 39; refine HGI.out.mono ?_; rintro e w2 ⟨rfl, rfl⟩)
    go_ret2
    exact ⟨_, rfl, by rw [HL.out]; exact (St.init w).join (st_si_nil2 _)⟩
  · rw [hg] at HGI
    have HJ := Lib.hid fun W (hb : Below w.heap.size w W) => joined_any ao cap ss W (hx.below hb (Nat.le_refl _)) hcap hg
    have HL := Lib.hid (show jgL ss = jgP ss ((gr ss).m - 1) by simp [jgL, hg])
    generalize jgP ss ((gr ss).m - 1) = LL at *
    generalize jgN ss ((gr ss).m - 1) = NN at *
    clear hg hx hsz
    go_enter Try.func13, Try.ntmps13
    go_wp2_with (first | (go_at_call 39; refine HGI.out.mono ?_; rintro e w2 ⟨rfl, rfl⟩) | (go_at_call 40; refine (HJ.out _ (St.init w).below).mono ?_; rintro e w3 ⟨v3, rfl, sta⟩; have HST := Lib.hid ((St.init w).join sta); clear sta))
    go_ret2
    exact ⟨_, rfl, by rw [HL.out]; exact HST.out⟩

set_option maxHeartbeats 1000000 in
theorem sJoinMany_any (ao : Option Addr) (cap : Nat) (ss : List ByteArray) (w : World) (hx : CellsS w ao ss) (hm : ss.length ≤ maxLen) (hsz : ∀ s ∈ ss, s.size ≤ maxLen) :
    Calls Try.prog 26 #[.slice ao ss.length cap] w fun e w' => e = .returned (.tuple #[.int .i64 (jgM ss), .bool (gridB ss)]) ∧ Below w.heap.size w w' := by
  have HGI := Lib.hid (sGridIn_any ao cap ss w hx hm hsz)
  cases hg : gridB ss
  · rw [hg] at HGI
    have HL := Lib.hid (show jgM ss = 0 by simp [jgM, hg])
    clear hg hx hsz
    go_enter Try.func26, Try.ntmps26
    go_wp2_with (go_at_call 37; refine HGI.out.mono ?_; rintro e w2 ⟨rfl, d⟩; have HD := Lib.hid ((St.init w).dr d); clear d)
    go_ret2
    exact ⟨by rw [HL.out]; rfl, HD.out.below⟩
  · rw [hg] at HGI
    have HJ := Lib.hid fun W (hb : Below w.heap.size w W) => l6jGrid_any ao cap ss W (hx.below hb (Nat.le_refl _)) hg
    have HL := Lib.hid (show jgM ss = (jgN ss ((gr ss).m - 1) : Nat) by simp [jgM, hg])
    generalize jgP ss ((gr ss).m - 1) = LL at *
    generalize jgN ss ((gr ss).m - 1) = NN at *
    clear hg hx hsz
    go_enter Try.func26, Try.ntmps26
    go_wp2_with (first | (go_at_call 37; refine HGI.out.mono ?_; rintro e w2 ⟨rfl, d⟩; have HD := Lib.hid ((St.init w).dr d); clear d) | (go_at_call 38; refine (HJ.out _ HD.out.below).mono ?_; rintro e w3 ⟨v3, rfl, sta⟩; have HB := Lib.hid (HD.out.join sta).below; clear sta))
    go_ret2
    exact ⟨by rw [HL.out]; rfl, HB.out⟩

set_option maxHeartbeats 1000000 in
theorem iJoinMany_any (ao : Option Addr) (cap : Nat) (ss : List ByteArray) (w : World) (hx : CellsS w ao ss) (hm : ss.length ≤ maxLen) (hsz : ∀ s ∈ ss, s.size ≤ maxLen) (hcap : ss.length ≤ cap) :
    Calls Try.prog 27 #[.slice ao ss.length cap] w fun e w' => e = .returned (.tuple #[.int .i64 (jgM ss), .bool (gridB ss)]) ∧ Below w.heap.size w w' := by
  have HGI := Lib.hid (iGridIn_any ao cap ss w hx hm hsz)
  cases hg : gridB ss
  · rw [hg] at HGI
    have HL := Lib.hid (show jgM ss = 0 by simp [jgM, hg])
    clear hg hx hsz
    go_enter Try.func27, Try.ntmps27
    go_wp2_with (go_at_call 39; refine HGI.out.mono ?_; rintro e w2 ⟨rfl, rfl⟩)
    go_ret2
    exact ⟨by rw [HL.out]; rfl, (St.init w).below⟩
  · rw [hg] at HGI
    have HJ := Lib.hid fun W (hb : Below w.heap.size w W) => joined_any ao cap ss W (hx.below hb (Nat.le_refl _)) hcap hg
    have HL := Lib.hid (show jgM ss = (jgN ss ((gr ss).m - 1) : Nat) by simp [jgM, hg])
    generalize jgP ss ((gr ss).m - 1) = LL at *
    generalize jgN ss ((gr ss).m - 1) = NN at *
    clear hg hx hsz
    go_enter Try.func27, Try.ntmps27
    go_wp2_with (first | (go_at_call 39; refine HGI.out.mono ?_; rintro e w2 ⟨rfl, rfl⟩) | (go_at_call 40; refine (HJ.out _ (St.init w).below).mono ?_; rintro e w3 ⟨v3, rfl, sta⟩; have HB := Lib.hid ((St.init w).join sta).below; clear sta))
    go_ret2
    exact ⟨by rw [HL.out]; rfl, HB.out⟩
end Go.Proofs.Ytoodfgfbppkbmaa
