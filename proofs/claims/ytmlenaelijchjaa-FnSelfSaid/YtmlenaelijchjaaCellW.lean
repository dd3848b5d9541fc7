/- Contracts: where all beams end (pairsOf, l2Pairs, BeamPairs both). -/
/- Contracts: a cell's letter, how many cells there are, given ports and cells (letterAt, l2Cell, cells, l2Given). -/
/- Contracts: ports and where their beams end (portOk, BeamEnd). -/
import Derived.Test.YtmlenaelijchjaaEndL
namespace Go.Proofs.Ytmlenaelijchjaa
open Go.RowKit
set_option linter.unusedVariables false
set_option linter.unusedSimpArgs false

theorem portMany_any (ao : Option Addr) (cap : Nat) (ss : List ByteArray) (w : World) (hx : CellsS w ao ss) (hg : gridB ss = true) :
    Calls Try.prog 28 #[.slice ao ss.length cap] w fun e w' => e = .returned (.int .i64 ((gr ss).ports : Nat)) ∧ w = w' := by
  have hok := gr_ok hg
  have hn1 : 1 ≤ ss.length := hok.n1
  have hn5 : ss.length ≤ 5 := hok.n5
  have hm1 : 1 ≤ (rowOf ss 0).size := hok.m1
  have hm5 : (rowOf ss 0).size ≤ 5 := hok.m5
  obtain ⟨b, off, rfl, hc, hbb⟩ := hx.at (i := 0) (by omega)
  have hc0 := hc 0 (by omega)
  rw [Nat.add_zero] at hc0
  have HP : Hid ((((gr ss).ports : Nat) : Int) = 2 * ss.length + 2 * (rowOf ss 0).size) := by
    show ((2 * ss.length + 2 * (rowOf ss 0).size : Nat) : Int) = _
    omega
  clear hc hx hok hg
  go_enter Try.func28, Try.ntmps28
  go_wp2
  go_ret
  exact ⟨by rw [HP.out]; rfl, rfl⟩

def PairsRel (G : Gr) (w wr : World) (B : Nat) (v3 v10 : Value) : Prop :=
  ∃ (j : Nat) (ao : Option Addr) (c : Nat), v3 = .slice ao j c ∧ v10 = .int .i64 j ∧ j ≤ G.ports ∧ St w wr [SI v3 (G.endsTo j)]

/-- What BeamPairs tells: the ends, or nothing. -/
noncomputable def beamsB (ss : List ByteArray) : List Int := if gridB ss = true then (gr ss).endsTo (gr ss).ports else []
/-- The letter of a cell. -/
def Gr.sig (g : Gr) (c : Nat) : Int := g.lt (c / g.m) (c % g.m)

theorem letterAt_any (ao : Option Addr) (cap : Nat) (ss : List ByteArray) (c : Nat) (w : World) (hx : CellsS w ao ss) (hg : gridB ss = true) (hv : c < (gr ss).n * (gr ss).m) :
    Calls Try.prog 37 #[.slice ao ss.length cap, .int .i64 c] w fun e w' => e = .returned (.int .u8 ((gr ss).sig c)) ∧ Dr w w' := by
  have hok := gr_ok hg
  have hn1 : 1 ≤ ss.length := hok.n1
  have hn5 : ss.length ≤ 5 := hok.n5
  have hm1 : 1 ≤ (rowOf ss 0).size := hok.m1
  have hm5 : (rowOf ss 0).size ≤ 5 := hok.m5
  have hr : c / (rowOf ss 0).size < ss.length := Gr.row_lt hok hv
  have hk : c % (rowOf ss 0).size < (rowOf ss 0).size := Gr.col_lt hok c
  have hc25 : c < 25 := Nat.lt_of_lt_of_le hv (Gr.size_le hok)
  have hrs : (rowOf ss (c / (rowOf ss 0).size)).size = (rowOf ss 0).size := gr_row hg hr
  obtain ⟨b, off, rfl, hc, hbb⟩ := hx.at (i := 0) (by omega)
  have hc0 := hc 0 (by omega)
  have hcr := hc _ hr
  rw [Nat.add_zero] at hc0
  have hS : (gr ss).sig c = sgn (rowOf ss (c / (rowOf ss 0).size)) (c % (rowOf ss 0).size) := rfl
  have i1 : (c : Int) / ((rowOf ss 0).size : Int) = ((c / (rowOf ss 0).size : Nat) : Int) := (Int.natCast_ediv _ _).symm
  have i2 : (c : Int) % ((rowOf ss 0).size : Int) = ((c % (rowOf ss 0).size : Nat) : Int) := (Int.natCast_emod _ _).symm
  clear hc hx hok hv hg
  rw [hS]
  clear hS
  have hsg : ∀ h, (((rowOf ss (c / (rowOf ss 0).size))[c % (rowOf ss 0).size]'h).toNat : Int) = sgn (rowOf ss (c / (rowOf ss 0).size)) (c % (rowOf ss 0).size) := fun h => sgn_eq _ _ h
  generalize sgn (rowOf ss (c / (rowOf ss 0).size)) (c % (rowOf ss 0).size) = q at hsg ⊢
  generalize rowOf ss (c / (rowOf ss 0).size) = s at hcr hsg hrs
  generalize rowOf ss 0 = s0 at *
  generalize c / s0.size = r at *
  generalize c % s0.size = k at *
  have hks : k < s.size := by rw [hrs]; exact hk
  have hsg := hsg hks
  have HSG := Lib.hid hsg
  clear hsg hrs
  have j1 : (0 : Int) ≤ (r : Int) := by omega
  have j2 : (r : Int) < ss.length := by omega
  have j3 : (k : Int) < s.size := by omega
  have z0 : ((s0.size : Int) == 0) = false := beq_eq_false_iff_ne.2 (by omega)
  go_enter Try.func37, Try.ntmps37
  go_wp2
  go_quiet (fail)
  go_wp2
  go_ret
  exact ⟨ret_int rfl, _, rfl⟩

theorem l2Cell_any (ao : Option Addr) (cap : Nat) (ss : List ByteArray) (c : Nat) (w : World) (hx : CellsS w ao ss) (hg : gridB ss = true) (hv : c < (gr ss).n * (gr ss).m) :
    Calls Try.prog 25 #[.slice ao ss.length cap, .int .i64 c] w fun e w' => e = .returned (.int .u8 ((gr ss).sig c)) ∧ Dr w w' := by
  have hok := gr_ok hg
  have hn1 : 1 ≤ ss.length := hok.n1
  have hn5 : ss.length ≤ 5 := hok.n5
  have hm1 : 1 ≤ (rowOf ss 0).size := hok.m1
  have hm5 : (rowOf ss 0).size ≤ 5 := hok.m5
  have hr : c / (rowOf ss 0).size < ss.length := Gr.row_lt hok hv
  have hk : c % (rowOf ss 0).size < (rowOf ss 0).size := Gr.col_lt hok c
  have hc25 : c < 25 := Nat.lt_of_lt_of_le hv (Gr.size_le hok)
  have hrs : (rowOf ss (c / (rowOf ss 0).size)).size = (rowOf ss 0).size := gr_row hg hr
  obtain ⟨b, off, rfl, hc, hbb⟩ := hx.at (i := 0) (by omega)
  have hc0 := hc 0 (by omega)
  have hcr := hc _ hr
  rw [Nat.add_zero] at hc0
  have hS : (gr ss).sig c = sgn (rowOf ss (c / (rowOf ss 0).size)) (c % (rowOf ss 0).size) := rfl
  have i1 : (c : Int) / ((rowOf ss 0).size : Int) = ((c / (rowOf ss 0).size : Nat) : Int) := (Int.natCast_ediv _ _).symm
  have i2 : (c : Int) % ((rowOf ss 0).size : Int) = ((c % (rowOf ss 0).size : Nat) : Int) := (Int.natCast_emod _ _).symm
  clear hc hx hok hv hg
  rw [hS]
  clear hS
  have hsg : ∀ h, (((rowOf ss (c / (rowOf ss 0).size))[c % (rowOf ss 0).size]'h).toNat : Int) = sgn (rowOf ss (c / (rowOf ss 0).size)) (c % (rowOf ss 0).size) := fun h => sgn_eq _ _ h
  generalize sgn (rowOf ss (c / (rowOf ss 0).size)) (c % (rowOf ss 0).size) = q at hsg ⊢
  generalize rowOf ss (c / (rowOf ss 0).size) = s at hcr hsg hrs
  generalize rowOf ss 0 = s0 at *
  generalize c / s0.size = r at *
  generalize c % s0.size = k at *
  have hks : k < s.size := by rw [hrs]; exact hk
  have hsg := hsg hks
  have HSG := Lib.hid hsg
  clear hsg hrs
  have j1 : (0 : Int) ≤ (r : Int) := by omega
  have j2 : (r : Int) < ss.length := by omega
  have j3 : (k : Int) < s.size := by omega
  have z0 : ((s0.size : Int) == 0) = false := beq_eq_false_iff_ne.2 (by omega)
  go_enter Try.func25, Try.ntmps25
  go_wp2
  go_quiet (fail)
  go_wp2
  go_ret
  exact ⟨ret_int rfl, _, rfl⟩

theorem cells_any (ao : Option Addr) (cap : Nat) (ss : List ByteArray) (w : World) (hx : CellsS w ao ss) (hg : gridB ss = true) :
    Calls Try.prog 27 #[.slice ao ss.length cap] w fun e w' => e = .returned (.int .i64 ((gr ss).n * (gr ss).m : Nat)) ∧ w = w' := by
  have hok := gr_ok hg
  have hn1 : 1 ≤ ss.length := hok.n1
  have hn5 : ss.length ≤ 5 := hok.n5
  have hm1 : 1 ≤ (rowOf ss 0).size := hok.m1
  have hm5 : (rowOf ss 0).size ≤ 5 := hok.m5
  obtain ⟨b, off, rfl, hc, hbb⟩ := hx.at (i := 0) (by omega)
  have hc0 := hc 0 (by omega)
  rw [Nat.add_zero] at hc0
  have HP : Hid ((((gr ss).n * (gr ss).m : Nat) : Int) = ss.length * (rowOf ss 0).size) := by
    show ((ss.length * (rowOf ss 0).size : Nat) : Int) = _
    omega
  have q0 : (0 : Int) ≤ (ss.length : Int) * (rowOf ss 0).size := Int.mul_nonneg (by omega) (by omega)
  have q1 : (ss.length : Int) * (rowOf ss 0).size ≤ 5 * 5 := Int.mul_le_mul (by omega) (by omega) (by omega) (by omega)
  clear hc hx hok hg
  go_enter Try.func27, Try.ntmps27
  go_wp2
  go_ret
  exact ⟨by rw [HP.out]; rfl, rfl⟩

end Go.Proofs.Ytmlenaelijchjaa
