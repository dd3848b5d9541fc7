/- Contracts: where all beams end (pairsOf, l2Pairs, BeamPairs both). -/
/- Contracts: a cell's letter, how many cells there are, given ports and cells (letterAt, l2Cell, cells, l2Given). -/
/- Contracts: ports and where their beams end (portOk, BeamEnd). -/
import Derived.Test.YtcigmmafmogmkaaEndL
namespace Go.Proofs.Ytcigmmafmogmkaa
open Go.RowKit
set_option linter.unusedVariables false
set_option linter.unusedSimpArgs false

theorem portMany_any (ao : Option Addr) (cap : Nat) (ss : List ByteArray) (w : World) (hx : CellsS w ao ss) (hg : gridB ss = true) :
    Calls Try.prog 36 #[.slice ao ss.length cap] w fun e w' => e = .returned (.int .i64 ((gr ss).ports : Nat)) ∧ w = w' := by
  have hok := gr_ok hg
  have hn1 : 1 ≤ ss.length := hok.n1
  have hn5 : ss.length ≤ 5 := hok.n5
  have hm1 : 1 ≤ (rowOf ss 0).size := hok.m1
  have hm5 : (rowOf ss 0).size ≤ 5 := hok.m5
  obtain ⟨b, off, rfl, hc, hbb⟩ := hx.at (i := 0) (by omega)
  have hc0 := hc 0 (by omega)
  rw [Nat.add_zero] at hc0
  have HP : Hid ((((gr ss).ports : Nat) : Int) = 2 * ss.length + 2 * (rowOf ss 0).size) := by
    show ((2 * ss.length + 2 * (rowOf ss 0).size : Nat) : Int) = _
    omega
  clear hc hx hok hg
  go_enter Try.func36, Try.ntmps36
  go_wp2
  go_ret
  exact ⟨by rw [HP.out]; rfl, rfl⟩

def PairsRel (G : Gr) (w wr : World) (B : Nat) (v3 v10 : Value) : Prop :=
  ∃ (j : Nat) (ao : Option Addr) (c : Nat), v3 = .slice ao j c ∧ v10 = .int .i64 j ∧ j ≤ G.ports ∧ St w wr [SI v3 (G.endsTo j)]

set_option maxHeartbeats 4000000 in
theorem pairsOf_any (ao : Option Addr) (cap : Nat) (ss : List ByteArray) (w : World) (hx : CellsS w ao ss) (hg : gridB ss = true) :
    Calls Try.prog 45 #[.slice ao ss.length cap] w fun e w' => ∃ v, e = .returned v ∧ St w w' [SI v ((gr ss).endsTo (gr ss).ports)] := by
  have hok := gr_ok hg
  have hP : (gr ss).ports ≤ 20 := by
    have := hok.n5
    have := hok.m5
    unfold Gr.ports
    omega
  have HX := Lib.hid hx
  have HG := Lib.hid hg
  have HO := Lib.hid hok
  have sta := ((St.init w).addSeg (s := SI (.slice (some ⟨w.heap.size, 0, none⟩) 0 0) []) (World.ownsRow_made w #[] 0 (Nat.le_refl _) (Nat.zero_le _) rfl) ((Below.refl _ _).alloc (Nat.le_refl _) (.cells #[] 3)))
  have ST0 := Lib.hid sta
  clear sta hx hg hok
  go_enter Try.func45, Try.ntmps45
  go_wp2_with fail
  refine (portMany_any ao cap ss _ (HX.out.below ST0.out.below (Nat.le_refl _)) HG.out).mono ?_
  rintro e w2 ⟨rfl, rfl⟩
  generalize hPP : (gr ss).ports = P at *
  have HPP := Lib.hid hPP
  clear hPP
  go_wp2_with fail
  go_loopw [3, 10] (fun v3 v10 wr => PairsRel (gr ss) w wr P v3 v10) (fun _ v10 _ => P - (intOf v10).toNat)
  case atStart => exact ⟨0, _, _, rfl, rfl, Nat.zero_le _, ST0.out⟩
  case round =>
    obtain ⟨j, ao1, c1, rfl, rfl, hj, st⟩ := hrel
    rw [HPP.out] at hj
    have HS := Lib.hid st
    clear st
    by_cases hlt : j < P
    · obtain ⟨K, y, hB⟩ := Gr.beam_of HO.out (p := j) (by rw [HPP.out]; exact hlt)
      have H1 := Lib.hid (Gr.endsTo_succ hB)
      have L1 := Lib.hid (Gr.endsTo_length (gr ss) j)
      have HB := Lib.hid hB
      clear hB
      go_wp2_with fail
      refine (beam_any ao cap ss j K y _ (HX.out.below HS.out.below (Nat.le_refl _)) HG.out (by rw [HPP.out]; exact hlt) HB.out).mono ?_
      rintro e w3 ⟨vb, rfl, _, b3⟩
      have st3 := (HS.out.step b3).step ((Below.refl _ _).alloc (Nat.le_refl _) (.cells #[.int .i64 ((gr ss).out y : Nat)] 3))
      have HS3 := Lib.hid st3
      clear b3 st3
      go_wp2_with (at_builtin; refine wpPushI _ rfl _ _ rfl w.heap.size _ _ ((gr ss).out y : Int) _ rfl (HS3.out.own _ List.mem_cons_self) rfl (cell_one_new _ _ _) (by rw [L1.out]; omega) ?_; intro v' w4 hbec)
      have st4 := HS3.out.became0 hbec
      rw [H1.out] at st4
      obtain ⟨a2, c2, hv2, _⟩ := OwnI.shape (SI_own.1 (st4.own _ List.mem_cons_self))
      rw [Gr.endsTo_length] at hv2
      subst hv2
      have HS4 := Lib.hid st4
      clear hbec st4
      go_wp2
      go_roundw
      case rel => exact ⟨j + 1, a2, c2, rfl, by go_num, by rw [HPP.out]; omega, HS4.out⟩
      case measure => simp [intOf]; omega
    · obtain rfl : j = P := by omega
      go_wp2
      go_ret
      exact ⟨_, rfl, by rw [HPP.out]; exact HS.out⟩

set_option maxHeartbeats 4000000 in
theorem l2Pairs_any (ao : Option Addr) (cap : Nat) (ss : List ByteArray) (w : World) (hx : CellsS w ao ss) (hg : gridB ss = true) :
    Calls Try.prog 32 #[.slice ao ss.length cap] w fun e w' => ∃ v, e = .returned v ∧ St w w' [SI v ((gr ss).endsTo (gr ss).ports)] := by
  have hok := gr_ok hg
  have hn1 : 1 ≤ ss.length := hok.n1
  have hn5 : ss.length ≤ 5 := hok.n5
  have hm1 : 1 ≤ (rowOf ss 0).size := hok.m1
  have hm5 : (rowOf ss 0).size ≤ 5 := hok.m5
  have hP : (gr ss).ports ≤ 20 := by
    have := hok.n5
    have := hok.m5
    unfold Gr.ports
    omega
  have HPE : Hid ((2 : Int) * (ss.length + (rowOf ss 0).size) = ((gr ss).ports : Nat)) := by
    show _ = ((2 * ss.length + 2 * (rowOf ss 0).size : Nat) : Int)
    omega
  have HX := Lib.hid hx
  have HG := Lib.hid hg
  have HO := Lib.hid hok
  have sta := ((St.init w).addSeg (s := SI (.slice (some ⟨w.heap.size, 0, none⟩) 0 0) []) (World.ownsRow_made w #[] 0 (Nat.le_refl _) (Nat.zero_le _) rfl) ((Below.refl _ _).alloc (Nat.le_refl _) (.cells #[] 3)))
  have ST0 := Lib.hid sta
  obtain ⟨b, off, rfl, hc, hbb⟩ := hx.at (i := 0) (by omega)
  have hcw : ∀ W segs, St w W segs → W.cell? ⟨b, off, none⟩ = some (.string (rowOf ss 0)) := fun W segs h => by
    obtain ⟨b', off', he, hcr, _⟩ := (HX.out.below h.below (Nat.le_refl _)).at (i := 0) (by omega)
    cases he
    have := hcr 0 (by omega)
    rwa [Nat.add_zero] at this
  have HCW := Lib.hid hcw
  clear sta hx hg hok hc hcw
  go_enter Try.func32, Try.ntmps32
  generalize hPP : (gr ss).ports = P at *
  have HPP := Lib.hid hPP
  clear hPP
  go_wp2_with fail
  go_loopw [3, 4] (fun v3 v10 wr => PairsRel (gr ss) w wr P v3 v10) (fun _ v10 _ => P - (intOf v10).toNat)
  case atStart => exact ⟨0, _, _, rfl, rfl, Nat.zero_le _, ST0.out⟩
  case round =>
    obtain ⟨j, ao1, c1, rfl, rfl, hj, st⟩ := hrel
    rw [HPP.out] at hj
    have hc0 := HCW.out _ _ st
    have HS := Lib.hid st
    clear st
    by_cases hlt : j < P
    · obtain ⟨K, y, hB⟩ := Gr.beam_of HO.out (p := j) (by rw [HPP.out]; exact hlt)
      have H1 := Lib.hid (Gr.endsTo_succ hB)
      have L1 := Lib.hid (Gr.endsTo_length (gr ss) j)
      have HB := Lib.hid hB
      clear hB
      go_wp2_with fail
      refine (l2Ports_any _ _ _ (by omega) (by omega) (by omega) (by omega)).mono ?_
      rintro e w2 ⟨rfl, rfl⟩
      rw [HPE.out]
      go_wp2_with fail
      refine (l2Way_any _ cap ss j K y _ (HX.out.below HS.out.below (Nat.le_refl _)) HG.out (by rw [HPP.out]; exact hlt) HB.out).mono ?_
      rintro e w3 ⟨v1, v2, rfl, hst⟩
      have st3 := (HS.out.step hst.below).step ((Below.refl _ _).alloc (Nat.le_refl _) (.cells #[.int .i64 ((gr ss).out y : Nat)] 3))
      have HS3 := Lib.hid st3
      clear hst st3
      go_wp2_with (at_builtin; refine wpPushI _ rfl _ _ rfl w.heap.size _ _ ((gr ss).out y : Int) _ rfl (HS3.out.own _ List.mem_cons_self) rfl (cell_one_new _ _ _) (by rw [L1.out]; omega) ?_; intro v' w4 hbec)
      have st4 := HS3.out.became0 hbec
      rw [H1.out] at st4
      obtain ⟨a2, c2, hv2, _⟩ := OwnI.shape (SI_own.1 (st4.own _ List.mem_cons_self))
      rw [Gr.endsTo_length] at hv2
      subst hv2
      have HS4 := Lib.hid st4
      clear hbec st4
      go_wp2
      go_roundw
      case rel => exact ⟨j + 1, a2, c2, rfl, by go_num, by rw [HPP.out]; omega, HS4.out⟩
      case measure => simp [intOf]; omega
    · obtain rfl : j = P := by omega
      go_wp2_with fail
      refine (l2Ports_any _ _ _ (by omega) (by omega) (by omega) (by omega)).mono ?_
      rintro e w2 ⟨rfl, rfl⟩
      rw [HPE.out]
      go_wp2
      go_ret
      exact ⟨_, rfl, HS.out⟩

/-- What BeamPairs tells: the ends, or nothing. -/
noncomputable def beamsB (ss : List ByteArray) : List Int := if gridB ss = true then (gr ss).endsTo (gr ss).ports else []
theorem iBeamPairs_any (ao : Option Addr) (cap : Nat) (ss : List ByteArray) (w : World) (hx : CellsS w ao ss) (hm : ss.length ≤ maxLen) (hsz : ∀ s ∈ ss, s.size ≤ maxLen) :
    Calls Try.prog 23 #[.slice ao ss.length cap] w fun e w' => ∃ v, e = .returned (.tuple #[v, .bool (gridB ss)]) ∧ St w w' [SI v (beamsB ss)] := by
  have HX := Lib.hid hx
  cases hg : gridB ss
  · have HP := Lib.hid (show beamsB ss = [] by simp [beamsB, hg])
    have HG := Lib.hid hg
    have sta := ((St.init w).addSeg (s := SI (.slice (some ⟨w.heap.size, 0, none⟩) 0 0) []) (World.ownsRow_made w #[] 0 (Nat.le_refl _) (Nat.zero_le _) rfl) ((Below.refl _ _).alloc (Nat.le_refl _) (.cells #[] 3)))
    have ST0 := Lib.hid sta
    have HGI := Lib.hid (iGridIn_any ao cap ss w hx hm hsz)
    clear hx hg sta hsz
    go_enter Try.func23, Try.ntmps23
    go_wp2_with fail
    refine HGI.out.mono ?_
    rintro e w2 ⟨rfl, rfl⟩
    rw [HG.out]
    go_wp2
    go_ret2
    exact ⟨_, rfl, by rw [HP.out]; exact ST0.out⟩
  · have HP := Lib.hid (show beamsB ss = (gr ss).endsTo (gr ss).ports by simp [beamsB, hg])
    have HG := Lib.hid hg
    have HGI := Lib.hid (iGridIn_any ao cap ss w hx hm hsz)
    clear hx hg hsz
    go_enter Try.func23, Try.ntmps23
    go_wp2_with fail
    refine HGI.out.mono ?_
    rintro e w2 ⟨rfl, rfl⟩
    rw [HG.out]
    go_wp2_with fail
    refine (pairsOf_any ao cap ss _ HX.out HG.out).mono ?_
    rintro e w2 ⟨v, rfl, hst⟩
    have ST1 := Lib.hid hst
    clear hst
    go_wp2
    go_ret2
    exact ⟨v, rfl, by rw [HP.out]; exact ST1.out⟩
/-- The letter of a cell. -/
def Gr.sig (g : Gr) (c : Nat) : Int := g.lt (c / g.m) (c % g.m)

theorem letterAt_any (ao : Option Addr) (cap : Nat) (ss : List ByteArray) (c : Nat) (w : World) (hx : CellsS w ao ss) (hg : gridB ss = true) (hv : c < (gr ss).n * (gr ss).m) :
    Calls Try.prog 53 #[.slice ao ss.length cap, .int .i64 c] w fun e w' => e = .returned (.int .u8 ((gr ss).sig c)) ∧ Dr w w' := by
  have hok := gr_ok hg
  have hn1 : 1 ≤ ss.length := hok.n1
  have hn5 : ss.length ≤ 5 := hok.n5
  have hm1 : 1 ≤ (rowOf ss 0).size := hok.m1
  have hm5 : (rowOf ss 0).size ≤ 5 := hok.m5
  have hr : c / (rowOf ss 0).size < ss.length := Gr.row_lt hok hv
  have hk : c % (rowOf ss 0).size < (rowOf ss 0).size := Gr.col_lt hok c
  have hc25 : c < 25 := Nat.lt_of_lt_of_le hv (Gr.size_le hok)
  have hrs : (rowOf ss (c / (rowOf ss 0).size)).size = (rowOf ss 0).size := gr_row hg hr
  obtain ⟨b, off, rfl, hc, hbb⟩ := hx.at (i := 0) (by omega)
  have hc0 := hc 0 (by omega)
  have hcr := hc _ hr
  rw [Nat.add_zero] at hc0
  have hS : (gr ss).sig c = sgn (rowOf ss (c / (rowOf ss 0).size)) (c % (rowOf ss 0).size) := rfl
  have i1 : (c : Int) / ((rowOf ss 0).size : Int) = ((c / (rowOf ss 0).size : Nat) : Int) := (Int.natCast_ediv _ _).symm
  have i2 : (c : Int) % ((rowOf ss 0).size : Int) = ((c % (rowOf ss 0).size : Nat) : Int) := (Int.natCast_emod _ _).symm
  clear hc hx hok hv hg
  rw [hS]
  clear hS
  have hsg : ∀ h, (((rowOf ss (c / (rowOf ss 0).size))[c % (rowOf ss 0).size]'h).toNat : Int) = sgn (rowOf ss (c / (rowOf ss 0).size)) (c % (rowOf ss 0).size) := fun h => sgn_eq _ _ h
  generalize sgn (rowOf ss (c / (rowOf ss 0).size)) (c % (rowOf ss 0).size) = q at hsg ⊢
  generalize rowOf ss (c / (rowOf ss 0).size) = s at hcr hsg hrs
  generalize rowOf ss 0 = s0 at *
  generalize c / s0.size = r at *
  generalize c % s0.size = k at *
  have hks : k < s.size := by rw [hrs]; exact hk
  have hsg := hsg hks
  have HSG := Lib.hid hsg
  clear hsg hrs
  have j1 : (0 : Int) ≤ (r : Int) := by omega
  have j2 : (r : Int) < ss.length := by omega
  have j3 : (k : Int) < s.size := by omega
  have z0 : ((s0.size : Int) == 0) = false := beq_eq_false_iff_ne.2 (by omega)
  go_enter Try.func53, Try.ntmps53
  go_wp2
  go_quiet (fail)
  go_wp2
  go_ret
  exact ⟨ret_int rfl, _, rfl⟩

theorem l2Cell_any (ao : Option Addr) (cap : Nat) (ss : List ByteArray) (c : Nat) (w : World) (hx : CellsS w ao ss) (hg : gridB ss = true) (hv : c < (gr ss).n * (gr ss).m) :
    Calls Try.prog 27 #[.slice ao ss.length cap, .int .i64 c] w fun e w' => e = .returned (.int .u8 ((gr ss).sig c)) ∧ Dr w w' := by
  have hok := gr_ok hg
  have hn1 : 1 ≤ ss.length := hok.n1
  have hn5 : ss.length ≤ 5 := hok.n5
  have hm1 : 1 ≤ (rowOf ss 0).size := hok.m1
  have hm5 : (rowOf ss 0).size ≤ 5 := hok.m5
  have hr : c / (rowOf ss 0).size < ss.length := Gr.row_lt hok hv
  have hk : c % (rowOf ss 0).size < (rowOf ss 0).size := Gr.col_lt hok c
  have hc25 : c < 25 := Nat.lt_of_lt_of_le hv (Gr.size_le hok)
  have hrs : (rowOf ss (c / (rowOf ss 0).size)).size = (rowOf ss 0).size := gr_row hg hr
  obtain ⟨b, off, rfl, hc, hbb⟩ := hx.at (i := 0) (by omega)
  have hc0 := hc 0 (by omega)
  have hcr := hc _ hr
  rw [Nat.add_zero] at hc0
  have hS : (gr ss).sig c = sgn (rowOf ss (c / (rowOf ss 0).size)) (c % (rowOf ss 0).size) := rfl
  have i1 : (c : Int) / ((rowOf ss 0).size : Int) = ((c / (rowOf ss 0).size : Nat) : Int) := (Int.natCast_ediv _ _).symm
  have i2 : (c : Int) % ((rowOf ss 0).size : Int) = ((c % (rowOf ss 0).size : Nat) : Int) := (Int.natCast_emod _ _).symm
  clear hc hx hok hv hg
  rw [hS]
  clear hS
  have hsg : ∀ h, (((rowOf ss (c / (rowOf ss 0).size))[c % (rowOf ss 0).size]'h).toNat : Int) = sgn (rowOf ss (c / (rowOf ss 0).size)) (c % (rowOf ss 0).size) := fun h => sgn_eq _ _ h
  generalize sgn (rowOf ss (c / (rowOf ss 0).size)) (c % (rowOf ss 0).size) = q at hsg ⊢
  generalize rowOf ss (c / (rowOf ss 0).size) = s at hcr hsg hrs
  generalize rowOf ss 0 = s0 at *
  generalize c / s0.size = r at *
  generalize c % s0.size = k at *
  have hks : k < s.size := by rw [hrs]; exact hk
  have hsg := hsg hks
  have HSG := Lib.hid hsg
  clear hsg hrs
  have j1 : (0 : Int) ≤ (r : Int) := by omega
  have j2 : (r : Int) < ss.length := by omega
  have j3 : (k : Int) < s.size := by omega
  have z0 : ((s0.size : Int) == 0) = false := beq_eq_false_iff_ne.2 (by omega)
  go_enter Try.func27, Try.ntmps27
  go_wp2
  go_quiet (fail)
  go_wp2
  go_ret
  exact ⟨ret_int rfl, _, rfl⟩

theorem cells_any (ao : Option Addr) (cap : Nat) (ss : List ByteArray) (w : World) (hx : CellsS w ao ss) (hg : gridB ss = true) :
    Calls Try.prog 47 #[.slice ao ss.length cap] w fun e w' => e = .returned (.int .i64 ((gr ss).n * (gr ss).m : Nat)) ∧ w = w' := by
  have hok := gr_ok hg
  have hn1 : 1 ≤ ss.length := hok.n1
  have hn5 : ss.length ≤ 5 := hok.n5
  have hm1 : 1 ≤ (rowOf ss 0).size := hok.m1
  have hm5 : (rowOf ss 0).size ≤ 5 := hok.m5
  obtain ⟨b, off, rfl, hc, hbb⟩ := hx.at (i := 0) (by omega)
  have hc0 := hc 0 (by omega)
  rw [Nat.add_zero] at hc0
  have HP : Hid ((((gr ss).n * (gr ss).m : Nat) : Int) = ss.length * (rowOf ss 0).size) := by
    show ((ss.length * (rowOf ss 0).size : Nat) : Int) = _
    omega
  have q0 : (0 : Int) ≤ (ss.length : Int) * (rowOf ss 0).size := Int.mul_nonneg (by omega) (by omega)
  have q1 : (ss.length : Int) * (rowOf ss 0).size ≤ 5 * 5 := Int.mul_le_mul (by omega) (by omega) (by omega) (by omega)
  clear hc hx hok hg
  go_enter Try.func47, Try.ntmps47
  go_wp2
  go_ret
  exact ⟨by rw [HP.out]; rfl, rfl⟩

end Go.Proofs.Ytcigmmafmogmkaa
