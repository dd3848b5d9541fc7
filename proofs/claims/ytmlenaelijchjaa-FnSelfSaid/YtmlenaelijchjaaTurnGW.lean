/- Contracts: grids turned and flipped (GridTurn, GridFlip). -/
import Derived.Test.YtmlenaelijchjaaPut2W
import Derived.Deep.RegionWith
namespace Go.Proofs.Ytmlenaelijchjaa
open Go.RowKit
set_option linter.unusedVariables false
set_option linter.unusedSimpArgs false

theorem GridTurn1_any (ao : Option Addr) (cap : Nat) (ss : List ByteArray) (r c : Nat) (b1 b2 : Nat) (w : World) (hx : CellsS w ao ss) (hg : gridB ss = true) (hr : r < (gr ss).m) (hc : c < (gr ss).n)
    (h1 : w.cell? ⟨b1, 0, none⟩ = some (.slice ao ss.length cap)) (h2 : w.cell? ⟨b2, 0, none⟩ = some (.int .i64 ss.length)) :
    Calls Try.prog 17 #[.int .i64 r, .int .i64 c, .pointer (some ⟨b1, 0, none⟩), .pointer (some ⟨b2, 0, none⟩)] w fun e w' => e = .returned (.int .u8 (exch ((gr ss).lt ((gr ss).n - 1 - c) r))) ∧ Dr w w' := by
  have hok := gr_ok hg
  have hc2 : c < ss.length := hc
  have hj : ss.length - 1 - c < ss.length := by omega
  have hrs := gr_row hg hj
  have hn5 : ss.length ≤ 5 := hok.n5
  have hm5 := hok.m5
  obtain ⟨b, off, rfl, hcr⟩ := hx _ hj
  have hP : (gr ss).lt ((gr ss).n - 1 - c) r = sgn (rowOf ss (ss.length - 1 - c)) r := rfl
  rw [hP]
  have hsg : ∀ h, (((rowOf ss (ss.length - 1 - c))[r]'h).toNat : Int) = sgn (rowOf ss (ss.length - 1 - c)) r := fun h => sgn_eq _ _ h
  have hcs0 : r < (rowOf ss (ss.length - 1 - c)).size := by omega
  generalize sgn (rowOf ss (ss.length - 1 - c)) r = q at *
  clear hx hg hok hP hrs hc hr
  generalize hS : rowOf ss (ss.length - 1 - c) = s at *
  clear hS
  have hsg := hsg hcs0
  have HSG := Lib.hid hsg
  have hcs : (r : Int) < s.size := by omega
  have e1 : ((ss.length - 1 - c : Nat) : Int) = (ss.length : Int) - 1 - c := by omega
  generalize hJ : ss.length - 1 - c = j at *
  clear hJ hsg
  have e2 : (ss.length : Int) - 1 - c = j := e1.symm
  clear e1
  have j2 : (j : Int) < ss.length := by omega
  go_enter Try.func17, Try.ntmps17
  go_wp2_with fail
  refine (exchanged_any _ _).mono ?_
  rintro e w2 ⟨rfl, rfl⟩
  go_wp2
  go_ret
  exact ⟨ret_int rfl, Dr.refl _⟩
def turnF (ss : List ByteArray) (r c : Nat) : Int := exch ((gr ss).lt ((gr ss).n - 1 - c) r)
def flipF (ss : List ByteArray) (r c : Nat) : Int := exch ((gr ss).lt r ((gr ss).m - 1 - c))
def turnS (ss : List ByteArray) : List ByteArray := if gridB ss = true then gridT (gr ss).m (gr ss).n (turnF ss) else []
def flipS (ss : List ByteArray) : List ByteArray := if gridB ss = true then gridT (gr ss).n (gr ss).m (flipF ss) else []

set_option maxHeartbeats 4000000 in
theorem iGridTurn_any (ao : Option Addr) (cap : Nat) (ss : List ByteArray) (w : World) (hx : CellsS w ao ss) (hm : ss.length ≤ maxLen) (hsz : ∀ s ∈ ss, s.size ≤ maxLen) :
    Calls Try.prog 7 #[.slice ao ss.length cap] w fun e w' => ∃ v, e = .returned (.tuple #[v, .bool (gridB ss)]) ∧ St w w' [SS v (turnS ss)] := by
  have hx1 : CellsS (w.alloc (.cells #[.slice ao ss.length cap] 23)) ao ss := (st_alloc (St.init w) _).oldS hx
  have HGI := Lib.hid (iGridIn_any ao cap ss _ hx1 hm hsz)
  cases hg : gridB ss
  · have HG := Lib.hid hg
    have HP := Lib.hid (show turnS ss = [] by simp [turnS, hg])
    have st := (st_alloc (St.init w) (.cells #[.slice ao ss.length cap] 23)).addSeg (s := SS (.slice (some ⟨(w.alloc (.cells #[.slice ao ss.length cap] 23)).heap.size, 0, none⟩) 0 0) []) (World.ownsRow_made _ #[] 0 (Nat.le_refl _) (Nat.zero_le _) rfl) ((Below.refl _ _).alloc (Nat.le_refl _) (.cells #[] 9))
    rw [World.size_alloc] at st
    have ST := Lib.hid st
    clear hg hx hx1 hsz st
    go_enter Try.func7, Try.ntmps7
    go_wp2_with fail
    refine HGI.out.mono ?_
    rintro e w2 ⟨rfl, rfl⟩
    rw [HG.out]
    go_wp2
    go_ret2
    exact ⟨_, rfl, by rw [HP.out]; exact ST.out⟩
  · have hok := gr_ok hg
    have HG := Lib.hid hg
    have hn1 : 1 ≤ ss.length := hok.n1
    have hn5 : ss.length ≤ 5 := hok.n5
    have hm5 : (gr ss).m ≤ 5 := hok.m5
    have HP := Lib.hid (show turnS ss = gridT (gr ss).m (gr ss).n (turnF ss) by simp [turnS, hg])
    obtain ⟨b, off, rfl, hc, hbb⟩ := hx.at (i := 0) (by omega)
    have hc0 := hc 0 (by omega)
    rw [Nat.add_zero] at hc0
    have hc1 := cell_alloc_lt (o := .cells #[.int .i64 ss.length] 3) (cell_alloc_lt (o := .cells #[.slice (some ⟨b, off, none⟩) ss.length cap] 23) hc0)
    have stW := st_alloc (st_alloc (St.init w) (.cells #[.slice (some ⟨b, off, none⟩) ss.length cap] 23)) (.cells #[.int .i64 ss.length] 3)
    have HSW := Lib.hid stW
    have HM : Hid ((gr ss).m = (rowOf ss 0).size) := rfl
    have HMK : Hid (∀ k, Calls Try.prog 16 #[.int .i64 (rowOf ss 0).size, .int .i64 ss.length, .func (.func 17) #[] #[.pointer (some ⟨w.heap.size, 0, none⟩), .pointer (some ⟨w.heap.size + 1, 0, none⟩)]]
        (((w.alloc (.cells #[.slice (some ⟨b, off, none⟩) ss.length cap] 23)).alloc (.cells #[.int .i64 ss.length] 3)).drewN k) fun e w' => ∃ v, e = .returned v ∧ St w w' [SS v (gridT (gr ss).m (gr ss).n (turnF ss))]) := by
      intro k
      have h1 : (((w.alloc (.cells #[.slice (some ⟨b, off, none⟩) ss.length cap] 23)).alloc (.cells #[.int .i64 ss.length] 3)).drewN k).cell? ⟨w.heap.size, 0, none⟩ = some (.slice (some ⟨b, off, none⟩) ss.length cap) := by simp [go_sem]
      have h2 : (((w.alloc (.cells #[.slice (some ⟨b, off, none⟩) ss.length cap] 23)).alloc (.cells #[.int .i64 ss.length] 3)).drewN k).cell? ⟨w.heap.size + 1, 0, none⟩ = some (.int .i64 ss.length) := by simp [go_sem]
      have st := stW.dr ⟨k, rfl⟩
      refine (make_GridTurn_1 _ _ (fun _ => []) (rowOf ss 0).size ss.length (turnF ss) w.heap.size (w.heap.size + 1) (St.init _) hm5 hn5 ?_).mono ?_
      · intro W2 pre r c hr hc st2
        refine (GridTurn1_any _ cap ss r c _ _ W2 (hx.below (st.below.trans (st2.below.mono st.size)) (Nat.le_refl _)) hg hr hc (cell_old h1 st2.below (Nat.le_refl _)) (cell_old h2 st2.below (Nat.le_refl _))).mono ?_
        rintro e w3 ⟨rfl, hd⟩
        exact ⟨rfl, st2.dr hd⟩
      · rintro e w3 ⟨v, rfl, st3⟩
        exact ⟨v, rfl, st.join st3⟩
    clear hx hx1 hg hok hc hsz hc0 stW
    generalize rowOf ss 0 = s0 at *
    go_enter Try.func7, Try.ntmps7
    go_wp2_with fail
    refine HGI.out.mono ?_
    rintro e w2 ⟨rfl, rfl⟩
    rw [HG.out]
    go_wp2
    go_region_with (go_at_call 16; refine (HMK.out _).mono ?_; rintro e w9 ⟨v, rfl, st9⟩; have ST9 := Lib.hid st9; clear st9)
    all_goals
      go_wp2
      go_ret2
      exact ⟨_, rfl, by rw [HP.out]; exact ST9.out⟩

end Go.Proofs.Ytmlenaelijchjaa
