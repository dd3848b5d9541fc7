/- Contract: GridOther. -/
import Derived.Test.YtoabhbdglgmcdaaTurnGW
import Derived.Deep.RegionWith
namespace Go.Proofs.Ytoabhbdglgmcdaa
open Go.RowKit
set_option linter.unusedVariables false
set_option linter.unusedSimpArgs false

theorem GridOther1_any (ao : Option Addr) (cap : Nat) (ss : List ByteArray) (r c : Nat) (b1 : Nat) (w : World) (hx : CellsS w ao ss) (hg : gridB ss = true) (hr : r < (gr ss).n) (hc : c < (gr ss).m)
    (h1 : w.cell? ⟨b1, 0, none⟩ = some (.slice ao ss.length cap)) :
    Calls Try.prog 45 #[.int .i64 r, .int .i64 c, .pointer (some ⟨b1, 0, none⟩)] w fun e w' => e = .returned (.int .u8 (exch ((gr ss).lt r c))) ∧ Dr w w' := by
  have hok := gr_ok hg
  have hr2 : r < ss.length := hr
  have hrs := gr_row hg hr2
  have hn5 : ss.length ≤ 5 := hok.n5
  have hm5 := hok.m5
  obtain ⟨b, off, rfl, hcr⟩ := hx _ hr2
  have hP : (gr ss).lt r c = sgn (rowOf ss r) c := rfl
  rw [hP]
  generalize (gr ss).m = m at *
  have hsg : ∀ h, (((rowOf ss r)[c]'h).toNat : Int) = sgn (rowOf ss r) c := fun h => sgn_eq _ _ h
  have hcs0 : c < (rowOf ss r).size := by omega
  generalize sgn (rowOf ss r) c = q at *
  clear hx hg hok hP hrs hr
  generalize rowOf ss r = s at *
  have hsg := hsg hcs0
  have HSG := Lib.hid hsg
  have hcs : (c : Int) < s.size := by omega
  clear hsg
  go_enter Try.func45, Try.ntmps45
  go_wp2_with fail
  refine (exchanged_any _ _).mono ?_
  rintro e w2 ⟨rfl, rfl⟩
  go_wp2
  go_ret
  exact ⟨ret_int rfl, Dr.refl _⟩

def otherF (ss : List ByteArray) (r c : Nat) : Int := exch ((gr ss).lt r c)
def otherS (ss : List ByteArray) : List ByteArray := if gridB ss = true then gridT (gr ss).n (gr ss).m (otherF ss) else []

set_option maxHeartbeats 4000000 in
theorem iGridOther_any (ao : Option Addr) (cap : Nat) (ss : List ByteArray) (w : World) (hx : CellsS w ao ss) (hm : ss.length ≤ maxLen) (hsz : ∀ s ∈ ss, s.size ≤ maxLen) :
    Calls Try.prog 24 #[.slice ao ss.length cap] w fun e w' => ∃ v, e = .returned (.tuple #[v, .bool (gridB ss)]) ∧ St w w' [SS v (otherS ss)] := by
  have hx1 : CellsS (w.alloc (.cells #[.slice ao ss.length cap] 28)) ao ss := (st_alloc (St.init w) _).oldS hx
  have HGI := Lib.hid (iGridIn_any ao cap ss _ hx1 hm hsz)
  cases hg : gridB ss
  · have HG := Lib.hid hg
    have HP := Lib.hid (show otherS ss = [] by simp [otherS, hg])
    have st := (st_alloc (St.init w) (.cells #[.slice ao ss.length cap] 28)).addSeg (s := SS (.slice (some ⟨(w.alloc (.cells #[.slice ao ss.length cap] 28)).heap.size, 0, none⟩) 0 0) []) (World.ownsRow_made _ #[] 0 (Nat.le_refl _) (Nat.zero_le _) rfl) ((Below.refl _ _).alloc (Nat.le_refl _) (.cells #[] 9))
    rw [World.size_alloc] at st
    have ST := Lib.hid st
    clear hg hx hx1 hsz st
    go_enter Try.func24, Try.ntmps24
    go_wp2_with fail
    refine HGI.out.mono ?_
    rintro e w2 ⟨rfl, rfl⟩
    rw [HG.out]
    go_wp2
    go_ret2
    exact ⟨_, rfl, by rw [HP.out]; exact ST.out⟩
  · have hok := gr_ok hg
    have HG := Lib.hid hg
    have hn1 : 1 ≤ ss.length := hok.n1
    have hn5 : ss.length ≤ 5 := hok.n5
    have hm5 : (gr ss).m ≤ 5 := hok.m5
    have HP := Lib.hid (show otherS ss = gridT (gr ss).n (gr ss).m (otherF ss) by simp [otherS, hg])
    obtain ⟨b, off, rfl, hc, hbb⟩ := hx.at (i := 0) (by omega)
    have hc0 := hc 0 (by omega)
    rw [Nat.add_zero] at hc0
    have hc1 := cell_alloc_lt (o := .cells #[.slice (some ⟨b, off, none⟩) ss.length cap] 28) hc0
    have stW := st_alloc (St.init w) (.cells #[.slice (some ⟨b, off, none⟩) ss.length cap] 28)
    have HM : Hid ((gr ss).m = (rowOf ss 0).size) := rfl
    have HMK : Hid (∀ k, Calls Try.prog 44 #[.int .i64 ss.length, .int .i64 (rowOf ss 0).size, .func (.func 45) #[] #[.pointer (some ⟨w.heap.size, 0, none⟩)]]
        ((w.alloc (.cells #[.slice (some ⟨b, off, none⟩) ss.length cap] 28)).drewN k) fun e w' => ∃ v, e = .returned v ∧ St w w' [SS v (gridT (gr ss).n (gr ss).m (otherF ss))]) := by
      intro k
      have h1 : ((w.alloc (.cells #[.slice (some ⟨b, off, none⟩) ss.length cap] 28)).drewN k).cell? ⟨w.heap.size, 0, none⟩ = some (.slice (some ⟨b, off, none⟩) ss.length cap) := by simp [go_sem]
      have st := stW.dr ⟨k, rfl⟩
      refine (make_GridOther_1 _ _ (fun _ => []) ss.length (rowOf ss 0).size (otherF ss) w.heap.size (St.init _) hn5 hm5 ?_).mono ?_
      · intro W2 pre r c hr hc st2
        refine (GridOther1_any _ cap ss r c _ W2 (hx.below (st.below.trans (st2.below.mono st.size)) (Nat.le_refl _)) hg hr hc (cell_old h1 st2.below (Nat.le_refl _))).mono ?_
        rintro e w3 ⟨rfl, hd⟩
        exact ⟨rfl, st2.dr hd⟩
      · rintro e w3 ⟨v, rfl, st3⟩
        exact ⟨v, rfl, st.join st3⟩
    clear hx hx1 hg hok hc hsz hc0 stW
    generalize rowOf ss 0 = s0 at *
    go_enter Try.func24, Try.ntmps24
    go_wp2_with fail
    refine HGI.out.mono ?_
    rintro e w2 ⟨rfl, rfl⟩
    rw [HG.out]
    go_wp2
    go_region_with (go_at_call 44; refine (HMK.out _).mono ?_; rintro e w9 ⟨v, rfl, st9⟩; have ST9 := Lib.hid st9; clear st9)
    all_goals
      go_wp2
      go_ret2
      exact ⟨_, rfl, by rw [HP.out]; exact ST9.out⟩

/-- Where a grid is exchanged. -/
theorem otherS_facts {ss : List ByteArray} (hg : gridB ss = true) :
    gridB (otherS ss) = true ∧ (gr (otherS ss)).n = (gr ss).n ∧ (gr (otherS ss)).m = (gr ss).m ∧ ∀ i j, i < (gr ss).n → j < (gr ss).m → (gr (otherS ss)).lt i j = exch ((gr ss).lt i j) := by
  have hok := gr_ok hg
  have e : otherS ss = gridT (gr ss).n (gr ss).m (otherF ss) := by simp [otherS, hg]
  have hl : ∀ i k, i < (gr ss).n → k < (gr ss).m → letB (otherF ss i k) = true := fun i k hi hk => by
    have := hok.let' i k hi hk
    unfold otherF
    generalize (gr ss).lt i k = c at *
    simp [letB] at this
    rcases this with (h | h) | h <;> subst h <;> rfl
  rw [e]
  refine ⟨gridT_ok hok.n1 hok.n5 hok.m1 hok.m5 hl, gridT_length _ _ _, ?_, fun i j hi hj => ?_⟩
  · show (rowOf (gridT _ _ _) 0).size = _
    rw [gridT_row hok.n1, rowT_size]
  · show sgn (rowOf (gridT _ _ _) i) j = _
    rw [gridT_row hi, rowT_sgn hj (letB_bd (hl i j hi hj))]
    rfl
end Go.Proofs.Ytoabhbdglgmcdaa
