/- Contracts: a column of a grid (l6jColumn, GridPart). -/
import Derived.Test.YtoodfgfbppkbmaaDrawGridL
import Derived.Test.YtoodfgfbppkbmaaAfterW
import Derived.Test.YtoodfgfbppkbmaaEndL
import Derived.Deep.LoopGhost
namespace Go.Proofs.Ytoodfgfbppkbmaa
open Go.RowKit
set_option linter.unusedVariables false
set_option linter.unusedSimpArgs false

/-- A column, as a grid. -/
def colS (ss : List ByteArray) (k : Nat) : List ByteArray := (List.range ss.length).map fun i => (rowOf ss i).extract k (k + 1)
def colTo (ss : List ByteArray) (k i : Nat) : List ByteArray := (List.range i).map fun i => (rowOf ss i).extract k (k + 1)
theorem colTo_succ (ss : List ByteArray) (k i : Nat) : colTo ss k i ++ [(rowOf ss i).extract k (k + 1)] = colTo ss k (i + 1) := by simp [colTo, List.range_succ]
theorem colTo_length (ss : List ByteArray) (k i : Nat) : (colTo ss k i).length = i := by simp [colTo]
theorem colS_row (ss : List ByteArray) (k : Nat) {i : Nat} (hi : i < ss.length) : rowOf (colS ss k) i = (rowOf ss i).extract k (k + 1) := by
  unfold rowOf colS
  rw [List.getD_eq_getElem?_getD, List.getElem?_map, List.getElem?_range hi]
  rfl
theorem sgn_extract (s : ByteArray) {k : Nat} (hk : k < s.size) : sgn (s.extract k (k + 1)) 0 = sgn s k ∧ (s.extract k (k + 1)).size = 1 := by
  have hs : (s.extract k (k + 1)).size = 1 := by rw [ByteArray.size_extract]; omega
  refine ⟨?_, hs⟩
  rw [← sgn_eq _ 0 (by omega), ← sgn_eq s k hk]
  congr 2
  rw [ByteArray.getElem_extract]
  congr 1
theorem colS_ok {ss : List ByteArray} (hg : gridB ss = true) {k : Nat} (hk : k < (gr ss).m) : gridB (colS ss k) = true ∧ (gr (colS ss k)).n = (gr ss).n ∧ (gr (colS ss k)).m = 1 ∧ (∀ i, i < (gr ss).n → (gr (colS ss k)).lt i 0 = (gr ss).lt i k) := by
  have hok := gr_ok hg
  have hn1 : 1 ≤ ss.length := hok.n1
  have hn5 : ss.length ≤ 5 := hok.n5
  have hl : (colS ss k).length = ss.length := by simp [colS]
  have hrow : ∀ i, i < ss.length → sgn (rowOf (colS ss k) i) 0 = sgn (rowOf ss i) k ∧ (rowOf (colS ss k) i).size = 1 := fun i hi => by
    rw [colS_row ss k hi]
    exact sgn_extract _ (by rw [gr_row hg hi]; exact hk)
  have h0 := (hrow 0 (by omega)).2
  refine ⟨gridB_iff.2 ⟨by omega, fun i hi => ?_, by omega, by omega⟩, hl, h0, fun i hi => (hrow i hi).1⟩
  rw [hl] at hi
  rw [h0]
  refine rowB_iff.2 ⟨(hrow i hi).2, fun j hj => ?_⟩
  obtain rfl : j = 0 := by omega
  rw [(hrow i hi).1]
  exact hok.let' i k hi hk

theorem st_ss_nil' (w : World) : St w (w.alloc (.cells #[] 9)) [SS (.slice (some ⟨w.heap.size, 0, none⟩) 0 0) []] :=
  (St.init w).addSeg (World.ownsRow_made w #[] 0 (Nat.le_refl _) (Nat.zero_le _) rfl) ((Below.refl _ _).alloc (Nat.le_refl _) (.cells #[] 9))

set_option maxHeartbeats 2000000 in
theorem l6jColumn_any (ao : Option Addr) (cap : Nat) (ss : List ByteArray) (k : Nat) (w : World) (hx : CellsS w ao ss) (hg : gridB ss = true) (hk : k < (gr ss).m) :
    Calls Try.prog 61 #[.slice ao ss.length cap, .int .i64 k] w fun e w' => ∃ v, e = .returned v ∧ St w w' [SS v (colS ss k)] := by
  have hok := gr_ok hg
  have hn1 : 1 ≤ ss.length := hok.n1
  have hn5 : ss.length ≤ 5 := hok.n5
  have hm5 : (gr ss).m ≤ 5 := hok.m5
  have HR : Hid (∀ i, i < ss.length → (rowOf ss i).size = (gr ss).m) := fun i hi => gr_row hg hi
  generalize (gr ss).m = M at *
  have HX := Lib.hid hx
  have HE : Hid (colTo ss k ss.length = colS ss k) := rfl
  have STA := Lib.hid (st_ss_nil' w)
  clear hx hg hok
  generalize hn : ss.length = n at *
  go_enter Try.func61, Try.ntmps61
  go_wp2_with fail
  go_loopg [5, 6] n (fun kk v5 v6 wr => ∃ (i : Nat) (a : Option Addr) (c : Nat), kk + i = n ∧ v6 = .int .i64 i ∧ v5 = .slice a i c ∧ St w wr [SS (.slice a i c) (colTo ss k i)])
  case atStart => exact ⟨0, _, _, by omega, rfl, rfl, STA.out⟩
  case round =>
    clear STA
    obtain ⟨i, a, c, hi, rfl, rfl, st⟩ := hrel
    by_cases hlt : i < n
    · obtain ⟨b, off, rfl, hcell⟩ := st.oldS HX.out i (by omega)
      have hrs := HR.out i hlt
      have HCS := Lib.hid (colTo_succ ss k i)
      have HCL := Lib.hid (colTo_length ss k i)
      have HCL2 := Lib.hid (colTo_length ss k (i + 1))
      have hk1 : (k : Int) + 1 ≤ (rowOf ss i).size := by omega
      have hk2 : (k : Int) ≤ (rowOf ss i).size := by omega
      generalize rowOf ss i = s at *
      have HS := Lib.hid (st.step ((Below.refl _ _).alloc (Nat.le_refl _) (.cells #[.string (s.extract k (k + 1))] 9)))
      clear st hrs
      go_wp2_with (at_builtin; refine wpPushS _ rfl _ _ rfl w.heap.size _ _ (s.extract k (k + 1)) _ rfl (HS.out.own _ List.mem_cons_self) rfl (cell_one_new _ _ _) (by rw [HCL.out]; omega) ?_; intro v' w4 hbec; have s5 := HS.out.became0 hbec; rw [HCS.out] at s5; obtain ⟨a5, c5, hv⟩ := s5.shapeS 0 rfl; rw [HCL2.out] at hv; subst hv; have HS5 := Lib.hid s5; clear hbec s5)
      go_roundg (gk - 1)
      case rel => exact ⟨i + 1, a5, c5, by omega, by go_num, rfl, HS5.out⟩
      case measure => omega
    · obtain rfl : i = n := by omega
      rw [HE.out] at st
      have HST := Lib.hid st
      clear st
      go_wp2
      go_ret
      exact ⟨_, rfl, by first | exact HST.out | (rw [hn] at HST; exact HST.out)⟩

theorem SS_cap {w : World} {base : Nat} {ao : Option Addr} {n cap : Nat} {ss : List ByteArray} (h : (SS (.slice ao n cap) ss).own w base) : ss.length ≤ cap := by
  rcases h.2 with ⟨hv, hn⟩ | ⟨g, c, cur, hv, hb, hg, hnc, hcm, _⟩
  · have h0 : ss.length = 0 := hn
    omega
  · have hv' : Value.slice ao n cap = .slice (some ⟨g, 0, none⟩) ss.length c := hv
    cases hv'
    exact hnc
set_option maxRecDepth 100000 in
set_option maxHeartbeats 4000000 in
theorem gridPart_col (ao : Option Addr) (cap : Nat) (ss : List ByteArray) (k : Nat) (w : World) (hx : CellsS w ao ss) (hcap : ss.length ≤ cap) (hg : gridB ss = true) (hk : k < (gr ss).m) :
    Calls Try.prog 65 #[.slice ao ss.length cap, .int .i64 0, .int .i64 ((ss.length : Int) - 1), .int .i64 k, .int .i64 k] w fun e w' => ∃ v, e = .returned (.tuple #[v, .bool true]) ∧ St w w' [SS v (colS ss k)] := by
  have hok := gr_ok hg
  have hn1 : 1 ≤ ss.length := hok.n1
  have hn5 : ss.length ≤ 5 := hok.n5
  have hm5 : (gr ss).m ≤ 5 := hok.m5
  have HGI := Lib.hid (iGridIn_any ao cap ss w hx (by unfold maxLen; omega) (by
    intro s hs
    obtain ⟨i, hi, rfl⟩ := List.getElem_of_mem hs
    have h1 := gr_row hg hi
    unfold rowOf at h1
    rw [List.getD_eq_getElem?_getD, List.getElem?_eq_getElem hi] at h1
    have h2 : ss[i].size = (gr ss).m := h1
    unfold maxLen
    omega))
  rw [hg] at HGI
  have HR : Hid (∀ i, i < ss.length → (rowOf ss i).size = (gr ss).m) := fun i hi => gr_row hg hi
  have hm0 : (rowOf ss 0).size = (gr ss).m := rfl
  generalize (gr ss).m = M at *
  obtain ⟨b, off, rfl, hcs, hbb⟩ := hx.at (i := 0) (by omega)
  have hc0 := hcs 0 (by omega)
  rw [Nat.add_zero] at hc0
  have HX := Lib.hid hx
  have HE : Hid (colTo ss k ss.length = colS ss k) := rfl
  have HM0 := Lib.hid hm0
  have STA := Lib.hid (st_ss_nil' w)
  have i1 : inB 0 0 ((ss.length : Int) - 1) = true := inB_iff.2 ⟨by omega, by omega⟩
  have i2 : inB (k : Int) 0 (k : Int) = true := inB_iff.2 ⟨by omega, by omega⟩
  have HI1 := Lib.hid i1
  have HI2 := Lib.hid i2
  have e3 : decide ((rowOf ss 0).size ≤ k) = false := decide_eq_false (by omega)
  have e4 : decide ((ss.length : Int) ≤ (ss.length : Int) - 1) = false := decide_eq_false (by omega)
  clear hx hg hok hcs hm0 i1 i2
  generalize rowOf ss 0 = s0 at *
  generalize hn : ss.length = n at *
  go_enter Try.func65, Try.ntmps65
  go_wp2_with (first | (go_at_call 39; refine HGI.out.mono ?_; rintro e w2 ⟨rfl, rfl⟩) | (go_at_call 63; refine (within_any _ _ _ _).mono ?_; rintro e w2 ⟨rfl, rfl⟩; first | rw [HI1.out] | rw [HI2.out]))
  clear HGI HI1 HI2 e3 e4 hc0
  go_loopg [12, 52] n (fun kk v12 v52 wr => ∃ (i : Nat) (a : Option Addr) (c : Nat), kk + i = n ∧ v52 = .int .i64 i ∧ v12 = .slice a i c ∧ St w wr [SS (.slice a i c) (colTo ss k i)])
  case atStart => exact ⟨0, _, _, by omega, rfl, rfl, STA.out⟩
  case round =>
    clear STA
    obtain ⟨i, a, c, hi, rfl, rfl, st⟩ := hrel
    by_cases hlt : i < n
    · obtain ⟨b', off', he, hcell⟩ := st.oldS HX.out i (by omega)
      cases he
      have hrs := HR.out i hlt
      have HCS := Lib.hid (colTo_succ ss k i)
      have HCL := Lib.hid (colTo_length ss k i)
      have HCL2 := Lib.hid (colTo_length ss k (i + 1))
      have hk1 : (k : Int) + 1 ≤ (rowOf ss i).size := by omega
      have hk2 : (k : Int) ≤ (rowOf ss i).size := by omega
      generalize rowOf ss i = s at *
      have HS := Lib.hid (st.step ((Below.refl _ _).alloc (Nat.le_refl _) (.cells #[.string (s.extract k (k + 1))] 9)))
      clear st hrs
      go_wp2_with (at_builtin; refine wpPushS _ rfl _ _ rfl w.heap.size _ _ (s.extract k (k + 1)) _ rfl (HS.out.own _ List.mem_cons_self) rfl (cell_one_new _ _ _) (by rw [HCL.out]; omega) ?_; intro v' w4 hbec; have s5 := HS.out.became0 hbec; rw [HCS.out] at s5; obtain ⟨a5, c5, hv⟩ := s5.shapeS 0 rfl; rw [HCL2.out] at hv; subst hv; have HS5 := Lib.hid s5; clear hbec s5)
      go_roundg (gk - 1)
      case rel => exact ⟨i + 1, a5, c5, by omega, by go_num, rfl, HS5.out⟩
      case measure => omega
    · have hin : i = n := by omega
      subst i
      rw [HE.out] at st
      have HST := Lib.hid st
      clear st
      go_wp2
      go_ret2
      exact ⟨_, rfl, HST.out⟩
end Go.Proofs.Ytoodfgfbppkbmaa
