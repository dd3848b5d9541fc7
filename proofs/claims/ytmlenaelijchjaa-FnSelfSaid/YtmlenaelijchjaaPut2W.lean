/- Contracts: a grid with another letter in a cell (put, other, mirrorAt). -/
/- Contracts: a grid with another letter in a cell, as the spec puts it (l1Put, l4Exchange, l4Mirror). -/
import Derived.Test.YtmlenaelijchjaaMakeW
import Derived.Test.YtmlenaelijchjaaCellW
import Derived.Lib.ConvBytes
namespace Go.Proofs.Ytmlenaelijchjaa
open Go.RowKit
set_option linter.unusedVariables false
set_option linter.unusedSimpArgs false

theorem exchanged_any (c : Int) (w : World) : Calls Try.prog 18 #[.int .u8 c] w fun e w' => e = .returned (.int .u8 (exch c)) ∧ w = w' := by
  by_cases h1 : c = 114
  · subst h1
    go_enter Try.func18, Try.ntmps18
    go_wp2
    go_ret
    exact ⟨rfl, rfl⟩
  · by_cases h2 : c = 102
    · subst h2
      go_enter Try.func18, Try.ntmps18
      go_wp2
      go_ret
      exact ⟨rfl, rfl⟩
    · have HE := Lib.hid (show exch c = c by simp [exch, h1, h2])
      have k1 : (c == 114) = false := by simp [h1]
      have k2 : (c == 102) = false := by simp [h2]
      clear h1 h2
      go_enter Try.func18, Try.ntmps18
      go_wp2
      go_ret
      exact ⟨by rw [HE.out]; rfl, rfl⟩
theorem put1_any (ao : Option Addr) (cap : Nat) (ss : List ByteArray) (cell : Nat) (L : Int) (r c : Nat) (b7 b4 b5 b3 : Nat) (w : World) (hx : CellsS w ao ss) (hg : gridB ss = true) (hr : r < (gr ss).n) (hc : c < (gr ss).m) (hcell : cell ≤ 1000)
    (h7 : w.cell? ⟨b7, 0, none⟩ = some (.int .i64 ((gr ss).m : Nat))) (h4 : w.cell? ⟨b4, 0, none⟩ = some (.int .i64 cell)) (h5 : w.cell? ⟨b5, 0, none⟩ = some (.int .u8 L)) (h3 : w.cell? ⟨b3, 0, none⟩ = some (.slice ao ss.length cap)) :
    Calls Try.prog 48 #[.int .i64 r, .int .i64 c, .pointer (some ⟨b7, 0, none⟩), .pointer (some ⟨b4, 0, none⟩), .pointer (some ⟨b5, 0, none⟩), .pointer (some ⟨b3, 0, none⟩)] w fun e w' => e = .returned (.int .u8 ((gr ss).putF cell L r c)) ∧ Dr w w' := by
  have hok := gr_ok hg
  have hr2 : r < ss.length := hr
  have hrs := gr_row hg hr2
  have hm5 := hok.m5
  have hn5 := hok.n5
  obtain ⟨b, off, rfl, hcr⟩ := hx r hr2
  have hP : (gr ss).putF cell L r c = if r * (gr ss).m + c = cell then L else sgn (rowOf ss r) c := rfl
  rw [hP]
  have hsg : ∀ h, (((rowOf ss r)[c]'h).toNat : Int) = sgn (rowOf ss r) c := fun h => sgn_eq _ _ h
  generalize sgn (rowOf ss r) c = q at *
  have hcs0 : c < (rowOf ss r).size := by omega
  have hcs : (c : Int) < (rowOf ss r).size := by omega
  have hn : (gr ss).n = ss.length := rfl
  rw [hn] at hn5
  clear hx hg hok hP hrs hn
  generalize rowOf ss r = s at *
  have hsg := hsg hcs0
  have HSG := Lib.hid hsg
  clear hsg
  generalize (gr ss).m = m at *
  have q0 : (0 : Int) ≤ (r : Int) * m := Int.mul_nonneg (by omega) (by omega)
  have q1 : (r : Int) * m ≤ 5 * 5 := Int.mul_le_mul (by omega) (by omega) (by omega) (by omega)
  have hrm : ((r * m : Nat) : Int) = (r : Int) * m := Int.natCast_mul r m
  have HRM := Lib.hid hrm
  clear hrm hr
  by_cases e : r * m + c = cell
  · rw [if_pos e]
    have e1 : ((r : Int) * m + c == cell) = true := by
      have := HRM.out
      rw [beq_iff_eq]
      omega
    clear e
    go_enter Try.func48, Try.ntmps48
    go_wp2
    go_ret
    exact ⟨rfl, Dr.refl _⟩
  · rw [if_neg e]
    have e1 : ((r : Int) * m + c == cell) = false := by
      have := HRM.out
      rw [beq_eq_false_iff_ne]
      omega
    clear e
    go_enter Try.func48, Try.ntmps48
    go_wp2
    go_ret
    exact ⟨ret_int rfl, Dr.refl _⟩

theorem cell_old {B : Nat} {w w' : World} {b : Nat} {v : Value} (h : w.cell? ⟨b, 0, none⟩ = some v) (hb : Below B w w') (hB : w.heap.size ≤ B) : w'.cell? ⟨b, 0, none⟩ = some v :=
  (hb.cell (p := ⟨b, 0, none⟩) (Nat.lt_of_lt_of_le (World.block_lt_of_cell? w _ h) hB)).trans h
theorem st_alloc {w0 W : World} {segs : List Seg} (h : St w0 W segs) (o : Obj) : St w0 (W.alloc o) segs := h.step ((Below.refl _ _).alloc (Nat.le_refl _) o)

theorem put_any (ao : Option Addr) (cap : Nat) (ss : List ByteArray) (cell : Nat) (L : Int) (w : World) (hx : CellsS w ao ss) (hg : gridB ss = true) (hcell : cell ≤ 1000) :
    Calls Try.prog 39 #[.slice ao ss.length cap, .int .i64 cell, .int .u8 L] w fun e w' => ∃ v, e = .returned v ∧ St w w' [SS v (putS ss cell L)] := by
  have hok := gr_ok hg
  have hn1 : 1 ≤ ss.length := hok.n1
  have hn5 : ss.length ≤ 5 := hok.n5
  have hm5 : (rowOf ss 0).size ≤ 5 := hok.m5
  have HX := Lib.hid hx
  have HG := Lib.hid hg
  obtain ⟨b, off, rfl, hc0⟩ := hx 0 (by omega)
  rw [Nat.add_zero] at hc0
  have hW := st_alloc (st_alloc (st_alloc (st_alloc (St.init w) (.cells #[.slice (some ⟨b, off, none⟩) ss.length cap] 23)) (.cells #[.int .i64 cell] 3)) (.cells #[.int .u8 L] 5)) (.cells #[.int .i64 (rowOf ss 0).size] 3)
  have HST := Lib.hid hW
  clear hx hg hok hW
  have hc1 := cell_alloc_lt (o := .cells #[.int .u8 L] 5) (cell_alloc_lt (o := .cells #[.int .i64 cell] 3) (cell_alloc_lt (o := .cells #[.slice (some ⟨b, off, none⟩) ss.length cap] 23) hc0))
  have HM : Hid ((gr ss).m = (rowOf ss 0).size) := rfl
  have HN : Hid ((gr ss).n = ss.length) := rfl
  generalize rowOf ss 0 = s0 at *
  clear hc0
  go_enter Try.func39, Try.ntmps39
  go_wp2_with fail
  obtain ⟨W, hW⟩ : ∃ W, W = (((w.alloc (.cells #[.slice (some ⟨b, off, none⟩) ss.length cap] 23)).alloc (.cells #[.int .i64 cell] 3)).alloc (.cells #[.int .u8 L] 5)).alloc (.cells #[.int .i64 s0.size] 3) := ⟨_, rfl⟩
  have h3 : W.cell? ⟨w.heap.size, 0, none⟩ = some (.slice (some ⟨b, off, none⟩) ss.length cap) := by rw [hW]; simp [go_sem]
  have h4 : W.cell? ⟨w.heap.size + 1, 0, none⟩ = some (.int .i64 cell) := by rw [hW]; simp [go_sem]
  have h5 : W.cell? ⟨w.heap.size + 1 + 1, 0, none⟩ = some (.int .u8 L) := by rw [hW]; simp [go_sem]
  have h7 : W.cell? ⟨w.heap.size + 1 + 1 + 1, 0, none⟩ = some (.int .i64 ((gr ss).m : Nat)) := by rw [hW, HM.out]; simp [go_sem]
  have HST2 := HST.out
  rw [← hW] at HST2 ⊢
  clear hW HST hc1
  refine (make_put_1 W W (fun _ => []) ss.length s0.size ((gr ss).putF cell L) (w.heap.size + 1 + 1 + 1) (w.heap.size + 1) (w.heap.size + 1 + 1) w.heap.size (St.init W) hn5 hm5 ?_).mono ?_
  · intro W2 pre r c hr hc st
    refine (put1_any _ cap ss cell L r c _ _ _ _ W2 (HX.out.below (HST2.below.trans (st.below.mono HST2.size)) (Nat.le_refl _)) HG.out (by rw [HN.out]; exact hr) (by rw [HM.out]; exact hc) hcell (cell_old h7 st.below (Nat.le_refl _)) (cell_old h4 st.below (Nat.le_refl _)) (cell_old h5 st.below (Nat.le_refl _)) (cell_old h3 st.below (Nat.le_refl _))).mono ?_
    rintro e w3 ⟨rfl, hd⟩
    exact ⟨rfl, st.dr hd⟩
  · rintro e w3 ⟨v, rfl, st⟩
    have HP : Hid (gridT ss.length s0.size ((gr ss).putF cell L) = putS ss cell L) := by
      show _ = gridT (gr ss).n (gr ss).m ((gr ss).putF cell L)
      rw [HM.out, HN.out]
    rw [HP.out] at st
    have ST := Lib.hid (HST2.join st)
    clear st HST2 h3 h4 h5 h7
    go_wp2
    go_ret
    exact ⟨_, rfl, ST.out⟩

/-- At a grid: is it a cell? -/
def cellB (ss : List ByteArray) (c : Int) : Bool := gridB ss && inB c 0 (((gr ss).n * (gr ss).m : Nat) - 1)
theorem cellB_nat {ss : List ByteArray} {c : Int} (h : cellB ss c = true) : gridB ss = true ∧ ∃ q : Nat, c = q ∧ q < (gr ss).n * (gr ss).m := by
  simp only [cellB, Bool.and_eq_true, inB_iff] at h
  have := h.2
  exact ⟨h.1, c.toNat, by omega, by omega⟩
theorem cellOk_any (ao : Option Addr) (cap : Nat) (ss : List ByteArray) (c : Int) (w : World) (hx : CellsS w ao ss) (hm : ss.length ≤ maxLen) (hsz : ∀ s ∈ ss, s.size ≤ maxLen) :
    Calls Try.prog 10 #[.slice ao ss.length cap, .int .i64 c] w fun e w' => e = .returned (.bool (cellB ss c)) ∧ w = w' := by
  have HX := Lib.hid hx
  have HGI := Lib.hid (iGridIn_any ao cap ss w hx hm hsz)
  clear hx hsz
  have HD : Hid (cellB ss c = (gridB ss && inB c 0 (((gr ss).n * (gr ss).m : Nat) - 1))) := rfl
  cases hg : gridB ss
  · have HG := Lib.hid hg
    clear hg
    go_enter Try.func10, Try.ntmps10
    go_wp2_with fail
    refine HGI.out.mono ?_
    rintro e w2 ⟨rfl, rfl⟩
    rw [HG.out]
    go_wp2
    go_ret
    exact ⟨ret_bool (by rw [HD.out, HG.out]; rfl), rfl⟩
  · have HG := Lib.hid hg
    have h25 : (gr ss).n * (gr ss).m ≤ 25 := Gr.size_le (gr_ok hg)
    have HPM := Lib.hid (cells_any ao cap ss w HX.out hg)
    clear hg
    generalize (gr ss).n * (gr ss).m = N at *
    go_enter Try.func10, Try.ntmps10
    go_wp2_with fail
    refine HGI.out.mono ?_
    rintro e w2 ⟨rfl, rfl⟩
    rw [HG.out]
    go_wp2_with fail
    refine HPM.out.mono ?_
    rintro e w2 ⟨rfl, rfl⟩
    go_wp2_with fail
    refine (within_any _ _ _ _).mono ?_
    rintro e w2 ⟨rfl, rfl⟩
    go_wp2
    go_ret
    exact ⟨ret_bool (by rw [HD.out, HG.out]; simp), rfl⟩
/-- At a grid: is it a cell with a mirror? -/
def mirB (ss : List ByteArray) (c : Int) : Bool := cellB ss c && !((gr ss).sig c.toNat == 46)
theorem mirrorAt_any (ao : Option Addr) (cap : Nat) (ss : List ByteArray) (c : Int) (w : World) (hx : CellsS w ao ss) (hm : ss.length ≤ maxLen) (hsz : ∀ s ∈ ss, s.size ≤ maxLen) :
    Calls Try.prog 19 #[.slice ao ss.length cap, .int .i64 c] w fun e w' => e = .returned (.bool (mirB ss c)) ∧ Dr w w' := by
  have HC := Lib.hid (cellOk_any ao cap ss c w hx hm hsz)
  have HX := Lib.hid hx
  clear hx hsz
  cases hb : cellB ss c
  · have HB := Lib.hid hb
    have HD := Lib.hid (show mirB ss c = false by simp [mirB, hb])
    clear hb
    go_enter Try.func19, Try.ntmps19
    go_wp2_with fail
    refine HC.out.mono ?_
    rintro e w2 ⟨rfl, rfl⟩
    rw [HB.out]
    go_wp2
    go_ret
    exact ⟨ret_bool (by rw [HD.out]), Dr.refl _⟩
  · have HB := Lib.hid hb
    obtain ⟨hg, q, rfl, hq⟩ := cellB_nat hb
    have HD := Lib.hid (show mirB ss q = !((gr ss).sig q == 46) by simp [mirB, hb])
    have HLA := Lib.hid (letterAt_any ao cap ss q w HX.out hg hq)
    clear hb hg hq
    go_enter Try.func19, Try.ntmps19
    go_wp2_with fail
    refine HC.out.mono ?_
    rintro e w2 ⟨rfl, rfl⟩
    rw [HB.out]
    go_wp2_with fail
    refine HLA.out.mono ?_
    rintro e w2 ⟨rfl, hd⟩
    go_wp2
    go_ret
    exact ⟨ret_bool (by rw [HD.out]; rfl), hd⟩

theorem other_any (ao : Option Addr) (cap : Nat) (ss : List ByteArray) (cell : Nat) (w : World) (hx : CellsS w ao ss) (hg : gridB ss = true) (hc : cell < (gr ss).n * (gr ss).m) :
    Calls Try.prog 21 #[.slice ao ss.length cap, .int .i64 cell] w fun e w' => ∃ v, e = .returned v ∧ St w w' [SS v (putS ss cell (exch ((gr ss).sig cell)))] := by
  have HX := Lib.hid hx
  have HG := Lib.hid hg
  have h25 : (gr ss).n * (gr ss).m ≤ 25 := Gr.size_le (gr_ok hg)
  have HLA := Lib.hid (letterAt_any ao cap ss cell w hx hg hc)
  have hc2 : cell ≤ 1000 := by omega
  clear hx hg hc
  go_enter Try.func21, Try.ntmps21
  go_wp2_with fail
  refine HLA.out.mono ?_
  rintro e w2 ⟨rfl, hd⟩
  go_wp2_with fail
  refine (exchanged_any _ _).mono ?_
  rintro e w3 ⟨rfl, rfl⟩
  have st := (St.init w).dr hd
  go_wp2_with fail
  refine (put_any ao cap ss cell _ _ (st.oldS HX.out) HG.out hc2).mono ?_
  rintro e w3 ⟨v, rfl, s3⟩
  have ST := Lib.hid (st.join s3)
  clear st s3
  go_wp2
  go_ret
  exact ⟨_, rfl, ST.out⟩

theorem bytes_frozen (w : World) (e : TypeId) (s : ByteArray) (j : Nat) (hj : j < s.size) : (Lib.bytesWorld w e s).frozen? ⟨w.heap.size, j, none⟩ = false := by
  have hs : s.size ≤ (Lib.bytesCells w e s).size := by
    show s.data.size ≤ _
    simp [Lib.bytesCells]
  simp [World.frozen?, Lib.bytesWorld_at_new]
  omega
theorem bytes_below (w : World) (e : TypeId) (s : ByteArray) : Below w.heap.size w (Lib.bytesWorld w e s) := by
  refine ⟨rfl, rfl, rfl, by rw [Lib.bytesWorld_size]; omega, fun j hj => Lib.bytesWorld_at_old w e s j hj⟩
theorem bytes_put (w : World) (s : ByteArray) (k : Nat) (L : Int) (hk : k < s.size) :
    (∃ u, (Lib.bytesWorld w 5 s).cell? ⟨w.heap.size, k, none⟩ = some u) ∧ (Lib.bytesWorld w 5 s).frozen? ⟨w.heap.size, k, none⟩ = false ∧
    Below w.heap.size w ((Lib.bytesWorld w 5 s).setCell ⟨w.heap.size, k, none⟩ (.int .u8 L)) ∧
    ∀ cap, (convert 22 9 (.slice (some ⟨w.heap.size, 0, none⟩) s.size cap)).run Try.prog ((Lib.bytesWorld w 5 s).setCell ⟨w.heap.size, k, none⟩ (.int .u8 L)) =
      .ok (.string (rowT s.size fun j => if j = k then L else sgn s j)) ((Lib.bytesWorld w 5 s).setCell ⟨w.heap.size, k, none⟩ (.int .u8 L)) := by
  have hb := bytes_below w 5 s
  refine ⟨⟨_, Lib.bytesWorld_cell w 5 s k hk⟩, bytes_frozen w 5 s k hk, hb.trans ?_, fun cap => ?_⟩
  · exact (Below.refl _ _).setCell (by simp) _
  · refine run_convert_bytes_arg _ _ _ Try.underlying22 Try.underlying5 w.heap.size 0 s.size cap _ (by simp) (fun i hi => ?_) _ Try.underlying9
    rw [Nat.zero_add]
    have hc := Lib.bytesWorld_cell w 5 s i hi
    by_cases e : i = k
    · subst e
      rw [World.cell?_setCell_same _ _ _ hc]
      simp [hi]
    · have hne : (⟨w.heap.size, k, none⟩ : Addr) ≠ ⟨w.heap.size, i, none⟩ := fun h => e (congrArg (fun a : Addr => a.off) h).symm
      rw [World.cell?_setCell_other _ _ _ _ hne, hc]
      simp [hi, e, sgn]

theorem putS_set {ss : List ByteArray} (hg : gridB ss = true) {cell : Nat} (L : Int) (hc : cell < (gr ss).n * (gr ss).m) :
    ss.set (cell / (gr ss).m) (rowT (rowOf ss (cell / (gr ss).m)).size fun j => if j = cell % (gr ss).m then L else sgn (rowOf ss (cell / (gr ss).m)) j) = putS ss cell L := by
  have hok := gr_ok hg
  have hr : cell / (gr ss).m < ss.length := Gr.row_lt hok hc
  rw [gr_row hg hr]
  apply List.ext_getElem
  · rw [List.length_set]
    unfold putS
    rw [gridT_length]
    rfl
  · intro i h1 h2
    rw [List.length_set] at h1
    have e : (putS ss cell L)[i] = rowT (gr ss).m ((gr ss).putF cell L i) := by simp [putS, gridT]
    rw [e, List.getElem_set]
    split
    · rename_i h
      subst h
      refine rowT_congr fun k hk => ?_
      unfold Gr.putF
      have hce := Gr.cell_eq hok cell
      by_cases e2 : k = cell % (gr ss).m
      · rw [if_pos e2, if_pos (by omega)]
      · rw [if_neg e2, if_neg (by omega)]
        rfl
    · rename_i h
      have hr : rowOf ss i = ss[i] := by simp [rowOf, h1]
      rw [← hr]
      refine (rowT_of (rowOf ss i)).symm.trans ?_
      rw [gr_row hg h1]
      refine rowT_congr fun k hk => ?_
      unfold Gr.putF
      rw [if_neg]
      · rfl
      · intro e2
        apply h
        rw [← e2, Gr.div_of hok hk]

theorem SS_at2 {w : World} {base g cap : Nat} {ss : List ByteArray} (h : (SS (.slice (some ⟨g, 0, none⟩) ss.length cap) ss).own w base) {i : Nat} (hi : i < ss.length) :
    w.cell? ⟨g, i, none⟩ = some (.string (rowOf ss i)) ∧ w.frozen? ⟨g, i, none⟩ = false := by
  have hc := World.ownsRow.cellAt h i (by show i < ss.length * 1; omega)
  refine ⟨?_, World.ownsRow.frozenAt h i⟩
  rw [hc]
  simp [rowOf, hi, SS]
theorem SS_blk {w : World} {base : Nat} {v : Value} {ss : List ByteArray} (h : (SS v ss).own w base) (h1 : 1 ≤ ss.length) : ∃ g cap, v = .slice (some ⟨g, 0, none⟩) ss.length cap := by
  rcases h.2 with ⟨hv, hn⟩ | ⟨g, cap, cur, hv, _⟩
  · have h0 : ss.length = 0 := hn
    omega
  · exact ⟨g, cap, hv⟩
theorem st_ss_nil (w : World) : St w (w.alloc (.cells #[] 9)) [SS (.slice (some ⟨w.heap.size, 0, none⟩) 0 0) []] :=
  (St.init w).addSeg (World.ownsRow_made w #[] 0 (Nat.le_refl _) (Nat.zero_le _) rfl) ((Below.refl _ _).alloc (Nat.le_refl _) (.cells #[] 9))
/-- 'append(s, ys...)', s a piece of texts. -/
theorem wpAddS (w : World) {ops : Array Oper} {rest : List Oper} {o : Oper} {a : Act} {Q : Exit → Act → World → Prop}
    (hg : o.guard = none) (sl x : Operand) (ho : o.op = .call { callee := .builtin .append, args := #[sl, x], argTypes := #[23, 23] }) (base : Nat) (v : Value) (xs ys : List ByteArray) (ao : Option Addr) (cap : Nat)
    (hs : a.eval sl = v) (hown : (SS v xs).own w base) (hx : a.eval x = .slice ao ys.length cap) (hc : CellsS w ao ys) (hpos : 0 < ys.length) (hl : xs.length + ys.length ≤ 4194304)
    (hK : ∀ v' w', Became w w' base (SS v xs) (SS v' (xs ++ ys)) → wpList Try.prog ops Q rest (a.put o.dst v') w') : wpList Try.prog ops Q (o :: rest) a w := by
  obtain ⟨b, off, rfl, hcc, _⟩ := hc.at hpos
  refine wpAppendSt elemS w hg sl x ho base (SS v xs) rfl rfl hs hown ⟨b, off, none⟩ ys.length cap (ys.map Value.string) hx (by simp) (fun j u hu => ?_) ?_ (by simp only [SS]; unfold maxLen; omega) (by simp only [SS]; omega) ?_
  · rw [List.getElem?_map] at hu
    obtain ⟨y, hy, rfl⟩ := Option.map_eq_some_iff.1 hu
    obtain ⟨hj, rfl⟩ := List.getElem?_eq_some_iff.1 hy
    rw [Go.WideShapes.add_plain, hcc j hj]
    simp [rowOf, hj]
  · intro u hu
    obtain ⟨q, _, rfl⟩ := List.mem_map.1 hu
    rfl
  · intro v' w' hb
    refine hK v' w' ?_
    have e : (⟨v', 9, 1, xs.length + ys.length, xs.map Value.string ++ ys.map Value.string⟩ : Seg) = SS v' (xs ++ ys) := by simp [SS]
    rw [← e]
    exact hb

theorem l4Given_any (ao : Option Addr) (cap : Nat) (ss : List ByteArray) (c : Int) (w : World) (hx : CellsS w ao ss) (hm : ss.length ≤ maxLen) (hsz : ∀ s ∈ ss, s.size ≤ maxLen) :
    Calls Try.prog 12 #[.slice ao ss.length cap, .int .i64 c] w fun e w' => e = .returned (.bool (cellB ss c)) ∧ Dr w w' := by
  have HGI := Lib.hid (sGridIn_any ao cap ss w hx hm hsz)
  clear hsz
  have HD : Hid (cellB ss c = (gridB ss && inB c 0 (((gr ss).n * (gr ss).m : Nat) - 1))) := rfl
  cases hg : gridB ss
  · have HG := Lib.hid hg
    clear hg
    go_enter Try.func12, Try.ntmps12
    go_wp2_with fail
    refine HGI.out.mono ?_
    rintro e w2 ⟨rfl, hd⟩
    rw [HG.out]
    go_wp2
    go_ret
    exact ⟨ret_bool (by rw [HD.out, HG.out]; rfl), hd⟩
  · have hok := gr_ok hg
    have HG := Lib.hid hg
    have hn1 : 1 ≤ ss.length := hok.n1
    have hn5 : ss.length ≤ 5 := hok.n5
    have hm1 : 1 ≤ (rowOf ss 0).size := hok.m1
    have hm5 : (rowOf ss 0).size ≤ 5 := hok.m5
    have q0 : (0 : Int) ≤ (ss.length : Int) * (rowOf ss 0).size := Int.mul_nonneg (by omega) (by omega)
    have q1 : (ss.length : Int) * (rowOf ss 0).size ≤ 5 * 5 := Int.mul_le_mul (by omega) (by omega) (by omega) (by omega)
    have HP : Hid ((((gr ss).n * (gr ss).m : Nat) : Int) = (ss.length : Int) * (rowOf ss 0).size) := Int.natCast_mul ss.length (rowOf ss 0).size
    clear hg hok
    generalize (gr ss).n * (gr ss).m = N at *
    go_enter Try.func12, Try.ntmps12
    go_wp2_with fail
    refine HGI.out.mono ?_
    rintro e w2 ⟨rfl, hd⟩
    rw [HG.out]
    obtain ⟨b, off, rfl, hc, hbb⟩ := (hx.dr hd).at (i := 0) (by omega)
    have hc0 := hc 0 (by omega)
    rw [Nat.add_zero] at hc0
    clear hc hx
    go_wp2_with fail
    refine (l6In_any _ _ _ _).mono ?_
    rintro e w3 ⟨rfl, rfl⟩
    go_wp2
    go_ret
    exact ⟨ret_bool (by rw [HD.out, HG.out, HP.out]; simp), hd⟩
end Go.Proofs.Ytmlenaelijchjaa
