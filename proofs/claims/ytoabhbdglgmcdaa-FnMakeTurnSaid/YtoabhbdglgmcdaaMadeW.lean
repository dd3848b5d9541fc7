/- Contracts: the grids that have a pairing (made$1, allGrids, made). -/
import Derived.Test.YtoabhbdglgmcdaaMakeAW
import Derived.Test.YtoabhbdglgmcdaaMadeL
import Derived.Deep.RegionHeld3
namespace Go.Proofs.Ytoabhbdglgmcdaa
open Go.RowKit
set_option linter.unusedVariables false
set_option linter.unusedSimpArgs false

/-- A slice of grids. -/
def GL (v : Value) (vals : List Value) : Seg := ⟨v, 28, 1, vals.length, vals⟩
theorem glInfo : (Try.prog.info? 28).map (fun i => (i.zero, i.size, i.bytes)) = some (some (.slice none 0 0), 1, 24) := by kernel_rfl
theorem elemGL : Elem Try.prog 46 28 1 24 (.slice none 0 0) := ⟨Try.underlying46, glInfo, rfl, by decide⟩
theorem wpPushGL (w : World) {ops : Array Oper} {rest : List Oper} {o : Oper} {a : Act} {Q : Exit → Act → World → Prop}
    (hg : o.guard = none) (sl x : Operand) (ho : o.op = .call { callee := .builtin .append, args := #[sl, x], argTypes := #[46, 46] }) (base : Nat) (v : Value) (vals : List Value) (y : Value) (ad : Addr)
    (hs : a.eval sl = v) (hown : (GL v vals).own w base) (hx : a.eval x = .slice (some ad) 1 1) (hc : ∀ (j : Nat) (u : Value), [y][j]? = some u → w.cell? (ad.add j) = some u) (hy : y.oneCell' = true) (hl : vals.length ≤ 4194304)
    (hK : ∀ v' w', Became w w' base (GL v vals) (GL v' (vals ++ [y])) → wpList Try.prog ops Q rest (a.put o.dst v') w') : wpList Try.prog ops Q (o :: rest) a w := by
  refine wpAppendSt elemGL w hg sl x ho base (GL v vals) rfl rfl hs hown ad 1 1 [y] hx rfl hc ?_ (by simp only [GL]; unfold maxLen; omega) (by simp only [GL]; omega) ?_
  · intro u hu
    simp at hu
    rw [hu]; exact hy
  · intro v' w' hb
    refine hK v' w' ?_
    have e : (⟨v', 28, 1, vals.length + 1, vals ++ [y]⟩ : Seg) = GL v' (vals ++ [y]) := by simp [GL]
    rw [← e]
    exact hb
theorem GL_shape {w : World} {base : Nat} {v : Value} {L : List Value} (h : (GL v L).own w base) : ∃ ao cap, v = .slice ao L.length cap := by
  rcases id h.2 with ⟨h1, h2⟩ | ⟨g, cap, cur, h1, _⟩
  · exact ⟨none, 0, by rw [show v = _ from h1, show L.length = 0 from h2]⟩
  · exact ⟨_, _, h1⟩
theorem GL_cells {w : World} {base : Nat} {v : Value} {L : List Value} (h : (GL v L).own w base) (hne : L ≠ []) : ∃ g cap, v = .slice (some ⟨g, 0, none⟩) L.length cap ∧ ∀ j (hj : j < L.length), w.cell? ⟨g, j, none⟩ = some L[j] := by
  rcases id h.2 with ⟨h1, h2⟩ | ⟨g, cap, cur, h1, hb, hg, hnc, hcm, _⟩
  · exact absurd (List.eq_nil_of_length_eq_zero h2) hne
  · have h1 : v = .slice (some ⟨g, 0, none⟩) L.length cap := h1
    subst h1
    refine ⟨g, cap, rfl, fun j hj => ?_⟩
    have hc := World.ownsRow.cellAt h j (by show j < L.length * 1; omega)
    rw [hc]
    exact List.getElem?_eq_getElem hj
/-- A box with one value. -/
def BX (g : Nat) (ty : TypeId) (v : Value) : Seg := ⟨.slice (some ⟨g, 0, none⟩) 1 1, ty, 1, 1, [v]⟩
theorem BX_cell {w : World} {base g : Nat} {ty : TypeId} {v : Value} (h : (BX g ty v).own w base) : w.cell? ⟨g, 0, none⟩ = some v ∧ w.frozen? ⟨g, 0, none⟩ = false :=
  ⟨World.ownsRow.cellAt h 0 (by show 0 < 1 * 1; omega), World.ownsRow.frozenAt h 0⟩
theorem BX_put {w : World} {base g : Nat} {ty : TypeId} {v : Value} (h : (BX g ty v).own w base) (u : Value) :
    Became w (w.setCell ⟨g, 0, none⟩ u) base (BX g ty v) (BX g ty u) := by
  have h1 := World.ownsRow.stored h 0 u
  exact .inl ⟨rfl, h1.1, h1.2⟩
theorem BX_new (w : World) (ty : TypeId) (v : Value) : (BX w.heap.size ty v).own (w.alloc (.cells #[v] ty)) w.heap.size :=
  World.ownsRow_lit w #[v] 1 (Nat.le_refl _) (by unfold maxLen; omega) rfl
theorem Apart.symm' {s t : Seg} (h : Apart s t) : Apart t s := ⟨h.2, h.1⟩
theorem St.perm {w0 W : World} {a b : List Seg} (h : St w0 W a) (hp : a.Perm b) : St w0 W b :=
  ⟨h.below, fun s hs => h.own s (hp.mem_iff.2 hs), hp.pairwise h.apart Apart.symm'⟩
theorem St.subm {w0 W : World} {a b : List Seg} (h : St w0 W a) (hs : List.Sublist b a) : St w0 W b :=
  ⟨h.below, fun s hs2 => h.own s (hs.subset hs2), h.apart.sublist hs⟩

set_option maxRecDepth 100000 in
set_option maxHeartbeats 4000000 in
theorem made1_any (w0 w : World) (b5 b8 : Nat) (a : Option Addr) (c : Nat) (ss : List ByteArray) (ao : Option Addr) (cap : Nat) (xs : List Int) (lv : Value) (vals : List Value) (olds : List Seg) (B : Bool)
    (h : St w0 w (SS (.slice a ss.length c) ss :: BX b8 46 lv :: GL lv vals :: BX b5 22 (.slice ao xs.length cap) :: olds))
    (hg : gridB ss = true) (hx : CellsI w0 ao xs) (hl : (beamsB ss).length = xs.length) (hm : xs.length ≤ 1000) (hv : vals.length ≤ 1000000) (hB : eqL (beamsB ss) xs = B) :
    Calls Try.prog 54 #[.slice a ss.length c, .pointer (some ⟨b5, 0, none⟩), .pointer (some ⟨b8, 0, none⟩)] w fun e w' => e = .returned (.tuple #[]) ∧ ∃ lv', St w0 w' (if B = true then BX b8 46 lv' :: GL lv' (vals ++ [.slice a ss.length c]) :: BX b5 22 (.slice ao xs.length cap) :: SS (.slice a ss.length c) ss :: olds else BX b8 46 lv' :: GL lv' vals :: BX b5 22 (.slice ao xs.length cap) :: olds) := by
  obtain ⟨segs, hsegs⟩ : ∃ s, s = SS (.slice a ss.length c) ss :: BX b8 46 lv :: GL lv vals :: BX b5 22 (.slice ao xs.length cap) :: olds := ⟨_, rfl⟩
  have HPS : Hid (∀ k, Calls Try.prog 47 #[.slice a ss.length c] (w.drewN k) fun e w' => ∃ a2 c2, e = .returned (.slice a2 xs.length c2) ∧ St w0 w' (SI (.slice a2 xs.length c2) (beamsB ss) :: segs)) := fun k => by
    have st := h.dr ⟨k, rfl⟩
    refine (pairsOf_any a c ss _ (st.texts 0 rfl) hg).mono ?_
    rintro e w' ⟨v, rfl, st2⟩
    have st3 := st.join st2
    rw [← beams_eq hg, ← hsegs] at st3
    obtain ⟨a2, c2, hv⟩ := St.shapeI0 st3
    rw [hl] at hv
    subst hv
    exact ⟨a2, c2, rfl, st3⟩
  have HEQ : Hid (∀ W a2 c2, St w0 W (SI (.slice a2 xs.length c2) (beamsB ss) :: segs) → Calls Try.prog 55 #[.slice a2 xs.length c2, .slice ao xs.length cap] W fun e w' => e = .returned (.bool B) ∧ St w0 w' segs) := fun W a2 c2 st => by
    have h1 := equal_any a2 ao c2 cap (beamsB ss) xs W (st.cells 0 rfl) (st.old hx) hl (by omega)
    rw [hl, hB] at h1
    refine h1.mono ?_
    rintro e w' ⟨rfl, hd⟩
    exact ⟨rfl, (st.dr hd).drop0⟩
  have HSG := Lib.hid hsegs
  have HC5 : Hid (∀ W, St w0 W segs → W.cell? ⟨b5, 0, none⟩ = some (.slice ao xs.length cap)) := fun W st => by
    rw [hsegs] at st
    exact (BX_cell (st.own (BX b5 22 (.slice ao xs.length cap)) (by simp))).1
  have HC8 : Hid (∀ W, St w0 W segs → W.cell? ⟨b8, 0, none⟩ = some lv) := fun W st => by
    rw [hsegs] at st
    exact (BX_cell (st.own (BX b8 46 lv) (by simp))).1
  rw [← hsegs] at h
  have HC := Lib.hid (HC5.out _ h)
  clear hx hl hB hg hsegs h
  generalize beamsB ss = bs at *
  generalize ss.length = ln at *
  generalize xs.length = lx at *
  cases B
  · go_enter Try.func54, Try.ntmps54
    go_wp2_with fail
    go_region_held3 (fun W => W.cell? ⟨b5, 0, none⟩ = some (.slice ao lx cap)) (first | exact HC.out | exact HC9.out | exact HC10.out) (first | ((go_at_call 47; refine (HPS.out _).mono ?_; rintro e w9 ⟨a2, c2, rfl, st9⟩; have HC9 := Lib.hid (HC5.out _ st9.drop0); have ST9 := Lib.hid st9; clear st9)) | ((go_at_call 55; refine (HEQ.out _ _ _ (by first | exact ST9.out | exact ST9.out.dr ⟨_, rfl⟩)).mono ?_; rintro e w10 ⟨rfl, st10⟩; have HC10 := Lib.hid (HC5.out _ st10); have ST10 := Lib.hid st10; clear st10)))
    all_goals
      have st := ST10.out
      rw [HSG.out] at st
      have hf : St w0 w10 (if false = true then BX b8 46 lv :: GL lv (vals ++ [.slice a ln c]) :: BX b5 22 (.slice ao lx cap) :: SS (.slice a ln c) ss :: olds else BX b8 46 lv :: GL lv vals :: BX b5 22 (.slice ao lx cap) :: olds) := st.drop0
      have HF := Lib.hid hf
      clear st hf
      go_wp2
      first | (go_ret; exact ⟨rfl, _, HF.out⟩) | exact ⟨rfl, .tuple #[], by simp [results, Try.results54, go_sem], rfl, _, HF.out⟩
  · go_enter Try.func54, Try.ntmps54
    go_wp2_with fail
    go_region_held3 (fun W => W.cell? ⟨b5, 0, none⟩ = some (.slice ao lx cap)) (first | exact HC.out | exact HC9.out | exact HC10.out) (first | ((go_at_call 47; refine (HPS.out _).mono ?_; rintro e w9 ⟨a2, c2, rfl, st9⟩; have HC9 := Lib.hid (HC5.out _ st9.drop0); have ST9 := Lib.hid st9; clear st9)) | ((go_at_call 55; refine (HEQ.out _ _ _ (by first | exact ST9.out | exact ST9.out.dr ⟨_, rfl⟩)).mono ?_; rintro e w10 ⟨rfl, st10⟩; have HC10 := Lib.hid (HC5.out _ st10); have ST10 := Lib.hid st10; clear st10)))
    all_goals
      have c8 := HC8.out _ ST10.out
      have st := ST10.out
      rw [HSG.out] at st
      have st6 := st_alloc st (.cells #[.slice a ln c] 28)
      have ST6 := Lib.hid st6
      clear st st6
      go_wp2_with (at_builtin; refine wpPushGL _ rfl _ _ rfl w0.heap.size _ vals (.slice a ln c) _ rfl (ST6.out.own _ (List.mem_cons_of_mem _ (List.mem_cons_of_mem _ List.mem_cons_self))) rfl (cell_one_new _ _ _) rfl (by omega) ?_; intro v' w4 hbec; have st7 := ST6.out.became2 hbec; obtain ⟨a7, c7, hv7⟩ := GL_shape (st7.own _ (List.mem_cons_of_mem _ (List.mem_cons_of_mem _ List.mem_cons_self))); rw [List.length_append, List.length_singleton] at hv7; subst hv7; clear hbec; have c9 := BX_cell (st7.own _ (List.mem_cons_of_mem _ List.mem_cons_self)); have d8 := c9.1; have d9 := c9.2; have ST7 := Lib.hid st7; clear st7 c9 c8)
      have hp := St.became [_] _ _ _ ST7.out (BX_put (ST7.out.own _ (List.mem_cons_of_mem _ List.mem_cons_self)) (.slice a7 (vals.length + 1) c7))
      have hf : St w0 (w4.setCell ⟨b8, 0, none⟩ (.slice a7 (vals.length + 1) c7)) (BX b8 46 (.slice a7 (vals.length + 1) c7) :: GL (.slice a7 (vals.length + 1) c7) (vals ++ [.slice a ln c]) :: BX b5 22 (.slice ao lx cap) :: SS (.slice a ln c) ss :: olds) := by
        refine St.perm hp ?_
        exact (List.perm_middle (a := SS (.slice a ln c) ss) (l₁ := [_, _, _]) (l₂ := olds)).symm
      have HF := Lib.hid hf
      clear hp hf
      first | (go_ret; exact ⟨rfl, _, HF.out⟩) | exact ⟨rfl, .tuple #[], by simp [results, Try.results54, go_sem], rfl, _, HF.out⟩

/-- The grids gathered so far. -/
def MS (w0 W : World) (n m : Nat) (xs : List Int) (b5 b8 : Nat) (pv : Value) (j : Nat) : Prop :=
  ∃ (lv : Value) (Z : List (Value × Nat)), St w0 W (BX b8 46 lv :: GL lv (Z.map Prod.fst) :: BX b5 22 pv :: (Z.map fun z => SS z.1 (gN n m z.2)).reverse) ∧ Z.map Prod.snd = madeTo n m xs j
theorem madeM_any (w0 w w' : World) (n m b5 b8 j : Nat) (ao : Option Addr) (cap : Nat) (xs : List Int) (v : Value) (hM : MS w0 w n m xs b5 b8 (.slice ao xs.length cap) j) (st : St w w' [SS v (gN n m j)])
    (hn1 : 1 ≤ n) (hn5 : n ≤ 5) (hm1 : 1 ≤ m) (hm5 : m ≤ 5) (hx : CellsI w0 ao xs) (hl : xs.length = 2 * n + 2 * m) (hj : j ≤ 1000) :
    Calls Try.prog 54 #[v, .pointer (some ⟨b5, 0, none⟩), .pointer (some ⟨b8, 0, none⟩)] w' fun e w'' => e = .returned (.tuple #[]) ∧ MS w0 w'' n m xs b5 b8 (.slice ao xs.length cap) (j + 1) := by
  obtain ⟨lv, Z, h, hZ⟩ := hM
  have h2 := h.join st
  obtain ⟨a, c, rfl⟩ := h2.shapeS 0 rfl
  have hg := gN_ok (n := n) (m := m) j hn1 hn5 hm1 hm5
  have hle := madeTo_le n m xs j
  rw [← hZ, List.length_map] at hle
  refine (made1_any w0 w' b5 b8 a c (gN n m j) ao cap xs lv (Z.map Prod.fst) _ (hasB n m xs j) h2 hg hx ?_ ?_ (by rw [List.length_map]; omega) rfl).mono ?_
  · rw [beams_len hg, hl]
    unfold Gr.ports
    rw [gN_n, gN_m j hn1]
    all_goals omega
  · omega
  · rintro e w3 ⟨rfl, lv', st3⟩
    refine ⟨rfl, lv', ?_⟩
    cases hB : hasB n m xs j
    · rw [hB] at st3
      exact ⟨Z, st3, by rw [hZ, madeTo_no hB]⟩
    · rw [hB] at st3
      refine ⟨Z ++ [(.slice a (gN n m j).length c, j)], ?_, by rw [List.map_append, hZ, madeTo_yes hB]; rfl⟩
      rw [List.map_append, List.map_append, List.reverse_append]
      exact st3

set_option maxRecDepth 100000 in
set_option maxHeartbeats 4000000 in
theorem allGrids_any (w0 w : World) (n m b5 b8 : Nat) (ao : Option Addr) (cap : Nat) (xs : List Int) (hM : MS w0 w n m xs b5 b8 (.slice ao xs.length cap) 0)
    (hn1 : 1 ≤ n) (hn5 : n ≤ 5) (hm1 : 1 ≤ m) (hm5 : m ≤ 5) (h6 : n * m ≤ 6) (hx : CellsI w0 ao xs) (hl : xs.length = 2 * n + 2 * m) :
    Calls Try.prog 53 #[.int .i64 n, .int .i64 m, .func (.func 54) #[] #[.pointer (some ⟨b5, 0, none⟩), .pointer (some ⟨b8, 0, none⟩)]] w fun e w' => e = .returned (.tuple #[]) ∧ MS w0 w' n m xs b5 b8 (.slice ao xs.length cap) (3 ^ (n * m)) := by
  have HP : Hid (∀ i, 3 ^ (i + 1) = 3 ^ i * 3) := fun i => Nat.pow_succ 3 i
  have HB3 : Hid (∀ i, i ≤ n * m → 3 ^ i ≤ 729) := fun i hi => Nat.le_trans (Nat.pow_le_pow_right (by decide) (show i ≤ 6 by omega)) (by decide)
  have HGO : Hid (∀ (j : Nat) (W : World), j < 3 ^ (n * m) → MS w0 W n m xs b5 b8 (.slice ao xs.length cap) j → Calls Try.prog 73 #[.int .i64 n, .int .i64 m, .int .i64 j] W fun e w' => ∃ v, e = .returned (.tuple #[v, .bool true]) ∧
      Calls Try.prog 54 #[v, .pointer (some ⟨b5, 0, none⟩), .pointer (some ⟨b8, 0, none⟩)] w' fun e w'' => e = .returned (.tuple #[]) ∧ MS w0 w'' n m xs b5 b8 (.slice ao xs.length cap) (j + 1)) := fun j W hj hMj => by
    have h1 := HB3.out (n * m) (Nat.le_refl _)
    have hN : ofNB n m j = true := by
      have e : ((3 ^ (n * m) : Nat) : Int) = 3 ^ (n * m) := by simp
      simp only [ofNB, Int.toNat_natCast, Bool.and_eq_true, inB_iff, decide_eq_true_iff]
      exact ⟨⟨⟨by omega, by omega⟩, by omega⟩, by omega⟩
    have hL : ofNL n m j = gN n m j := by simp only [ofNL, hN, if_true, Int.toNat_natCast]; rfl
    refine (iGridOf_any n m j W (by omega)).mono ?_
    rintro e w3 ⟨v, rfl, st⟩
    rw [hL] at st
    exact ⟨v, by rw [hN], madeM_any w0 W w3 n m b5 b8 j ao cap xs v hMj st hn1 hn5 hm1 hm5 hx hl (by omega)⟩
  have HM := Lib.hid hM
  have e6 : (n : Int) * (m : Int) = ((n * m : Nat) : Int) := (Int.natCast_mul _ _).symm
  clear hM hx hl
  generalize n * m = N at *
  go_enter Try.func53, Try.ntmps53
  go_wp2_with fail
  go_loopw [6, 13] (fun v6 v13 wr => ∃ i : Nat, v6 = .int .i64 ((3 ^ i : Nat) : Int) ∧ v13 = .int .i64 i ∧ i ≤ N ∧ w = wr) (fun _ v13 _ => N - (intOf v13).toNat)
  case atStart => exact ⟨0, rfl, rfl, Nat.zero_le _, rfl⟩
  case round =>
    obtain ⟨i, rfl, rfl, hi, rfl⟩ := hrel
    by_cases hlt : i < N
    · have h1 := HP.out i
      have h2 := HB3.out i (by omega)
      have h3 : ((3 ^ (i + 1) : Nat) : Int) = ((3 ^ i : Nat) : Int) * 3 := by rw [h1]; exact Int.natCast_mul _ _
      have H3 := Lib.hid h3
      have h4 : (0 : Int) ≤ ((3 ^ i : Nat) : Int) := Int.natCast_nonneg _
      have h5 : ((3 ^ i : Nat) : Int) ≤ 729 := Int.ofNat_le.2 h2
      clear h1 h2 h3
      generalize ((3 ^ i : Nat) : Int) = q at *
      go_wp2
      go_roundw
      case rel => exact ⟨i + 1, by rw [H3.out], by go_num, by omega, by first | rfl | trivial⟩
      case measure => simp [intOf]; omega
    · obtain rfl : i = N := by omega
      have h2 := HB3.out i (Nat.le_refl _)
      generalize hT : 3 ^ i = T at *
      have HT := Lib.hid hT
      clear hlt hi hT
      go_wp2_with fail
      go_loopw [19] (fun v19 wr => ∃ j : Nat, v19 = .int .i64 j ∧ j ≤ T ∧ MS w0 wr n m xs b5 b8 (.slice ao xs.length cap) j) (fun v19 _ => T - (intOf v19).toNat)
      case atStart => exact ⟨0, rfl, Nat.zero_le _, HM.out⟩
      case round =>
        obtain ⟨j, rfl, hj, hMj⟩ := hrel
        have HMJ := Lib.hid hMj
        clear hMj HM
        by_cases hlt : j < T
        · go_wp2_with fail
          refine (HGO.out j _ hlt HMJ.out).mono ?_
          rintro e w3 ⟨v, rfl, hcl⟩
          have HCL := Lib.hid hcl
          clear hcl
          go_wp2_with fail
          refine HCL.out.mono ?_
          rintro e w4 ⟨rfl, hM2⟩
          have HM2 := Lib.hid hM2
          clear hM2
          go_wp2
          go_roundw
          case rel => exact ⟨j + 1, by go_num, by omega, HM2.out⟩
          case measure => simp [intOf]; omega
        · obtain rfl : j = T := by omega
          go_wp2
          first | (go_ret; exact ⟨rfl, by rw [HT.out]; exact HMJ.out⟩) | exact ⟨rfl, .tuple #[], by simp [results, Try.results53, go_sem], rfl, by rw [HT.out]; exact HMJ.out⟩

/-- What the program gathers. -/
noncomputable def madeR (n m : Int) (xs : List Int) : List Nat := if givenB n m xs = true then madeL n.toNat m.toNat xs else []
theorem GL_nil (w0 w : World) (h : St w0 w []) : St w0 w [GL (.slice none 0 0) []] :=
  ⟨h.below, fun s hs => by rw [List.mem_singleton.1 hs]; exact World.ownsRow_nil _ _ _ _, List.pairwise_singleton _ _⟩
set_option maxRecDepth 100000 in
set_option maxHeartbeats 4000000 in
theorem made_any (n m : Int) (ao : Option Addr) (cap : Nat) (xs : List Int) (w : World) (hx : CellsI w ao xs) (hm : xs.length ≤ maxLen) :
    Calls Try.prog 36 #[.int .i64 n, .int .i64 m, .slice ao xs.length cap] w fun e w' => ∃ (lv : Value) (Z : List (Value × Nat)), e = .returned (.tuple #[lv, .bool (givenB n m xs)]) ∧ St w w' (GL lv (Z.map Prod.fst) :: (Z.map fun z => SS z.1 (gN n.toNat m.toNat z.2)).reverse) ∧ Z.map Prod.snd = madeR n m xs := by
  have hx1 : CellsI (w.alloc (.cells #[.slice ao xs.length cap] 22)) ao xs := (st_alloc (St.init w) _).old hx
  have hc1 : (w.alloc (.cells #[.slice ao xs.length cap] 22)).cell? ⟨w.heap.size, 0, none⟩ = some (.slice ao xs.length cap) := by simp [go_sem]
  have HNO : Hid (givenB n m xs = false → St w (w.alloc (.cells #[.slice ao xs.length cap] 22)) (GL (.slice none 0 0) (([] : List (Value × Nat)).map Prod.fst) :: ((([] : List (Value × Nat)).map fun z => SS z.1 (gN n.toNat m.toNat z.2)).reverse)) ∧ (([] : List (Value × Nat)).map Prod.snd) = madeR n m xs) := fun h => ⟨GL_nil _ _ (st_alloc (St.init w) _), by simp [madeR, h]⟩
  cases h1 : smallB n m
  · have HB := Lib.hid (show givenB n m xs = false by simp only [givenB]; rw [h1]; rfl)
    have H1 := Lib.hid h1
    clear h1 hx hx1
    go_enter Try.func36, Try.ntmps36
    go_wp2_with (go_at_call 52; refine (fewOk_any _ _ _).mono ?_; rintro e w' ⟨rfl, rfl⟩; rw [H1.out])
    go_ret2
    exact ⟨_, [], by rw [HB.out]; rfl, (HNO.out HB.out).1, (HNO.out HB.out).2⟩
  · cases h2 : ofB n m xs
    · have HB := Lib.hid (show givenB n m xs = false by simp only [givenB]; rw [h1, h2]; rfl)
      have H1 := Lib.hid h1
      have H2 := Lib.hid h2
      have HPO := Lib.hid (pairingOk_any n m ao cap xs _ hx1 hm)
      clear h1 h2 hx hx1
      go_enter Try.func36, Try.ntmps36
      go_wp2_with (first | (go_at_call 52; refine (fewOk_any _ _ _).mono ?_; rintro e w' ⟨rfl, rfl⟩; rw [H1.out]) | (go_at_call 41; refine HPO.out.mono ?_; rintro e w' ⟨rfl, rfl⟩; rw [H2.out]))
      go_ret2
      exact ⟨_, [], by rw [HB.out]; rfl, (HNO.out HB.out).1, (HNO.out HB.out).2⟩
    · have HB := Lib.hid (show givenB n m xs = true by simp only [givenB]; rw [h1, h2]; rfl)
      have HR := Lib.hid (show madeR n m xs = madeL n.toNat m.toNat xs by simp only [madeR]; rw [HB.out]; rfl)
      have hs := smallB_iff.1 h1
      have ho := ofB_iff.1 h2
      have H1 := Lib.hid h1
      have H2 := Lib.hid h2
      have HPO := Lib.hid (pairingOk_any n m ao cap xs _ hx1 hm)
      clear h1 h2
      obtain ⟨n, rfl⟩ := Int.eq_ofNat_of_zero_le (show 0 ≤ n by omega)
      obtain ⟨m, rfl⟩ := Int.eq_ofNat_of_zero_le (show 0 ≤ m by omega)
      have h6 : n * m ≤ 6 := by have := hs.2.2.2.2; rw [← Int.natCast_mul] at this; omega
      have hlx : xs.length = 2 * n + 2 * m := by have := ho.2.2.2.2.1; omega
      have st1 : St w (w.alloc (.cells #[.slice ao xs.length cap] 22)) [BX w.heap.size 22 (.slice ao xs.length cap)] := (St.init w).addSeg (BX_new w _ _) ((Below.refl _ _).alloc (Nat.le_refl _) _)
      have st2 := st1.addSeg (s := GL (.slice (some ⟨(w.alloc (.cells #[.slice ao xs.length cap] 22)).heap.size, 0, none⟩) 0 0) []) (World.ownsRow_made _ #[] 0 (Nat.le_refl _) (Nat.zero_le _) rfl) ((Below.refl _ _).alloc (Nat.le_refl _) (.cells #[] 28))
      rw [World.size_alloc] at st2
      have st3 := st2.addSeg (BX_new _ 46 (.slice (some ⟨w.heap.size + 1, 0, none⟩) 0 0)) ((Below.refl _ _).alloc (Nat.le_refl _) _)
      rw [World.size_alloc, World.size_alloc] at st3
      have hM : MS w (((w.alloc (.cells #[.slice ao xs.length cap] 22)).alloc (.cells #[] 28)).alloc (.cells #[.slice (some ⟨w.heap.size + 1, 0, none⟩) 0 0] 46)) n m xs w.heap.size (w.heap.size + 1 + 1) (.slice ao xs.length cap) 0 := ⟨_, [], st3, rfl⟩
      have HM := Lib.hid hM
      have HAL := Lib.hid (allGrids_any w _ n m w.heap.size (w.heap.size + 1 + 1) ao cap xs hM (by omega) (by omega) (by omega) (by omega) h6 hx hlx)
      clear st1 st2 st3 hM hx hx1 hs ho hlx hc1
      go_enter Try.func36, Try.ntmps36
      go_wp2_with (go_at_call 52; refine (fewOk_any _ _ _).mono ?_; rintro e w' ⟨rfl, rfl⟩; rw [H1.out])
      refine HPO.out.mono ?_
      rintro e w' ⟨rfl, rfl⟩
      rw [H2.out]
      go_wp2_with fail
      refine HAL.out.mono ?_
      rintro e w5 ⟨rfl, lv, Z, st5, hZ⟩
      have c8 := (BX_cell (st5.own _ List.mem_cons_self)).1
      have ST5 := Lib.hid st5
      have HZ := Lib.hid hZ
      clear st5 hZ
      go_wp2
      go_ret2
      exact ⟨lv, Z, by rw [HB.out]; rfl, (ST5.out.drop0).drop1, by rw [HR.out, HZ.out]; rfl⟩
end Go.Proofs.Ytoabhbdglgmcdaa
