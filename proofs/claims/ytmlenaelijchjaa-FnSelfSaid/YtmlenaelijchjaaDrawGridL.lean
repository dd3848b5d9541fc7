/- Contracts: the reader of a code (l6Open, pick): what it draws lies in its bounds. -/
/- Draws and appends, in the state of a law's walk. -/
/- Pieces of bytes and of texts: appends. -/
import Derived.Test.YtmlenaelijchjaaStS
import Derived.Laws.Bits64
import Derived.Deep.RegionLaw
import Derived.Laws.BytesArg
namespace Go.Proofs.Ytmlenaelijchjaa
open Go.RowKit
set_option linter.unusedVariables false

theorem bits_xor_i64_nat (a b : Nat) (ha : a < 4611686018427387904) (hb : b < 4611686018427387904) : bits .xor .i64 (a : Int) (b : Int) = ((a ^^^ b : Nat) : Int) := by
  have hx : a ^^^ b < 2 ^ 62 := Nat.xor_lt_two_pow (by omega) (by omega)
  have h1 : (BitVec.ofInt 64 (a : Int)).toNat = a := by
    rw [BitVec.ofInt_natCast, BitVec.toNat_ofNat]; exact Nat.mod_eq_of_lt (by omega)
  have h2 : (BitVec.ofInt 64 (b : Int)).toNat = b := by
    rw [BitVec.ofInt_natCast, BitVec.toNat_ofNat]; exact Nat.mod_eq_of_lt (by omega)
  show IntKind.i64.wrap ((BitVec.ofInt 64 (a : Int) ^^^ BitVec.ofInt 64 (b : Int)).toNat : Int) = _
  rw [BitVec.toNat_xor, h1, h2]
  exact IntWalk.i64_in _ (by omega)
theorem xor_bound (X : Int) (h0 : 0 ≤ X) (h1 : X ≤ 1000000000000) : 0 ≤ bits .xor .i64 X (X / 64) ∧ bits .xor .i64 X (X / 64) ≤ 9223372036854775807 := by
  obtain ⟨a, rfl⟩ := Int.eq_ofNat_of_zero_le h0
  have d : ((a : Int) / 64) = ((a / 64 : Nat) : Int) := by omega
  have hx : a ^^^ a / 64 < 2 ^ 62 := Nat.xor_lt_two_pow (by omega) (by omega)
  rw [d, bits_xor_i64_nat _ _ (by omega) (by omega)]
  omega

/-- The bytes zs lie at ao. -/
def CellsY (w : World) (ao : Option Addr) (zs : List Int) : Prop :=
  ∀ i, i < zs.length → ∃ b off, ao = some ⟨b, off, none⟩ ∧ w.cell? ⟨b, off + i, none⟩ = some (.int .u8 (zs.getD i 0)) ∧ 0 ≤ zs.getD i 0 ∧ zs.getD i 0 ≤ 255
theorem CellsY.nil (w : World) (ao : Option Addr) : CellsY w ao [] := fun i hi => by simp at hi
theorem CellsY.at {w : World} {ao : Option Addr} {zs : List Int} (h : CellsY w ao zs) {i : Nat} (hi : i < zs.length) :
    ∃ b off, ao = some ⟨b, off, none⟩ ∧ (∀ j, j < zs.length → w.cell? ⟨b, off + j, none⟩ = some (.int .u8 (zs.getD j 0)) ∧ 0 ≤ zs.getD j 0 ∧ zs.getD j 0 ≤ 255) ∧ b < w.heap.size := by
  obtain ⟨b, off, rfl, hc, _⟩ := h i hi
  refine ⟨b, off, rfl, fun j hj => ?_, World.block_lt_of_cell? w _ hc⟩
  obtain ⟨b', off', he, hc'⟩ := h j hj
  simp at he
  obtain ⟨rfl, rfl⟩ := he
  exact hc'
theorem CellsY.below {B : Nat} {w w' : World} {ao : Option Addr} {zs : List Int} (h : CellsY w ao zs) (hb : Below B w w') (hB : w.heap.size ≤ B) : CellsY w' ao zs := by
  intro i hi
  obtain ⟨b, off, rfl, hc, h1, h2⟩ := h i hi
  exact ⟨b, off, rfl, (hb.cell (p := ⟨b, off + i, none⟩) (Nat.lt_of_lt_of_le (World.block_lt_of_cell? w _ hc) hB)).trans hc, h1, h2⟩
theorem cells_of_rowY {w : World} {x : Addr} {len : Nat} {zs : List Int} (hlen : len ≤ zs.length) (h : ∀ i, i < zs.length → w.cell? (x.add i) = some (.int .u8 (zs.getD i 0))) (hw : ∀ n ∈ zs, (Lit.int .u8 n).wf = true) :
    CellsY w (some x) (zs.take len) := by
  intro i hi
  simp only [List.length_take] at hi
  obtain ⟨b, off, rfl, hc⟩ := ints_at h (by omega)
  have hi2 : i < zs.length := by omega
  have e : (zs.take len).getD i 0 = zs.getD i 0 := by
    have h2 : i < len := by omega
    simp [hi2, h2]
  have hb := bounds_u8 (hw (zs.getD i 0) (by simp [hi2]))
  exact ⟨b, off, rfl, by rw [hc i hi2, e], by rw [e]; exact hb.1, by rw [e]; exact hb.2⟩

/-- A reader's block: the code's bytes and how many draws were made. -/
def SR (g : Nat) (ao : Option Addr) (n cap : Nat) (p : Nat) : Seg := ⟨.slice (some ⟨g, 0, none⟩) 2 2, 64, 1, 2, [.slice ao n cap, .int .i64 p]⟩

theorem SR_cells {w : World} {base g : Nat} {ao : Option Addr} {n cap p : Nat} (h : (SR g ao n cap p).own w base) :
    w.cell? ⟨g, 0, none⟩ = some (.slice ao n cap) ∧ w.cell? ⟨g, 1, none⟩ = some (.int .i64 p) ∧ w.frozen? ⟨g, 1, none⟩ = false ∧ g < w.heap.size ∧ base ≤ g :=
  ⟨World.ownsRow.cellAt h 0 (by show 0 < 2 * 1; omega), World.ownsRow.cellAt h 1 (by show 1 < 2 * 1; omega), World.ownsRow.frozenAt h 1, (h.lt g rfl).2, (h.lt g rfl).1⟩
theorem SR_put {w : World} {base g : Nat} {ao : Option Addr} {n cap p : Nat} (h : (SR g ao n cap p).own w base) :
    (SR g ao n cap (p + 1)).own (w.setCell ⟨g, 1, none⟩ (.int .i64 ((p : Int) + 1))) base ∧ w.grownBy (w.setCell ⟨g, 1, none⟩ (.int .i64 ((p : Int) + 1))) (some g) := by
  have := World.ownsRow.stored h 1 (.int .i64 ((p : Int) + 1))
  exact ⟨this.1, this.2⟩

theorem grown_drewN {w w1 : World} {row : Option Nat} (h : w.grownBy w1 row) (n : Nat) : w.grownBy (w1.drewN n) row := ⟨h.os, h.tape, h.output, h.size, h.block⟩

/-- What a draw leaves. -/
def Drawn (w : World) (base g : Nat) (ao : Option Addr) (len cap p : Nat) (n : Int) (e : Ending) (w' : World) : Prop :=
  ∃ r : Int, e = .returned (.int .i64 r) ∧ 0 ≤ r ∧ (1 ≤ n → r < n) ∧ (n < 1 → r = 0) ∧ (SR g ao len cap (p + 1)).own w' base ∧ w.grownBy w' (some g)

theorem pick_any (base g : Nat) (ao : Option Addr) (zs : List Int) (cap p : Nat) (n : Int) (w : World) (hy : CellsY w ao zs) (hr : (SR g ao zs.length cap p).own w base) (hg : ∀ b off, ao = some ⟨b, off, none⟩ → b ≠ g)
    (hp : p ≤ 1000000) (hz : zs.length ≤ 1000000) (hn : n ≤ 1000000000) (hn0 : -1000000000 ≤ n) :
    Calls Try.prog 40 #[.pointer (some ⟨g, 0, none⟩), .int .i64 n] w (Drawn w base g ao zs.length cap p n) := by
  obtain ⟨h0, h1, hf, hlt, _⟩ := SR_cells hr
  have HP := Lib.hid (SR_put hr)
  clear hr
  by_cases hn1 : n < 1
  · go_enter Try.func40, Try.ntmps40
    go_wp2
    go_ret
    exact ⟨0, rfl, by omega, by omega, by omega, HP.out.1, HP.out.2⟩
  · by_cases hl : zs.length = 0
    · have hl2 : ((zs.length : Int) == 0) = true := by simp [hl]
      obtain ⟨N, hN⟩ : ∃ N, N = zs.length := ⟨_, rfl⟩
      rw [← hN] at h0 HP hl2 ⊢
      clear hN hl hz
      go_enter Try.func40, Try.ntmps40
      go_wp2
      go_ret
      exact ⟨0, rfl, by omega, by omega, by omega, HP.out.1, HP.out.2⟩
    · have hl2 : ((zs.length : Int) == 0) = false := by simp; intro h; exact hl (by rw [h]; rfl)
      by_cases hk : p < zs.length
      · obtain ⟨b, off, rfl, hc, hb⟩ := hy.at hk
        obtain ⟨hc1, hc2, hc3⟩ := hc p hk
        have hbg := hg b off rfl
        generalize zs.getD p 0 = y at hc1 hc2 hc3
        have i1 : 0 ≤ y % n := Int.emod_nonneg _ (by omega)
        have i2 : y % n < n := Int.emod_lt_of_pos _ (by omega)
        clear hc hy hg hl
        go_enter Try.func40, Try.ntmps40
        go_wp2
        go_ret
        exact ⟨_, rfl, i1, fun _ => i2, fun h => by omega, HP.out.1, HP.out.2⟩
      · have hpos : 0 < zs.length := by omega
        obtain ⟨b, off, rfl, hc, hb⟩ := hy.at hpos
        have hbg := hg b off rfl
        have m1 : p % zs.length < zs.length := Nat.mod_lt _ hpos
        have m2 : (p * 7 + 3) % zs.length < zs.length := Nat.mod_lt _ hpos
        obtain ⟨hc1, hc2, hc3⟩ := hc (p % zs.length) m1
        obtain ⟨hd1, hd2, hd3⟩ := hc ((p * 7 + 3) % zs.length) m2
        generalize zs.getD (p % zs.length) 0 = y at hc1 hc2 hc3
        generalize zs.getD ((p * 7 + 3) % zs.length) 0 = z at hd1 hd2 hd3
        have q0 : 0 ≤ (p : Int) / zs.length := Int.ediv_nonneg (by omega) (by omega)
        have q1 : (p : Int) / zs.length ≤ p := Int.ediv_le_self _ (by omega)
        have j1 : 0 ≤ (p : Int) % zs.length := Int.emod_nonneg _ (by omega)
        have j2 : (p : Int) % zs.length < zs.length := Int.emod_lt_of_pos _ (by omega)
        have j3 : 0 ≤ ((p : Int) * 7 + 3) % zs.length := Int.emod_nonneg _ (by omega)
        have j4 : ((p : Int) * 7 + 3) % zs.length < zs.length := Int.emod_lt_of_pos _ (by omega)
        have x0 := xor_bound (y * 131 + z * 1117 + p * 29 + (p : Int) / zs.length * 53) (by omega) (by omega)
        obtain ⟨x1, x2⟩ := x0
        have i1 : 0 ≤ bits .xor .i64 (y * 131 + z * 1117 + p * 29 + (p : Int) / zs.length * 53) ((y * 131 + z * 1117 + p * 29 + (p : Int) / zs.length * 53) / 64) % n := Int.emod_nonneg _ (by omega)
        have i2 : bits .xor .i64 (y * 131 + z * 1117 + p * 29 + (p : Int) / zs.length * 53) ((y * 131 + z * 1117 + p * 29 + (p : Int) / zs.length * 53) / 64) % n < n := Int.emod_lt_of_pos _ (by omega)
        clear hc hy hg hl
        go_enter Try.func40, Try.ntmps40
        go_wp2
        go_quiet (fail)
        go_wp2
        go_ret
        exact ⟨_, rfl, i1, fun _ => i2, fun h => by omega, HP.out.1, grown_drewN HP.out.2 _⟩

/-- A draw from an empty code. -/
theorem pick_none (base g : Nat) (ao : Option Addr) (cap p : Nat) (n : Int) (w : World) (hr : (SR g ao 0 cap p).own w base) (hp : p ≤ 1000000) (hn : n ≤ 1000000000) (hn0 : -1000000000 ≤ n) :
    Calls Try.prog 40 #[.pointer (some ⟨g, 0, none⟩), .int .i64 n] w (Drawn w base g ao 0 cap p n) := by
  obtain ⟨h0, h1, hf, hlt, _⟩ := SR_cells hr
  have HP := Lib.hid (SR_put hr)
  clear hr
  by_cases hn1 : n < 1
  · go_enter Try.func40, Try.ntmps40
    go_wp2
    go_ret
    exact ⟨0, rfl, by omega, by omega, by omega, HP.out.1, HP.out.2⟩
  · go_enter Try.func40, Try.ntmps40
    go_wp2
    go_ret
    exact ⟨0, rfl, by omega, by omega, by omega, HP.out.1, HP.out.2⟩

theorem CellsY.take {w : World} {ao : Option Addr} {zs : List Int} (h : CellsY w ao zs) (n : Nat) : CellsY w ao (zs.take n) := by
  intro i hi
  simp only [List.length_take] at hi
  obtain ⟨b, off, rfl, hc, h1, h2⟩ := h i (by omega)
  have e : (zs.take n).getD i 0 = zs.getD i 0 := by
    have h2 : i < n := by omega
    simp [h2]
  exact ⟨b, off, rfl, by rw [e]; exact hc, by rw [e]; exact h1, by rw [e]; exact h2⟩

/-- What l6Open leaves: a reader that has drawn nothing. -/
def Opened (w : World) (ao : Option Addr) (n cap : Nat) (e : Ending) (w' : World) : Prop :=
  e = .returned (.pointer (some ⟨w.heap.size, 0, none⟩)) ∧ (SR w.heap.size ao n cap 0).own w' w.heap.size ∧ Below w.heap.size w w'
theorem opened_own (w : World) (ao : Option Addr) (n cap : Nat) : (SR w.heap.size ao n cap 0).own (w.alloc (.cells #[.slice ao n cap, .int .i64 0] 64)) w.heap.size :=
  World.ownsRow_lit w #[.slice ao n cap, .int .i64 0] 2 (Nat.le_refl _) (by unfold maxLen; omega) rfl

theorem l6Open_any (ao : Option Addr) (cap : Nat) (zs : List Int) (w : World) (hy : CellsY w ao zs) (hm : zs.length ≤ maxLen) (hcap : zs.length ≤ cap) (hcm : cap ≤ maxLen) :
    Calls Try.prog 22 #[.slice ao zs.length cap] w (Opened w ao (zs.take 2000).length cap) := by
  unfold maxLen at hm hcm
  by_cases h : 2000 < zs.length
  · obtain ⟨b, off, rfl, hc, hb⟩ := hy.at (i := 0) (by omega)
    have he : (zs.take 2000).length = 2000 := by simp; omega
    rw [he]
    clear hc hy he
    go_enter Try.func22, Try.ntmps22
    go_wp2
    go_ret
    exact ⟨rfl, opened_own _ _ _ _, (Below.refl _ _).alloc (Nat.le_refl _) _⟩
  · have he : (zs.take 2000).length = zs.length := by simp; omega
    rw [he]
    clear hy he
    go_enter Try.func22, Try.ntmps22
    go_wp2
    go_ret
    exact ⟨rfl, opened_own _ _ _ _, (Below.refl _ _).alloc (Nat.le_refl _) _⟩

/-- A draw, whatever else has been made. -/
def PickedSt (w0 : World) (segs : Nat → List Seg) (p : Nat) (n : Int) (e : Ending) (w' : World) : Prop :=
  ∃ r : Int, e = .returned (.int .i64 r) ∧ 0 ≤ r ∧ (1 ≤ n → r < n) ∧ (n < 1 → r = 0) ∧ St w0 w' (segs (p + 1))

theorem pick_st (w0 w : World) (pre post : List Seg) (g : Nat) (ao : Option Addr) (zs : List Int) (cap p : Nat) (n : Int) (hy : CellsY w0 ao zs) (h : St w0 w (pre ++ SR g ao zs.length cap p :: post))
    (hp : p ≤ 1000000) (hz : zs.length ≤ 1000000) (hn : n ≤ 1000000000) (hn0 : -1000000000 ≤ n) :
    Calls Try.prog 40 #[.pointer (some ⟨g, 0, none⟩), .int .i64 n] w (PickedSt w0 (fun p => pre ++ SR g ao zs.length cap p :: post) p n) := by
  have hr := h.own (SR g ao zs.length cap p) (by simp)
  have hg : ∀ b off, ao = some ⟨b, off, none⟩ → 0 < zs.length → b ≠ g := fun b off e hl => by
    subst e
    obtain ⟨b', off', he, hc, _⟩ := hy 0 hl
    simp at he
    obtain ⟨rfl, rfl⟩ := he
    have h1 := World.block_lt_of_cell? w0 _ hc
    have h2 := (SR_cells hr).2.2.2.2
    simp at h1
    omega
  by_cases hl : 0 < zs.length
  · refine (pick_any w0.heap.size g ao zs cap p n w (hy.below h.below (Nat.le_refl _)) hr (fun b off e => hg b off e hl) hp hz hn hn0).mono ?_
    rintro e w' ⟨r, he, h1, h2, h3, h4, h5⟩
    exact ⟨r, he, h1, h2, h3, St.writeSeg pre post _ _ h rfl h4 h5⟩
  · have hz0 : zs = [] := List.eq_nil_of_length_eq_zero (by omega)
    subst hz0
    have hr' : (SR g none ([] : List Int).length cap p).own w w0.heap.size ∨ True := .inr trivial
    by_cases ha : ∀ b off, ao = some ⟨b, off, none⟩ → b ≠ g
    · refine (pick_any w0.heap.size g ao [] cap p n w (CellsY.nil _ _) hr ha hp hz hn hn0).mono ?_
      rintro e w' ⟨r, he, h1, h2, h3, h4, h5⟩
      exact ⟨r, he, h1, h2, h3, St.writeSeg pre post _ _ h rfl h4 h5⟩
    · refine (pick_none w0.heap.size g ao cap p n w hr hp hn hn0).mono ?_
      rintro e w' ⟨r, he, h1, h2, h3, h4, h5⟩
      exact ⟨r, he, h1, h2, h3, St.writeSeg pre post _ _ h rfl h4 h5⟩

/-- 'append' to an owned slice of numbers, as a step of a region that draws its order. -/
theorem step_appendI {ops : Array Oper} {o : Oper} {a : Act} {w : World} {K : Act → World → Prop} {Q : Exit → Act → World → Prop} {E : Prop}
    (hg : o.guard = none) (s x : Operand) (hop : o.op = Op.call { callee := Callee.builtin Builtin.append, args := #[s, x], argTypes := #[39, 39] })
    (base : Nat) (v : Value) (xs ys : List Int) (hs : a.eval s = v) (hown : OwnI w base v xs) (ad' : Option Addr) (ad : Addr) (m c : Nat) (hx : a.eval x = .slice ad' m c) (had : ad' = some ad) (hm : m = ys.length)
    (hc : ∀ j, j < ys.length → w.cell? (ad.add j) = some (.int .i64 (ys.getD j 0))) (hl : xs.length + ys.length ≤ 4194304) (hb : base ≤ w.heap.size)
    (hK : ∀ v' w', OwnI w' base v' (xs ++ ys) → w.grownBy w' v.ownBlock → K (a.put o.dst v') w') :
    if Region.wanted o (yielded ops a.tmps) = true then Oper.wp Try.prog o a w K Q else E := by
  have hw : Region.wanted o (yielded ops a.tmps) = true := by simp [Region.wanted, hg]
  rw [if_pos hw]
  obtain ⟨i0, hi, hz0, hz1, hz2⟩ := info_parts intInfo
  subst had hm
  obtain ⟨v', w', hrun, h2, h3, h4⟩ := run_append_own (P := Try.prog) w base 39 o.type 3 i0 (.int .i64 0) 1 8 Try.underlying39 hi hz0 hz1 hz2 rfl (by decide) v xs.length (xs.map (Value.int .i64)) hown ad ys.length c (ys.map (Value.int .i64)) (by simp)
    (fun j u hj => by
      rw [List.getElem?_map] at hj
      cases hy : ys[j]? with
      | none => rw [hy] at hj; cases hj
      | some q =>
        rw [hy] at hj
        cases hj
        have hlt : j < ys.length := (List.getElem?_eq_some_iff.1 hy).1
        rw [hc j hlt]
        simp [hy])
    (fun u hu => by
      obtain ⟨q, _, rfl⟩ := List.mem_map.1 hu
      rfl)
    (by unfold maxLen; omega) (by omega) hb
  unfold Oper.wp
  simp only [execOp, hop, resolve, invoke, builtin, Sem.run_bind, Sem.run_pure, Result.andThen_ok, List.map_toArray, List.map_cons, List.map_nil, hs, hx, hrun]
  refine hK v' w' ?_ h3
  unfold OwnI
  rw [List.length_append, List.map_append]
  exact h2


/-- A slice of bytes. -/
def SY (v : Value) (ys : List Int) : Seg := ⟨v, 5, 1, ys.length, ys.map (Value.int .u8)⟩
theorem byteInfo : (Try.prog.info? 5).map (fun i => (i.zero, i.size, i.bytes)) = some (some (.int .u8 0), 1, 1) := by kernel_rfl
theorem elemY : Elem Try.prog 22 5 1 1 (.int .u8 0) := ⟨Try.underlying22, byteInfo, rfl, by decide⟩
theorem elemS : Elem Try.prog 23 9 1 16 (.string ByteArray.empty) := ⟨Try.underlying23, strInfo, rfl, by decide⟩
theorem SY_append {v : Value} {xs : List Int} {y : Int} : (⟨v, 5, 1, xs.length + 1, xs.map (Value.int .u8) ++ [.int .u8 y]⟩ : Seg) = SY v (xs ++ [y]) := by simp [SY]
theorem SS_append {v : Value} {xs : List ByteArray} {y : ByteArray} : (⟨v, 9, 1, xs.length + 1, xs.map Value.string ++ [.string y]⟩ : Seg) = SS v (xs ++ [y]) := by simp [SS]

/-- 'append(b, c)', b a piece of bytes. -/
theorem wpPushY (w : World) {ops : Array Oper} {rest : List Oper} {o : Oper} {a : Act} {Q : Exit → Act → World → Prop}
    (hg : o.guard = none) (sl x : Operand) (ho : o.op = .call { callee := .builtin .append, args := #[sl, x], argTypes := #[22, 22] }) (base : Nat) (v : Value) (xs : List Int) (y : Int) (ad : Addr)
    (hs : a.eval sl = v) (hown : (SY v xs).own w base) (hx : a.eval x = .slice (some ad) 1 1) (hc : ∀ (j : Nat) (u : Value), [Value.int .u8 y][j]? = some u → w.cell? (ad.add j) = some u) (hl : xs.length ≤ 4194304)
    (hK : ∀ v' w', Became w w' base (SY v xs) (SY v' (xs ++ [y])) → wpList Try.prog ops Q rest (a.put o.dst v') w') : wpList Try.prog ops Q (o :: rest) a w := by
  refine wpAppendSt elemY w hg sl x ho base (SY v xs) rfl rfl hs hown ad 1 1 [.int .u8 y] hx rfl hc ?_ (by simp only [SY]; unfold maxLen; omega) (by simp only [SY]; omega) ?_
  · intro u hu
    simp at hu
    subst hu
    rfl
  · intro v' w' hb
    refine hK v' w' ?_
    rw [← SY_append]
    exact hb
/-- 'append(s, t)', s a piece of texts. -/
theorem wpPushS (w : World) {ops : Array Oper} {rest : List Oper} {o : Oper} {a : Act} {Q : Exit → Act → World → Prop}
    (hg : o.guard = none) (sl x : Operand) (ho : o.op = .call { callee := .builtin .append, args := #[sl, x], argTypes := #[23, 23] }) (base : Nat) (v : Value) (xs : List ByteArray) (y : ByteArray) (ad : Addr)
    (hs : a.eval sl = v) (hown : (SS v xs).own w base) (hx : a.eval x = .slice (some ad) 1 1) (hc : ∀ (j : Nat) (u : Value), [Value.string y][j]? = some u → w.cell? (ad.add j) = some u) (hl : xs.length ≤ 4194304)
    (hK : ∀ v' w', Became w w' base (SS v xs) (SS v' (xs ++ [y])) → wpList Try.prog ops Q rest (a.put o.dst v') w') : wpList Try.prog ops Q (o :: rest) a w := by
  refine wpAppendSt elemS w hg sl x ho base (SS v xs) rfl rfl hs hown ad 1 1 [.string y] hx rfl hc ?_ (by simp only [SS]; unfold maxLen; omega) (by simp only [SS]; omega) ?_
  · intro u hu
    simp at hu
    subst hu
    rfl
  · intro v' w' hb
    refine hK v' w' ?_
    rw [← SS_append]
    exact hb

theorem SY_shape {w : World} {base : Nat} {v : Value} {ys : List Int} (h : (SY v ys).own w base) :
    ∃ ao cap, v = .slice ao ys.length cap ∧ ∃ s : ByteArray, s.size = ys.length ∧ ∀ W, (∀ b, (∃ k, v.ownBlock = some k ∧ b = k) → W.heap[b]? = w.heap[b]?) → (convert 22 9 v).run Try.prog W = .ok (.string s) W := by
  rcases h.2 with ⟨hv, hn⟩ | ⟨g, cap, cur, hv, hb, hg, hnc, hcm, _⟩
  · have h0 : ys.length = 0 := hn
    have h1 : ys = [] := List.eq_nil_of_length_eq_zero h0
    subst h1
    have hv' : v = .slice none 0 0 := hv
    subst hv'
    exact ⟨none, 0, rfl, ByteArray.empty, rfl, fun W _ => run_convert_bytes_nil W _ _ Try.underlying22 Try.underlying5 _ _ _ Try.underlying9⟩
  · have hv' : v = .slice (some ⟨g, 0, none⟩) ys.length cap := hv
    subst hv'
    refine ⟨_, cap, rfl, strOfNums ys, by simp [strOfNums, ByteArray.size], fun W hW => ?_⟩
    refine run_convert_bytes_arg W _ _ Try.underlying22 Try.underlying5 g 0 ys.length cap ys rfl (fun i hi => ?_) _ Try.underlying9
    have hc := World.ownsRow.cellAt h i (by show i < ys.length * 1; omega)
    rw [Nat.zero_add]
    refine (World.cell?_of_block (w := w) (hW g ⟨g, rfl, rfl⟩)).trans ?_
    rw [hc]
    simp [SY, hi]
end Go.Proofs.Ytmlenaelijchjaa
