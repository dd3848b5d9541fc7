/- Contract: the way from a state as the spec goes it (l3Close). -/
/- Contract: the marks of the beams (l3Marks). -/
/- Contract: the marks of the beams (l3Marks). -/
/- Contracts: the lengths of the rounds, the number of paths (l3Rounds, l3Paths; roundMany, pathMany). -/
import Derived.Test.YtmlenaelijchjaaEndL
import Derived.Test.YtmlenaelijchjaaCellW
import Derived.Test.YtmlenaelijchjaaRoundL
import Derived.Test.YtmlenaelijchjaaStS
namespace Go.Proofs.Ytmlenaelijchjaa
open Go.RowKit
set_option linter.unusedVariables false
set_option linter.unusedSimpArgs false
set_option linter.unusedSectionVars false

/-- How a way closes: after N steps it is back, or it ends. -/
structure Gr.Closed (g : Gr) (x : Stt) (N : Nat) (r : Bool) : Prop where
  pos : 1 ≤ N
  le : N ≤ 100
  new : ∀ j, 0 < j → j < N → iter g.nx j x ≠ some x
  last : (r = true ∧ iter g.nx N x = some x) ∨ (r = false ∧ iter g.nx N x = none ∧ ∃ y, iter g.nx (N - 1) x = some y)
theorem Gr.Closed.ends {g : Gr} {x s : Stt} {N j : Nat} {r : Bool} (h : g.Closed x N r) (hj : j < N) (hit : iter g.nx j x = some s) (hn : g.nx s = none) : j + 1 = N ∧ r = false := by
  have hi : iter g.nx (j + 1) x = none := by
    show (iter g.nx j x).bind g.nx = _
    rw [hit]; exact hn
  rcases h.last with ⟨_, h2⟩ | ⟨h1, h2, y, h3⟩
  · obtain ⟨z, hz⟩ := iter_lt h2 (j + 1) (by omega)
    rw [hi] at hz; cases hz
  · refine ⟨?_, h1⟩
    apply Classical.byContradiction
    intro hne
    obtain ⟨z, hz⟩ := iter_lt h3 (j + 1) (by omega)
    rw [hi] at hz; cases hz
theorem Gr.Closed.back {g : Gr} {x s : Stt} {N j : Nat} {r : Bool} (h : g.Closed x N r) (hj : j < N) (hit : iter g.nx (j + 1) x = some s) : (s = x → j + 1 = N ∧ r = true) ∧ (s ≠ x → j + 1 < N) := by
  constructor
  · rintro rfl
    have e : j + 1 = N := by
      apply Classical.byContradiction
      intro hne
      exact h.new (j + 1) (by omega) (by omega) hit
    refine ⟨e, ?_⟩
    rcases h.last with ⟨h1, _⟩ | ⟨_, h2, _⟩
    · exact h1
    · rw [e, h2] at hit; cases hit
  · intro hne
    apply Classical.byContradiction
    intro hge
    have e : j + 1 = N := by omega
    rcases h.last with ⟨_, h2⟩ | ⟨_, h2, _⟩
    · rw [e, h2] at hit; exact hne (Option.some.inj hit).symm
    · rw [e, h2] at hit; cases hit
/-- The loop's relation. -/
def CloseRel (G : Gr) (w wr : World) (E : Stt) (N : Nat) (v2 v11 v12 v13 v14 : Value) : Prop :=
  ∃ (j i k d : Nat) (ao1 ao2 : Option Addr) (c1 c2 : Nat), v13 = .slice ao1 j c1 ∧ v14 = .slice ao2 j c2 ∧ v11 = .int .i64 i ∧ v12 = .int .i64 k ∧ v2 = .int .i64 d ∧
    St w wr [SI v14 (G.dirsTo E j), SI v13 (G.cellsTo E j)] ∧ i < G.n ∧ k < G.m ∧ d < 4 ∧ j < N ∧ iter G.nx j E = some (i * G.m + k, d)

set_option maxRecDepth 100000 in
set_option maxHeartbeats 4000000 in
theorem l3Close_any (ao : Option Addr) (cap : Nat) (ss : List ByteArray) (c0 d0 N : Nat) (r : Bool) (w : World) (hx : CellsS w ao ss) (hg : gridB ss = true) (hv : (gr ss).val (c0, d0)) (hC : (gr ss).Closed (c0, d0) N r) :
    Calls Try.prog 34 #[.slice ao ss.length cap, .int .i64 c0, .int .i64 d0] w fun e w' => ∃ v1 v2, e = .returned (.tuple #[v1, v2, .bool r]) ∧
      St w w' [SI v2 ((gr ss).dirsTo (c0, d0) N), SI v1 ((gr ss).cellsTo (c0, d0) N)] := by
  have hok := gr_ok hg
  have hn1 : 1 ≤ ss.length := hok.n1
  have hn5 : ss.length ≤ 5 := hok.n5
  have hm1 : 1 ≤ (rowOf ss 0).size := hok.m1
  have hm5 : (rowOf ss 0).size ≤ 5 := hok.m5
  have e2 : c0 / (rowOf ss 0).size < ss.length := Gr.row_lt hok hv.1
  have e3 : c0 % (rowOf ss 0).size < (rowOf ss 0).size := Gr.col_lt hok c0
  have e4 : d0 < 4 := hv.2
  have hc25 : c0 < 25 := Nat.lt_of_lt_of_le hv.1 (Gr.size_le hok)
  have e5 : c0 / (rowOf ss 0).size * (rowOf ss 0).size + c0 % (rowOf ss 0).size = c0 := Gr.cell_eq hok c0
  have i1 : (c0 : Int) / ((rowOf ss 0).size : Int) = ((c0 / (rowOf ss 0).size : Nat) : Int) := (Int.natCast_ediv _ _).symm
  have i2 : (c0 : Int) % ((rowOf ss 0).size : Int) = ((c0 % (rowOf ss 0).size : Nat) : Int) := (Int.natCast_emod _ _).symm
  have z0 : (((rowOf ss 0).size : Int) == 0) = false := beq_eq_false_iff_ne.2 (by omega)
  have HN : Hid (∀ i k d, i < (gr ss).n → k < (gr ss).m → d < 4 → _) := fun i k d hi hk hd => Gr.nx_step hok hi hk hd
  have HR : Hid (∀ i, i < ss.length → (rowOf ss i).size = (rowOf ss 0).size) := fun i hi => gr_row hg hi
  have HC := Lib.hid hC
  have hN1 := hC.pos
  have hN2 := hC.le
  have HX := Lib.hid hx
  have HE := Lib.hid e5
  obtain ⟨b, off, rfl, hc, hbb⟩ := hx.at (i := 0) (by omega)
  have hc0 := hc 0 (by omega)
  rw [Nat.add_zero] at hc0
  have sta := ((St.init w).addSeg (s := SI (.slice (some ⟨w.heap.size, 0, none⟩) 0 0) []) (World.ownsRow_made w #[] 0 (Nat.le_refl _) (Nat.zero_le _) rfl) ((Below.refl _ _).alloc (Nat.le_refl _) (.cells #[] 3)))
  have stb := sta.addSeg (s := SI (.slice (some ⟨(w.alloc (.cells #[] 3)).heap.size, 0, none⟩) 0 0) []) (World.ownsRow_made (w.alloc (.cells #[] 3)) #[] 0 (Nat.le_refl _) (Nat.zero_le _) rfl) ((Below.refl _ _).alloc (Nat.le_refl _) (.cells #[] 3))
  rw [show (w.alloc (.cells #[] 3)).heap.size = w.heap.size + 1 by simp] at stb
  have ST0 := Lib.hid stb
  clear sta stb hc hx hg hok e5 hv hC
  generalize c0 / (rowOf ss 0).size = qi at *
  generalize c0 % (rowOf ss 0).size = qk at *
  go_enter Try.func34, Try.ntmps34
  go_wp2_with fail
  clear i1 i2
  go_loopw [2, 11, 12, 13, 14] (fun v2 v11 v12 v13 v14 wr => CloseRel (gr ss) w wr (c0, d0) N v2 v11 v12 v13 v14) (fun _ _ _ v13 _ _ => N + 2 - lenV v13)
  case atStart => exact ⟨0, qi, qk, d0, _, _, _, _, rfl, rfl, rfl, rfl, rfl, ST0.out, e2, e3, e4, hN1, by show some (c0, d0) = _; rw [← HE.out]; rfl⟩
  case round =>
    obtain ⟨j, i, k, d, ao1, ao2, c1, c2, rfl, rfl, rfl, rfl, rfl, st, hi, hk, hd, hj, hit⟩ := hrel
    have hi' : i < ss.length := hi
    have hk' : k < (rowOf ss 0).size := hk
    have q0 : (0 : Int) ≤ (i : Int) * (rowOf ss 0).size := Int.mul_nonneg (by omega) (by omega)
    have q1 : (i : Int) * (rowOf ss 0).size ≤ 5 * 5 := Int.mul_le_mul (by omega) (by omega) (by omega) (by omega)
    have sta := st.step ((Below.refl _ _).alloc (Nat.le_refl _) (.cells #[.int .i64 ((i : Int) * (rowOf ss 0).size + k)] 3))
    have HS := Lib.hid sta
    have H1 := Lib.hid (Gr.cellsTo_succ hit (a := (i : Int) * (rowOf ss 0).size + k) (by rw [Int.natCast_add, Int.natCast_mul]; rfl))
    have H2 := Lib.hid (Gr.dirsTo_succ hit)
    have L1 := Lib.hid (Gr.cellsTo_length (gr ss) (c0, d0) j)
    have L2 := Lib.hid (Gr.dirsTo_length (gr ss) (c0, d0) j)
    have HIT := Lib.hid hit
    have HNX := Lib.hid (HN.out i k d hi hk hd)
    have hD : bend ((gr ss).lt i k) d < 4 := bend_lt _ hd
    clear st sta hit hi hk
    have hrs := HR.out i hi'
    have hlt : (gr ss).lt i k = sgn (rowOf ss i) k := rfl
    rw [hlt] at HNX hD
    clear hlt
    have hcw : ∀ W segs, St w W segs → W.cell? ⟨b, off + i, none⟩ = some (.string (rowOf ss i)) := fun W segs h => by
      obtain ⟨b', off', he, hcr, _⟩ := (HX.out.below h.below (Nat.le_refl _)).at hi'
      cases he
      exact hcr i hi'
    have HCW := Lib.hid hcw
    clear hcw
    generalize rowOf ss i = s at HNX hD hrs HCW
    have HSG := Lib.hid (sgn_eq s k (by omega))
    generalize hbe : bend (sgn s k) d = D at HNX hD
    have HBE := Lib.hid hbe
    clear hbe
    go_wp2_with (first
      | (at_builtin; refine wpPushI _ rfl _ _ rfl w.heap.size _ _ ((i : Int) * (rowOf ss 0).size + k) _ rfl (HS.out.own _ (List.mem_cons_of_mem _ List.mem_cons_self)) rfl (cell_one_new _ _ _) (by rw [L1.out]; omega) ?_; intro v1 w3 hbec; have st3 := HS.out.became1 hbec; rw [H1.out] at st3; have HS4 := Lib.hid (st3.step ((Below.refl _ _).alloc (Nat.le_refl _) (.cells #[.int .i64 d] 3))); clear hbec st3)
      | (at_builtin; refine wpPushI _ rfl _ _ rfl w.heap.size _ _ (d : Int) _ rfl (HS4.out.own _ List.mem_cons_self) rfl (cell_one_new _ _ _) (by rw [L2.out]; omega) ?_; intro v2 w5 hbec; have st5 := HS4.out.became0 hbec; rw [H2.out] at st5; have hc5 := HCW.out _ _ st5; have HS5 := Lib.hid st5; clear hbec st5))
    refine (l2Bend_any _ d _ hd).mono ?_
    rintro e w6 ⟨rfl, rfl⟩
    rw [HSG.out, HBE.out]
    go_wp2_with fail
    refine (l2Step_any i k D _ hD (by omega) (by omega) (by omega) (by omega)).mono ?_
    rintro e w6 ⟨rfl, rfl⟩
    have hb1 := stI_bd i D
    have hb2 := stK_bd k D
    generalize hsi : stI i D = si at *
    generalize hsk : stK k D = sk at *
    have HSI := Lib.hid hsi
    have HSK := Lib.hid hsk
    clear hsi hsk
    go_wp2_with fail
    refine (l2Leave_any ss.length (rowOf ss 0).size si sk _ hn5 hm5 (by omega) (by omega) (by omega) (by omega)).mono ?_
    rintro e w6 ⟨rfl, rfl⟩
    rcases HNX.out with ⟨i', k', rfl, rfl, hi2, hk2, hnx, hlv⟩ | ⟨hnx, hlv⟩
    · have hit2 : iter (gr ss).nx (j + 1) (c0, d0) = some (i' * (gr ss).m + k', D) := by
        show (iter (gr ss).nx j (c0, d0)).bind (gr ss).nx = _
        rw [HIT.out]; exact hnx
      have HIT2 := Lib.hid hit2
      have hbk := HC.out.back hj hit2
      obtain ⟨a1, c1', hv1, _⟩ := OwnI.shape (SI_own.1 (HS5.out.own _ (List.mem_cons_of_mem _ List.mem_cons_self)))
      obtain ⟨a2, c2', hv2, _⟩ := OwnI.shape (SI_own.1 (HS5.out.own _ List.mem_cons_self))
      rw [Gr.cellsTo_length] at hv1
      rw [Gr.dirsTo_length] at hv2
      subst hv1
      subst hv2
      rw [show lv ss.length (rowOf ss 0).size i' k' = -1 from hlv]
      have hi3 : i' < ss.length := hi2
      have hk3 : k' < (rowOf ss 0).size := hk2
      have p0 : (0 : Int) ≤ (i' : Int) * (rowOf ss 0).size := Int.mul_nonneg (by omega) (by omega)
      have p1 : (i' : Int) * (rowOf ss 0).size ≤ 5 * 5 := Int.mul_le_mul (by omega) (by omega) (by omega) (by omega)
      have hcast : (((i' * (gr ss).m + k' : Nat)) : Int) = (i' : Int) * (rowOf ss 0).size + k' := by rw [Int.natCast_add, Int.natCast_mul]; rfl
      generalize hcell : i' * (gr ss).m + k' = cell at *
      have HCL := Lib.hid hcell
      clear hlv hnx HNX hit2 hcell
      by_cases e : cell = c0 ∧ D = d0
      · obtain ⟨e6, e7⟩ := e
        obtain ⟨hJ, hr⟩ := hbk.1 (by rw [e6, e7])
        have HJ := Lib.hid hJ
        subst hr
        have e8 : (i' : Int) * (rowOf ss 0).size + k' = c0 := by rw [← hcast, e6]
        have e9 : (D : Int) = d0 := by omega
        clear hbk hJ hcast HIT2 HCL e6 e7
        go_wp2_with fail
        go_ret3
        exact ⟨_, _, rfl, by rw [← HJ.out]; exact HS5.out⟩
      · have hJ := hbk.2 (by intro h; cases h; exact e ⟨rfl, rfl⟩)
        have hne : ¬ ((i' : Int) * (rowOf ss 0).size + k' = c0) ∨ ((i' : Int) * (rowOf ss 0).size + k' = c0 ∧ ¬ ((D : Int) = d0)) := by
          by_cases e6 : cell = c0
          · exact .inr ⟨by rw [← hcast, e6], fun e7 => e ⟨e6, by omega⟩⟩
          · exact .inl (by rw [← hcast]; omega)
        clear hbk hcast e
        rcases hne with hne | ⟨hne1, hne⟩
        all_goals
          go_wp2_with fail
          go_roundw
          case rel => exact ⟨j + 1, i', k', D, a1, a2, c1', c2', rfl, rfl, rfl, rfl, rfl, HS5.out, hi2, hk2, hD, hJ, by rw [HCL.out]; exact HIT2.out⟩
          case measure => simp [lenV]; omega
    · obtain ⟨hJ, hr⟩ := HC.out.ends hj HIT.out hnx
      subst hr
      rw [show lv ss.length (rowOf ss 0).size si sk = _ from hlv]
      generalize (gr ss).out (i * (gr ss).m + k, d) = po at *
      have hge : (0 : Int) ≤ ((po : Nat) : Int) := by omega
      have HJ := Lib.hid hJ
      clear hlv hnx HNX hJ
      go_wp2_with fail
      go_ret3
      exact ⟨v1, v2, rfl, by rw [← HJ.out]; exact HS5.out⟩

/-- A slice of marks. -/
def bools (n : Nat) (M : Nat → Bool) : List Value := (List.range n).map fun i => .bool (M i)
def MB (v : Value) (n : Nat) (M : Nat → Bool) : Seg := ⟨v, 4, 1, n, bools n M⟩
def updB (M : Nat → Bool) (j i : Nat) : Bool := i == j || M i
theorem bools_length (n : Nat) (M : Nat → Bool) : (bools n M).length = n := by simp [bools]
theorem bools_get {n : Nat} (M : Nat → Bool) {i : Nat} (h : i < n) : (bools n M)[i]? = some (.bool (M i)) := by simp [bools, h]
theorem bools_set {n : Nat} (M : Nat → Bool) (j : Nat) : (bools n M).set j (.bool true) = bools n (updB M j) := by
  apply List.ext_getElem
  · simp [bools]
  · intro i h1 h2
    simp only [bools, List.length_set, List.length_map, List.length_range] at h1
    rw [List.getElem_set]
    simp only [bools, List.getElem_map, List.getElem_range, updB]
    by_cases e : j = i
    · subst e; simp
    · rw [if_neg e]
      have : (i == j) = false := by rw [beq_eq_false_iff_ne]; omega
      rw [this]; rfl
theorem boolInfo : (Try.prog.info? 4).map (fun i => (i.zero, i.size, i.bytes)) = some (some (.bool false), 1, 1) := by kernel_rfl
theorem MB_shape {w : World} {base : Nat} {v : Value} {n : Nat} {M : Nat → Bool} (h : (MB v n M).own w base) : ∃ ao cap, v = .slice ao n cap := by
  rcases id h.2 with ⟨h1, h2⟩ | ⟨g, cap, cur, h1, _⟩
  · exact ⟨none, 0, by rw [show v = _ from h1, show n = 0 from h2]⟩
  · exact ⟨_, _, h1⟩
theorem MB_cell {w : World} {base g n cap k : Nat} {M : Nat → Bool} (h : (MB (.slice (some ⟨g, 0, none⟩) n cap) n M).own w base) (hk : k < n) : w.cell? ⟨g, k, none⟩ = some (.bool (M k)) := by
  have := World.ownsRow.cellAt h k (by show k < n * 1; omega)
  rw [this]
  exact bools_get M hk
theorem St.mark {w0 W : World} (pre post : List Seg) {g n cap : Nat} {M : Nat → Bool} (h : St w0 W (pre ++ MB (.slice (some ⟨g, 0, none⟩) n cap) n M :: post)) (j : Nat) (hj : j < n) :
    W.cell? ⟨g, j, none⟩ = some (.bool (M j)) ∧ W.frozen? ⟨g, j, none⟩ = false ∧ St w0 (W.setCell ⟨g, j, none⟩ (.bool true)) (pre ++ MB (.slice (some ⟨g, 0, none⟩) n cap) n (updB M j) :: post) := by
  have ho : (MB (.slice (some ⟨g, 0, none⟩) n cap) n M).own W w0.heap.size := h.own _ (by simp)
  have h3 := World.ownsRow.stored ho j (.bool true)
  refine ⟨MB_cell ho hj, World.ownsRow.frozenAt ho j, St.writeSeg pre post _ (MB (.slice (some ⟨g, 0, none⟩) n cap) n (updB M j)) h rfl ?_ h3.2⟩
  have := h3.1
  simp only [Seg.own, MB] at this ⊢
  rw [show (bools n M).set j (.bool true) = _ from bools_set M j] at this
  exact this

/-- The marks tell the beams below j and the first i steps of that of j. -/
def Gr.BeamM (g : Gr) (j i : Nat) (M : Nat → Bool) : Prop := ∀ k, k < 4 * (g.n * g.m) → (M k = true ↔ ∃ p, p < g.ports ∧ decS k ∈ g.wayOf p ∧ (p < j ∨ (p = j ∧ decS k ∈ (g.wayOf j).take i)))
/-- The marks tell the beams, the rounds of R, and L with the steps back. -/
def Gr.RoundM (g : Gr) (R L : List Stt) (M : Nat → Bool) : Prop :=
  ∀ k, k < 4 * (g.n * g.m) → (M k = true ↔ ((∃ p, p < g.ports ∧ decS k ∈ g.wayOf p) ∨ (∃ r ∈ R, Same g.nx g.rev r (decS k)) ∨ decS k ∈ L ∨ g.rev (decS k) ∈ L))
theorem code_inj {x : Stt} {k : Nat} (hx : x.2 < 4) : k = codeS x ↔ decS k = x :=
  ⟨fun h => by rw [h]; exact dec_code hx, fun h => by rw [← h, code_dec]⟩
section
variable {g : Gr} (hg : g.ok)
include hg
theorem Gr.BeamM.start : g.BeamM 0 0 fun _ => false := fun k hk => ⟨fun h => (by cases h), fun ⟨p, _, _, h⟩ => (by simp at h)⟩
theorem Gr.BeamM.next {j i : Nat} {M : Nat → Bool} (h : g.BeamM j i M) (hj : j < g.ports) {y : Stt} (hy : (g.wayOf j)[i]? = some y) : g.BeamM j (i + 1) (updB M (codeS y)) := by
  have hym : y ∈ g.wayOf j := List.mem_of_getElem? hy
  have hv := Gr.way_val hg hj hym
  obtain ⟨hi, hye⟩ := List.getElem?_eq_some_iff.1 hy
  have htk : (g.wayOf j).take (i + 1) = (g.wayOf j).take i ++ [y] := by
    rw [List.take_succ_eq_append_getElem hi, hye]
  intro k hk
  unfold updB
  rw [Bool.or_eq_true, beq_iff_eq, code_inj hv.2, h k hk, htk]
  constructor
  · rintro (e | ⟨p, hp, h1, h2⟩)
    · exact ⟨j, hj, by rw [e]; exact hym, .inr ⟨rfl, by rw [e]; simp⟩⟩
    · exact ⟨p, hp, h1, h2.imp id fun ⟨a, b⟩ => ⟨a, List.mem_append.2 (.inl b)⟩⟩
  · rintro ⟨p, hp, h1, h2 | ⟨h2, h3⟩⟩
    · exact .inr ⟨p, hp, h1, .inl h2⟩
    · rcases List.mem_append.1 h3 with h3 | h3
      · exact .inr ⟨p, hp, h1, .inr ⟨h2, h3⟩⟩
      · exact .inl (by simpa using h3)
theorem Gr.BeamM.done {j : Nat} {M : Nat → Bool} (h : g.BeamM j (g.wayOf j).length M) : g.BeamM (j + 1) 0 M := by
  intro k hk
  rw [h k hk, List.take_length]
  constructor
  · rintro ⟨p, hp, h1, h2 | ⟨h2, h3⟩⟩
    · exact ⟨p, hp, h1, .inl (by omega)⟩
    · exact ⟨p, hp, h1, .inl (by omega)⟩
  · rintro ⟨p, hp, h1, h2 | ⟨h2, h3⟩⟩
    · by_cases e : p = j
      · exact ⟨p, hp, h1, .inr ⟨e, by rw [← e]; exact h1⟩⟩
      · exact ⟨p, hp, h1, .inl (by omega)⟩
    · simp at h3
theorem Gr.BeamM.all {M : Nat → Bool} (h : g.BeamM g.ports 0 M) : g.RoundM [] [] M := by
  intro k hk
  rw [h k hk]
  constructor
  · rintro ⟨p, hp, h1, _⟩
    exact .inl ⟨p, hp, h1⟩
  · rintro (⟨p, hp, h1⟩ | ⟨r, hr, _⟩ | hn | hn)
    · exact ⟨p, hp, h1, .inl hp⟩
    · simp at hr
    · simp at hn
    · simp at hn
theorem Gr.RoundM.told {k x : Nat} {M : Nat → Bool} (h : g.RoundM (g.repsTo k) [] M) (hx : x < 4 * (g.n * g.m)) : M x = true ↔ g.Marked k (decS x) := by
  rw [h x hx]
  constructor
  · rintro (a | a | a | a)
    · exact .inl a
    · exact .inr a
    · simp at a
    · simp at a
  · rintro (a | a)
    · exact .inl a
    · exact .inr (.inl a)
theorem Gr.RoundM.next {R L : List Stt} {M : Nat → Bool} (h : g.RoundM R L M) {y : Stt} (hy : g.val y) : g.RoundM R (L ++ [y]) (updB (updB M (codeS y)) (codeS (g.rev y))) := by
  have hr := Gr.rev_val hg hy
  intro k hk
  have hkv := Gr.dec_val hg hk
  have e3 : decS k = g.rev y ↔ g.rev (decS k) = y := ⟨fun e => by rw [e, Gr.rev_rev hg hy], fun e => by rw [← e, Gr.rev_rev hg hkv]⟩
  unfold updB
  rw [Bool.or_eq_true, Bool.or_eq_true, beq_iff_eq, beq_iff_eq, code_inj hr.2, code_inj hy.2, h k hk, e3]
  simp only [List.mem_append, List.mem_singleton]
  constructor
  · rintro (a | a | a | a | a | a)
    · exact .inr (.inr (.inr (.inr a)))
    · exact .inr (.inr (.inl (.inr a)))
    · exact .inl a
    · exact .inr (.inl a)
    · exact .inr (.inr (.inl (.inl a)))
    · exact .inr (.inr (.inr (.inl a)))
  · rintro (a | a | (a | a) | (a | a))
    · exact .inr (.inr (.inl a))
    · exact .inr (.inr (.inr (.inl a)))
    · exact .inr (.inr (.inr (.inr (.inl a))))
    · exact .inr (.inl a)
    · exact .inr (.inr (.inr (.inr (.inr a))))
    · exact .inl a
theorem Gr.RoundM.done {R : List Stt} {M : Nat → Bool} {r : Stt} (hr : g.val r) (hc : Cyc g.nx r) (h : g.RoundM R (g.roundOf r) M) : g.RoundM (R ++ [r]) [] M := by
  intro k hk
  rw [h k hk]
  have e := Gr.same_iff hg hr hc (y := decS k)
  constructor
  · rintro (a | ⟨q, hq, a⟩ | a)
    · exact .inl a
    · exact .inr (.inl ⟨q, List.mem_append.2 (.inl hq), a⟩)
    · exact .inr (.inl ⟨r, by simp, e.2 a⟩)
  · rintro (a | ⟨q, hq, a⟩ | a | a)
    · exact .inl a
    · rcases List.mem_append.1 hq with hq | hq
      · exact .inr (.inl ⟨q, hq, a⟩)
      · have : q = r := by simpa using hq
        subst this
        exact .inr (.inr (e.1 a))
    · simp at a
    · simp at a
theorem Gr.code_val {x : Stt} (h : g.val x) : codeS x < 4 * (g.n * g.m) := Gr.code_lt hg h
end

theorem cellStt {w0 W : World} {segs : List Seg} (h : St w0 W segs) {ao : Option Addr} {n cap : Nat} {L : List Stt} {f : Stt → Nat} (i : Nat) (hi : segs[i]? = some (SI (.slice ao n cap) (L.map fun y => (f y : Int)))) {j : Nat} {y : Stt} (hj : L[j]? = some y) :
    ∃ b off, ao = some ⟨b, off, none⟩ ∧ W.cell? ⟨b, off + j, none⟩ = some (.int .i64 (f y)) := by
  obtain ⟨h1, h2⟩ := List.getElem?_eq_some_iff.1 hj
  have := h.cellAt i hi (j := j) (by rw [List.length_map]; exact h1)
  rwa [List.getD_eq_getElem?_getD, List.getElem?_map, hj] at this

/-- The lengths of the rounds found below the code k. -/
noncomputable def Gr.lens (g : Gr) (k : Nat) : List Int := (g.repsTo k).map fun r => (g.per r : Int)
noncomputable def Gr.rmany (g : Gr) : Nat := (g.repsTo (4 * (g.n * g.m))).length
theorem Gr.reps_le' (g : Gr) (k : Nat) : (g.repsTo k).length ≤ k := by
  unfold Gr.repsTo
  exact Nat.le_trans (List.length_filter_le _ _) (by simp)
theorem Gr.lens_length (g : Gr) (k : Nat) : (g.lens k).length = (g.repsTo k).length := List.length_map _
theorem Gr.lens_snoc {g : Gr} {k : Nat} {r : Stt} (h : g.repsTo (k + 1) = g.repsTo k ++ [r]) : g.lens k ++ [(g.per r : Int)] = g.lens (k + 1) := by
  unfold Gr.lens
  rw [h, List.map_append]; rfl
theorem Gr.round_val' {g : Gr} (hg : g.ok) {r y : Stt} (hr : g.val r) (hc : Cyc g.nx r) (hy : y ∈ g.roundOf r) : g.val y ∧ Cyc g.nx y := by
  have o := (Gr.mem_round hg hr hc).1 hy
  exact ⟨(Gr.rvs hg).on_val hr o, (hc.on o).2⟩
theorem Gr.closed_cyc {g : Gr} (hg : g.ok) {x : Stt} (hx : g.val x) (hc : Cyc g.nx x) : g.Closed x (g.per x) true := by
  obtain ⟨h1, h2, h3, h4⟩ := Gr.per_spec hg hx hc
  exact ⟨h1, h2, h4, .inl ⟨rfl, h3⟩⟩

theorem xor_opp {D : Nat} (h : D < 4) : bits BinOp.xor IntKind.i64 (D : Int) 2 = ((opp D : Nat) : Int) := by
  have h4 : D = 0 ∨ D = 1 ∨ D = 2 ∨ D = 3 := by omega
  rcases h4 with h | h | h | h <;> rw [h] <;> rfl

end Go.Proofs.Ytmlenaelijchjaa
