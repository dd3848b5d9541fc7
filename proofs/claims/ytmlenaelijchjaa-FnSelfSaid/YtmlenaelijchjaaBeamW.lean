/- Contract: the steps of a beam (beam). -/
import Derived.Test.YtmlenaelijchjaaAfter2W
import Derived.Test.YtmlenaelijchjaaStS
namespace Go.Proofs.Ytmlenaelijchjaa
open Go.RowKit
set_option linter.unusedVariables false

/-- A slice of steps. -/
def sttCells (L : List Stt) : List Value := L.flatMap fun x => [.int .i64 x.1, .int .i64 x.2]
def SStt (v : Value) (L : List Stt) : Seg := ⟨v, 37, 2, L.length, sttCells L⟩
theorem sttCells_length (L : List Stt) : (sttCells L).length = L.length * 2 := by
  induction L with
  | nil => rfl
  | cons x t ih => simp only [sttCells, List.flatMap_cons, List.length_append, List.length_cons, List.length_nil] at ih ⊢; omega
theorem sttInfo : (Try.prog.info? 37).map (fun i => (i.zero, i.size, i.bytes)) = some (some (.agg #[.int .i64 0, .int .i64 0]), 2, 16) := by kernel_rfl
theorem elemStt : Elem Try.prog 53 37 2 16 (.agg #[.int .i64 0, .int .i64 0]) := ⟨Try.underlying53, sttInfo, rfl, by decide⟩
theorem SStt_append {v : Value} {xs : List Stt} {x : Stt} : (⟨v, 37, 2, xs.length + 1, sttCells xs ++ [.int .i64 x.1, .int .i64 x.2]⟩ : Seg) = SStt v (xs ++ [x]) := by
  simp [SStt, sttCells]

/-- 'append(s, x)', s a piece of steps. -/
theorem wpPushStt (w : World) {ops : Array Oper} {rest : List Oper} {o : Oper} {a : Act} {Q : Exit → Act → World → Prop}
    (hg : o.guard = none) (sl x : Operand) (ho : o.op = .call { callee := .builtin .append, args := #[sl, x], argTypes := #[53, 53] }) (base : Nat) (v : Value) (xs : List Stt) (y : Stt) (ad : Addr)
    (hs : a.eval sl = v) (hown : (SStt v xs).own w base) (hx : a.eval x = .slice (some ad) 1 1) (hc : ∀ (j : Nat) (u : Value), [Value.int .i64 y.1, Value.int .i64 y.2][j]? = some u → w.cell? (ad.add j) = some u) (hl : xs.length ≤ 4194304)
    (hK : ∀ v' w', Became w w' base (SStt v xs) (SStt v' (xs ++ [y])) → wpList Try.prog ops Q rest (a.put o.dst v') w') : wpList Try.prog ops Q (o :: rest) a w := by
  refine wpAppendSt elemStt w hg sl x ho base (SStt v xs) rfl rfl hs hown ad 1 1 [.int .i64 y.1, .int .i64 y.2] hx rfl hc ?_ (by simp only [SStt]; unfold maxLen; omega) (by simp only [SStt]; omega) ?_
  · intro u hu
    simp at hu
    rcases hu with rfl | rfl <;> rfl
  · intro v' w' hb
    refine hK v' w' ?_
    rw [← SStt_append]
    exact hb

/-- A box that holds a step. -/
def SB (g : Nat) (x : Stt) : Seg := SStt (.slice (some ⟨g, 0, none⟩) 1 1) [x]
theorem SB_cells {w : World} {base g : Nat} {x : Stt} (h : (SB g x).own w base) :
    w.cell? ⟨g, 0, none⟩ = some (.int .i64 x.1) ∧ w.cell? ⟨g, 1, none⟩ = some (.int .i64 x.2) ∧ w.frozen? ⟨g, 0, none⟩ = false ∧ w.frozen? ⟨g, 1, none⟩ = false ∧ g < w.heap.size ∧ base ≤ g :=
  ⟨World.ownsRow.cellAt h 0 (by show 0 < 1 * 2; omega), World.ownsRow.cellAt h 1 (by show 1 < 1 * 2; omega), World.ownsRow.frozenAt h 0, World.ownsRow.frozenAt h 1, (h.lt g rfl).2, (h.lt g rfl).1⟩
theorem SB_put {w : World} {base g : Nat} {x : Stt} (h : (SB g x).own w base) (y : Stt) :
    (SB g y).own ((w.setCell ⟨g, 0, none⟩ (.int .i64 y.1)).setCell ⟨g, 1, none⟩ (.int .i64 y.2)) base ∧ w.grownBy ((w.setCell ⟨g, 0, none⟩ (.int .i64 y.1)).setCell ⟨g, 1, none⟩ (.int .i64 y.2)) (some g) := by
  have h1 := World.ownsRow.stored h 0 (.int .i64 y.1)
  have h2 := World.ownsRow.stored h1.1 1 (.int .i64 y.2)
  exact ⟨h2.1, grownBy_trans h1.2 h2.2⟩
theorem SB_new (w : World) (x : Stt) : (SB w.heap.size x).own (w.alloc (.cells #[.int .i64 x.1, .int .i64 x.2] 37)) w.heap.size :=
  World.ownsRow_lit w #[.int .i64 x.1, .int .i64 x.2] 1 (Nat.le_refl _) (by unfold maxLen; omega) rfl
theorem SStt_shape {w : World} {base : Nat} {v : Value} {L : List Stt} (h : (SStt v L).own w base) : ∃ ao cap, v = .slice ao L.length cap ∧ L.length ≤ cap ∧ cap ≤ maxLen := by
  rcases h.2 with ⟨hv, hn⟩ | ⟨g, cap, cur, hv, hb, hg, hnc, hcm, _⟩
  · exact ⟨none, 0, by rw [show L.length = 0 from hn]; exact hv, by rw [show L.length = 0 from hn]; exact Nat.le_refl _, Nat.zero_le _⟩
  · exact ⟨_, cap, hv, hnc, hcm⟩

/-- The first j states of the way from x. -/
def Gr.wayTo (g : Gr) (x : Stt) (j : Nat) : List Stt := (List.range j).map fun i => (iter g.nx i x).getD x
theorem Gr.wayTo_length (g : Gr) (x : Stt) (j : Nat) : (g.wayTo x j).length = j := by simp [Gr.wayTo]
theorem Gr.wayTo_succ {g : Gr} {x y : Stt} {j : Nat} (h : iter g.nx j x = some y) : g.wayTo x j ++ [y] = g.wayTo x (j + 1) := by
  simp [Gr.wayTo, List.range_succ, h]

theorem SB_st {w0 W : World} {a : Seg} {g : Nat} {x : Stt} (h : St w0 W [a, SB g x]) (y : Stt) : St w0 ((W.setCell ⟨g, 0, none⟩ (.int .i64 y.1)).setCell ⟨g, 1, none⟩ (.int .i64 y.2)) [a, SB g y] := by
  have := SB_put (h.own (SB g x) (by simp)) y
  exact St.writeSeg [a] [] (SB g x) (SB g y) h rfl this.1 this.2

theorem two_new (w : World) (c d : Value) (ty : TypeId) : ∀ (j : Nat) (u : Value), [c, d][j]? = some u → (w.alloc (.cells #[c, d] ty)).cell? ((⟨w.heap.size, 0, none⟩ : Addr).add j) = some u := by
  intro j u hu
  rw [Go.WideShapes.add_plain]
  match j, hu with
  | 0, hu => simp at hu; subst hu; simp [go_sem]
  | 1, hu => simp at hu; subst hu; simp [go_sem]

/-- The loop's relation. -/
def BeamRel (G : Gr) (w wr : World) (E y : Stt) (K B : Nat) (v e : Value) : Prop :=
  ∃ (j : Nat) (ao' : Option Addr) (c' : Nat) (x : Stt), v = .slice ao' j c' ∧ St w wr [SStt v (G.wayTo E j), SB B x] ∧
    ((j ≤ K ∧ iter G.nx j E = some x ∧ e = .int .i64 (-1)) ∨ (j = K + 1 ∧ x = y ∧ e = .int .i64 (G.out y)))
def lenV : Value → Nat | .slice _ n _ => n | _ => 0

/-- How a beam goes: so many steps on, the last state, the port. -/
structure Gr.Beam (g : Gr) (p K : Nat) (y : Stt) : Prop where
  lt : K < 100
  way : iter g.nx K (g.ent p) = some y
  last : g.nx y = none

theorem beam_any (ao : Option Addr) (cap : Nat) (ss : List ByteArray) (p K : Nat) (y : Stt) (w : World) (hx : CellsS w ao ss) (hg : gridB ss = true) (hp : p < (gr ss).ports) (hB : (gr ss).Beam p K y) :
    Calls Try.prog 29 #[.slice ao ss.length cap, .int .i64 p] w fun e w' => ∃ v, e = .returned (.tuple #[v, .int .i64 ((gr ss).out y)]) ∧ (SStt v ((gr ss).wayTo ((gr ss).ent p) (K + 1))).own w' w.heap.size ∧ Below w.heap.size w w' := by
  have hok := gr_ok hg
  have HX := Lib.hid hx
  have HG := Lib.hid hg
  have HP := Lib.hid hp
  have HB := Lib.hid hB
  have HV := Lib.hid (Gr.ent_val hok hp)
  have HS := Lib.hid (Gr.steps hok)
  have hK := hB.lt
  clear hx hg hp hB hok
  have sta := (St.init w).addSeg (s := SStt (.slice (some ⟨w.heap.size, 0, none⟩) 0 0) []) (World.ownsRow_made w #[] 0 (Nat.le_refl _) (Nat.zero_le _) rfl) ((Below.refl _ _).alloc (Nat.le_refl _) (.cells #[] 37))
  have STA := Lib.hid sta
  clear sta
  go_enter Try.func29, Try.ntmps29
  go_wp2_with fail
  refine (enter_any ao cap ss p _ (HX.out.below STA.out.below (Nat.le_refl _)) HG.out HP.out).mono ?_
  rintro e w2 ⟨rfl, b2⟩
  have st2 := STA.out.step b2
  have st3 := (st2.addSeg (SB_new w2 ((gr ss).ent p)) ((Below.refl _ _).alloc (Nat.le_refl _) _)).swap
  have ST3 := Lib.hid st3
  clear b2 st2 st3
  generalize hE : (gr ss).ent p = E at *
  have HE := Lib.hid hE
  clear hE
  go_wp2_with fail
  go_loopw [6, 8] (fun v e wr => BeamRel (gr ss) w wr E y K w2.heap.size v e) (fun v _ _ => K + 2 - lenV v)
  case atStart => exact ⟨0, _, _, E, rfl, ST3.out, .inl ⟨Nat.zero_le _, rfl, rfl⟩⟩
  case round =>
    obtain ⟨j, ao', c', x, rfl, st, hcase⟩ := hrel
    rcases hcase with ⟨hj, hit, rfl⟩ | ⟨rfl, rfl, rfl⟩
    · obtain ⟨k0, k1, k2, k3, k4, _⟩ := SB_cells (st.own _ (List.mem_cons_of_mem _ List.mem_cons_self))
      have hv : (gr ss).val x := HS.out.iter_stay j E x HV.out hit
      have sta := st.step ((Below.refl _ _).alloc (Nat.le_refl _) (.cells #[.int .i64 x.1, .int .i64 x.2] 37))
      have HSA := Lib.hid sta
      have HI := Lib.hid hit
      have HVx := Lib.hid hv
      have hwl := Gr.wayTo_length (gr ss) E j
      have HWL := Lib.hid hwl
      clear st sta hit hv hwl
      go_wp2_with (at_builtin; refine wpPushStt _ rfl _ _ rfl w.heap.size _ _ x _ rfl (HSA.out.own _ List.mem_cons_self) rfl (two_new _ _ _ _) (by rw [HWL.out]; omega) ?_; intro v' w4 hbec; have HS4 := Lib.hid (HSA.out.became0 hbec); obtain ⟨q0, q1, q2, q3, q4, _⟩ := SB_cells (HS4.out.own _ (List.mem_cons_of_mem _ List.mem_cons_self)); clear hbec)
      have ha := after_any ao cap ss x.1 x.2 w4 (HX.out.below HS4.out.below (Nat.le_refl _)) HG.out HVx.out
      by_cases hjK : j = K
      · have hxy : x = y := by
          have h1 := HB.out.way
          rw [HE.out, ← hjK, HI.out] at h1
          exact Option.some.inj h1
        have haft : (gr ss).aft (x.1, x.2) = (x, ((gr ss).out x : Int)) := by
          have h1 := HB.out.last
          rw [← hxy] at h1
          show (match (gr ss).nx x with | some y => (y, (-1 : Int)) | none => (x, ((gr ss).out x : Int))) = _
          rw [h1]
        rw [haft] at ha
        refine ha.mono ?_
        rintro e w5 ⟨rfl, b5⟩
        have st5 := HS4.out.step b5
        obtain ⟨p0, p1, p2, p3, p4, _⟩ := SB_cells (st5.own _ (List.mem_cons_of_mem _ List.mem_cons_self))
        have st6 := SB_st st5 x
        have hs6 := Gr.wayTo_succ HI.out
        rw [hs6] at st6
        obtain ⟨a6, c6, hv6, _⟩ := SStt_shape (st6.own _ List.mem_cons_self)
        rw [Gr.wayTo_length] at hv6
        subst hv6
        have H6 := Lib.hid st6
        have HXY := Lib.hid hxy
        have HJK := Lib.hid hjK
        clear ha haft b5 st5 st6 hs6 hxy hjK q0 q1 q2 q3 q4 k0 k1 k2 k3 k4
        go_wp2
        go_roundw
        case rel => exact ⟨j + 1, a6, c6, x, rfl, H6.out, .inr ⟨by rw [HJK.out], HXY.out, by rw [HXY.out]⟩⟩
        case measure => simp [lenV]; omega
      · obtain ⟨x', hx'⟩ : ∃ x', (gr ss).nx x = some x' := by
          obtain ⟨z, hz⟩ := iter_lt HB.out.way (j + 1) (by omega)
          rw [HE.out] at hz
          obtain ⟨z', hz', hzz⟩ := iter_pred hz
          rw [HI.out] at hz'
          cases hz'
          exact ⟨z, hzz⟩
        have hit' : iter (gr ss).nx (j + 1) E = some x' := by
          show (iter (gr ss).nx j E).bind (gr ss).nx = _
          rw [HI.out]; exact hx'
        have haft : (gr ss).aft (x.1, x.2) = (x', (-1 : Int)) := by
          show (match (gr ss).nx x with | some y => (y, (-1 : Int)) | none => (x, ((gr ss).out x : Int))) = _
          rw [hx']
        rw [haft] at ha
        refine ha.mono ?_
        rintro e w5 ⟨rfl, b5⟩
        have st5 := HS4.out.step b5
        obtain ⟨p0, p1, p2, p3, p4, _⟩ := SB_cells (st5.own _ (List.mem_cons_of_mem _ List.mem_cons_self))
        have st6 := SB_st st5 x'
        have hs6 := Gr.wayTo_succ HI.out
        rw [hs6] at st6
        obtain ⟨a6, c6, hv6, _⟩ := SStt_shape (st6.own _ List.mem_cons_self)
        rw [Gr.wayTo_length] at hv6
        subst hv6
        have H6 := Lib.hid st6
        have HIT := Lib.hid hit'
        have hjK2 : j + 1 ≤ K := by omega
        clear ha haft b5 st5 st6 hs6 hit' hx' hjK q0 q1 q2 q3 q4 k0 k1 k2 k3 k4
        go_wp2
        go_roundw
        case rel => exact ⟨j + 1, a6, c6, x', rfl, H6.out, .inl ⟨hjK2, HIT.out, rfl⟩⟩
        case measure => simp [lenV]; omega
    · have hst := st.own _ List.mem_cons_self
      have hbel := st.below
      have H1 := Lib.hid hst
      have H2 := Lib.hid hbel
      have hge : (0 : Int) ≤ (((gr ss).out x : Nat) : Int) := by omega
      clear st hst hbel
      go_wp2
      go_ret2
      exact ⟨_, rfl, by rw [HE.out]; exact H1.out, H2.out⟩

theorem Gr.beam_of {g : Gr} (hg : g.ok) {p : Nat} (hp : p < g.ports) : ∃ K y, g.Beam p K y := by
  obtain ⟨K, y, hK, h1, h2⟩ := Gr.beam_ends hg hp
  have := Gr.size_le hg
  exact ⟨K, y, by omega, h1, h2⟩
end Go.Proofs.Ytmlenaelijchjaa
