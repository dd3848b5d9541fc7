/- Contract: going on by a cell (after). -/
import Derived.Test.YtmlenaelijchjaaAfterW
import Derived.Deep.DeepCutAuto
namespace Go.Proofs.Ytmlenaelijchjaa
open Go.RowKit
set_option linter.unusedVariables false

/-- Two boxes that the call laid, behind a callee that makes memory of its own. -/
def Boxes (w w9 : World) (a b e f : Value) : Prop :=
  (w9.cell? ⟨w.heap.size, 0, none⟩ = some a ∧ w9.cell? ⟨w.heap.size, 1, none⟩ = some b ∧ w9.cell? ⟨w.heap.size + 1, 0, none⟩ = some e ∧ w9.cell? ⟨w.heap.size + 1, 1, none⟩ = some f ∧
      w9.frozen? ⟨w.heap.size + 1, 0, none⟩ = false ∧ w9.frozen? ⟨w.heap.size + 1, 1, none⟩ = false) ∧ w.heap.size + 1 < w9.heap.size ∧ Below w.heap.size w w9
theorem boxes {w w9 : World} {a b e f : Value} {ty : TypeId} {nq : Nat} (bT : Below (((w.alloc (.cells #[a, b] ty)).alloc (.cells #[e, f] ty)).drewN nq).heap.size (((w.alloc (.cells #[a, b] ty)).alloc (.cells #[e, f] ty)).drewN nq) w9) : Boxes w w9 a b e f := by
  have hz := bT.size
  simp only [World.heap_drewN, World.size_alloc] at hz
  refine ⟨⟨(bT.cell (p := ⟨w.heap.size, 0, none⟩) (by simp; omega)).trans (by simp [go_sem]), (bT.cell (p := ⟨w.heap.size, 1, none⟩) (by simp; omega)).trans (by simp [go_sem]), (bT.cell (p := ⟨w.heap.size + 1, 0, none⟩) (by simp)).trans (by simp [go_sem]),
    (bT.cell (p := ⟨w.heap.size + 1, 1, none⟩) (by simp)).trans (by simp [go_sem]), (bT.frozen (p := ⟨w.heap.size + 1, 0, none⟩) (by simp)).trans (by simp [go_sem]), (bT.frozen (p := ⟨w.heap.size + 1, 1, none⟩) (by simp)).trans (by simp [go_sem])⟩, by omega, ?_⟩
  exact (below_dn (((Below.refl w.heap.size w).alloc (Nat.le_refl _) _).alloc (by simp) _) _).trans (bT.mono (by simp; omega))
theorem cell_alloc_lt {w : World} {o : Obj} {b k : Nat} {v : Value} (h : w.cell? ⟨b, k, none⟩ = some v) : (w.alloc o).cell? ⟨b, k, none⟩ = some v :=
  (World.cell?_of_block (w := w) (Below.heap_alloc w o b (World.block_lt_of_cell? w _ h))).trans h
theorem frozen_alloc_lt {w : World} {o : Obj} {b k : Nat} {v : Bool} (hb : b < w.heap.size) (h : w.frozen? ⟨b, k, none⟩ = v) : (w.alloc o).frozen? ⟨b, k, none⟩ = v :=
  (World.frozen?_of_block (w := w) (Below.heap_alloc w o b hb)).trans h

/-- What 'after' tells: the next state and -1, or the state and the port. -/
def Gr.aft (g : Gr) (x : Stt) : Stt × Int := match g.nx x with | some y => (y, -1) | none => (x, (g.out x : Int))

set_option maxRecDepth 100000 in
set_option maxHeartbeats 8000000 in
theorem after_any (ao : Option Addr) (cap : Nat) (ss : List ByteArray) (c d : Nat) (w : World) (hx : CellsS w ao ss) (hg : gridB ss = true) (hv : (gr ss).val (c, d)) :
    Calls Try.prog 43 #[.slice ao ss.length cap, .agg #[.int .i64 c, .int .i64 d]] w fun e w' =>
      e = .returned (.tuple #[.agg #[.int .i64 ((gr ss).aft (c, d)).1.1, .int .i64 ((gr ss).aft (c, d)).1.2], .int .i64 ((gr ss).aft (c, d)).2]) ∧ Below w.heap.size w w' := by
  have hok := gr_ok hg
  have hn1 : 1 ≤ ss.length := hok.n1
  have hn5 : ss.length ≤ 5 := hok.n5
  have hm1 : 1 ≤ (rowOf ss 0).size := hok.m1
  have hm5 : (rowOf ss 0).size ≤ 5 := hok.m5
  have hr : c / (rowOf ss 0).size < ss.length := Gr.row_lt hok hv.1
  have hk : c % (rowOf ss 0).size < (rowOf ss 0).size := Gr.col_lt hok c
  have hd : d < 4 := hv.2
  have hc25 : c < 25 := Nat.lt_of_lt_of_le hv.1 (Gr.size_le hok)
  have hrs : (rowOf ss (c / (rowOf ss 0).size)).size = (rowOf ss 0).size := gr_row hg hr
  obtain ⟨b, off, rfl, hc, hbb⟩ := hx.at (i := 0) (by omega)
  have hc0 := hc 0 (by omega)
  have hcr := hc _ hr
  rw [Nat.add_zero] at hc0
  have hA : (gr ss).aft (c, d) = (match (if bend (sgn (rowOf ss (c / (rowOf ss 0).size)) (c % (rowOf ss 0).size)) d = 0 then (if c / (rowOf ss 0).size = 0 then none else some (c - (rowOf ss 0).size, 0))
    else if bend (sgn (rowOf ss (c / (rowOf ss 0).size)) (c % (rowOf ss 0).size)) d = 1 then (if c % (rowOf ss 0).size = (rowOf ss 0).size - 1 then none else some (c + 1, 1))
    else if bend (sgn (rowOf ss (c / (rowOf ss 0).size)) (c % (rowOf ss 0).size)) d = 2 then (if c / (rowOf ss 0).size = ss.length - 1 then none else some (c + (rowOf ss 0).size, 2))
    else (if c % (rowOf ss 0).size = 0 then none else some (c - 1, 3)) : Option Stt) with
    | some y => (y, -1)
    | none => ((c, d), ((if bend (sgn (rowOf ss (c / (rowOf ss 0).size)) (c % (rowOf ss 0).size)) d = 0 then c % (rowOf ss 0).size
      else if bend (sgn (rowOf ss (c / (rowOf ss 0).size)) (c % (rowOf ss 0).size)) d = 1 then (rowOf ss 0).size + c / (rowOf ss 0).size
      else if bend (sgn (rowOf ss (c / (rowOf ss 0).size)) (c % (rowOf ss 0).size)) d = 2 then (rowOf ss 0).size + ss.length + (rowOf ss 0).size - 1 - c % (rowOf ss 0).size
      else 2 * (rowOf ss 0).size + ss.length + ss.length - 1 - c / (rowOf ss 0).size : Nat) : Int))) := rfl
  have hcm : c / (rowOf ss 0).size * (rowOf ss 0).size + c % (rowOf ss 0).size = c := Gr.cell_eq hok c
  have i1 : (c : Int) / ((rowOf ss 0).size : Int) = ((c / (rowOf ss 0).size : Nat) : Int) := (Int.natCast_ediv _ _).symm
  have i2 : (c : Int) % ((rowOf ss 0).size : Int) = ((c % (rowOf ss 0).size : Nat) : Int) := (Int.natCast_emod _ _).symm
  have hbd := bend_lt (sgn (rowOf ss (c / (rowOf ss 0).size)) (c % (rowOf ss 0).size)) hd
  clear hc hx hok hv hg
  have hT : ∀ W, Calls Try.prog 44 #[.int .u8 (sgn (rowOf ss (c / (rowOf ss 0).size)) (c % (rowOf ss 0).size)), .int .i64 d] W fun e w' => e = .returned (.int .i64 (bend (sgn (rowOf ss (c / (rowOf ss 0).size)) (c % (rowOf ss 0).size)) d)) ∧ Below W.heap.size W w' := fun W => turned_any _ d W hd
  generalize bend (sgn (rowOf ss (c / (rowOf ss 0).size)) (c % (rowOf ss 0).size)) d = D at hA hbd hT
  have hsg : ∀ h, (((rowOf ss (c / (rowOf ss 0).size))[c % (rowOf ss 0).size]'h).toNat : Int) = sgn (rowOf ss (c / (rowOf ss 0).size)) (c % (rowOf ss 0).size) := fun h => sgn_eq _ _ h
  generalize sgn (rowOf ss (c / (rowOf ss 0).size)) (c % (rowOf ss 0).size) = q at hT hsg
  generalize rowOf ss (c / (rowOf ss 0).size) = s at hcr hsg hrs
  generalize rowOf ss 0 = s0 at *
  generalize c / s0.size = r at *
  generalize c % s0.size = k at *
  generalize (gr ss).aft (c, d) = A at hA ⊢
  have hks : k < s.size := by rw [hrs]; exact hk
  have hsg := hsg hks
  have HSG := Lib.hid hsg
  have HRS := Lib.hid hrs
  have HT := Lib.hid hT
  have HA := Lib.hid hA
  have HCM := Lib.hid hcm
  clear hsg hrs hT hA hcm
  have j1 : (0 : Int) ≤ (r : Int) := by omega
  have j2 : (r : Int) < ss.length := by omega
  have j3 : (k : Int) < s.size := by omega
  have z0 : ((s0.size : Int) == 0) = false := beq_eq_false_iff_ne.2 (by omega)
  go_enter Try.func43, Try.ntmps43
  go_wp2
  go_quiet (fail)
  go_wp2
  go_quiet (fail)
  simp only [i2]
  go_upto_region 3 with (fail)
  go_cut [10] (fun v wx => v = .int .i64 D ∧ Boxes w wx (.int .i64 c) (.int .i64 d) (.int .i64 0) (.int .i64 0))
  case first =>
    go_region_with (go_at_call 44; (try rw [HSG.out]); refine (HT.out _).mono ?_; rintro e w9 ⟨rfl, bT⟩; have B9 := Lib.hid (boxes bT); clear bT)
    all_goals
      go_wp2_with fail
      go_meet
      exact ⟨rfl, B9.out⟩
  case rest =>
  obtain ⟨rfl, hB⟩ := hcut
  obtain ⟨⟨f0, f1, f2, f3, f4, f5⟩, hz9, b9⟩ := hB
  have B9 := Lib.hid b9
  have g0 : ∀ o, (wc.alloc o).cell? ⟨w.heap.size, 0, none⟩ = some (.int .i64 c) := fun o => cell_alloc_lt f0
  have g1 : ∀ o, (wc.alloc o).cell? ⟨w.heap.size, 1, none⟩ = some (.int .i64 d) := fun o => cell_alloc_lt f1
  have g2 : ∀ o, (wc.alloc o).cell? ⟨w.heap.size + 1, 0, none⟩ = some (.int .i64 0) := fun o => cell_alloc_lt f2
  have g3 : ∀ o, (wc.alloc o).cell? ⟨w.heap.size + 1, 1, none⟩ = some (.int .i64 0) := fun o => cell_alloc_lt f3
  have g4 : ∀ o, (wc.alloc o).frozen? ⟨w.heap.size + 1, 0, none⟩ = false := fun o => frozen_alloc_lt hz9 f4
  have g5 : ∀ o, (wc.alloc o).frozen? ⟨w.heap.size + 1, 1, none⟩ = false := fun o => frozen_alloc_lt hz9 f5
  have r0 : ∀ x y o, (((wc.setCell ⟨w.heap.size + 1, 0, none⟩ x).setCell ⟨w.heap.size + 1, 1, none⟩ y).alloc o).cell? ⟨w.heap.size + 1, 0, none⟩ = some x := fun x y o => cell_alloc_lt (by simp [go_sem, f2])
  have r1 : ∀ x y o, (((wc.setCell ⟨w.heap.size + 1, 0, none⟩ x).setCell ⟨w.heap.size + 1, 1, none⟩ y).alloc o).cell? ⟨w.heap.size + 1, 1, none⟩ = some y := fun x y o => cell_alloc_lt (by simp [go_sem, f3])
  have R0 := Lib.hid r0
  have R1 := Lib.hid r1
  clear b9 r0 r1
  have hD : D = 0 ∨ D = 1 ∨ D = 2 ∨ D = 3 := by omega
  rcases hD with rfl | rfl | rfl | rfl
  · by_cases hb : r = 0
    · have hA := HA.out
      simp [hb] at hA
      have HA2 := Lib.hid hA
      have hb2 : ((r : Int) == 0) = true := beq_iff_eq.2 (by omega)
      clear hA hb hc0 hcr hsg
      go_wp2
      refine bodyPost_ret (v := .tuple #[.agg #[.int .i64 c, .int .i64 d], .int .i64 (k)]) (by simp [results, Try.results43, go_sem, f2, f3]) rfl ⟨?_, ?_⟩
      · rw [HA2.out]
        first | done | (simp; done) | (simp; omega)
      · exact (B9.out.setCell (by simp) _).setCell (by simp) _
    · have hA := HA.out
      simp [hb] at hA
      have HA2 := Lib.hid hA
      have hb2 : ((r : Int) == 0) = false := beq_eq_false_iff_ne.2 (by omega)
      have hlow : s0.size ≤ c := by
        have h1 := HCM.out
        have h2 : 1 * s0.size ≤ r * s0.size := Nat.mul_le_mul_right _ (by omega)
        omega
      clear hA hb hc0 hcr hsg
      go_wp2
      go_region
      all_goals
        go_wp2
        refine bodyPost_ret (v := .tuple #[.agg #[.int .i64 ((c : Int) + -s0.size), .int .i64 0], .int .i64 (-1)]) (by simp [results, Try.results43, go_sem, R0.out, R1.out]) rfl ⟨?_, ?_⟩
        · rw [HA2.out]
          first | done | (simp; done) | (simp; omega)
        · go_grown
          all_goals first | exact B9.out | skip
  · by_cases hb : k = s0.size - 1
    · have hA := HA.out
      simp [hb] at hA
      have HA2 := Lib.hid hA
      have hb2 : ((k : Int) == (s0.size : Int) - 1) = true := beq_iff_eq.2 (by omega)
      clear hA hb hc0 hcr hsg
      go_wp2
      refine bodyPost_ret (v := .tuple #[.agg #[.int .i64 c, .int .i64 d], .int .i64 ((s0.size : Int) + r)]) (by simp [results, Try.results43, go_sem, f2, f3]) rfl ⟨?_, ?_⟩
      · rw [HA2.out]
        first | done | (simp; done) | (simp; omega)
      · exact (B9.out.setCell (by simp) _).setCell (by simp) _
    · have hA := HA.out
      simp [hb] at hA
      have HA2 := Lib.hid hA
      have hb2 : ((k : Int) == (s0.size : Int) - 1) = false := beq_eq_false_iff_ne.2 (by omega)
      clear hA hb hc0 hcr hsg
      go_wp2
      go_region
      all_goals
        go_wp2
        refine bodyPost_ret (v := .tuple #[.agg #[.int .i64 ((c : Int) + 1), .int .i64 1], .int .i64 (-1)]) (by simp [results, Try.results43, go_sem, R0.out, R1.out]) rfl ⟨?_, ?_⟩
        · rw [HA2.out]
          first | done | (simp; done) | (simp; omega)
        · go_grown
          all_goals first | exact B9.out | skip
  · by_cases hb : r = ss.length - 1
    · have hA := HA.out
      simp [hb] at hA
      have HA2 := Lib.hid hA
      have hb2 : ((r : Int) == (ss.length : Int) - 1) = true := beq_iff_eq.2 (by omega)
      clear hA hb hc0 hcr hsg
      go_wp2
      refine bodyPost_ret (v := .tuple #[.agg #[.int .i64 c, .int .i64 d], .int .i64 ((s0.size : Int) + ss.length + s0.size - 1 - k)]) (by simp [results, Try.results43, go_sem, f2, f3]) rfl ⟨?_, ?_⟩
      · rw [HA2.out]
        first | done | (simp; done) | (simp; omega)
      · exact (B9.out.setCell (by simp) _).setCell (by simp) _
    · have hA := HA.out
      simp [hb] at hA
      have HA2 := Lib.hid hA
      have hb2 : ((r : Int) == (ss.length : Int) - 1) = false := beq_eq_false_iff_ne.2 (by omega)
      clear hA hb hc0 hcr hsg
      go_wp2
      go_region
      all_goals
        go_wp2
        refine bodyPost_ret (v := .tuple #[.agg #[.int .i64 ((c : Int) + s0.size), .int .i64 2], .int .i64 (-1)]) (by simp [results, Try.results43, go_sem, R0.out, R1.out]) rfl ⟨?_, ?_⟩
        · rw [HA2.out]
          first | done | (simp; done) | (simp; omega)
        · go_grown
          all_goals first | exact B9.out | skip
  · by_cases hb : k = 0
    · have hA := HA.out
      simp [hb] at hA
      have HA2 := Lib.hid hA
      have hb2 : ((k : Int) == 0) = true := beq_iff_eq.2 (by omega)
      clear hA hb hc0 hcr hsg
      go_wp2
      refine bodyPost_ret (v := .tuple #[.agg #[.int .i64 c, .int .i64 d], .int .i64 (2 * (s0.size : Int) + ss.length + ss.length - 1 - r)]) (by simp [results, Try.results43, go_sem, f2, f3]) rfl ⟨?_, ?_⟩
      · rw [HA2.out]
        first | done | (simp; done) | (simp; omega)
      · exact (B9.out.setCell (by simp) _).setCell (by simp) _
    · have hA := HA.out
      simp [hb] at hA
      have HA2 := Lib.hid hA
      have hb2 : ((k : Int) == 0) = false := beq_eq_false_iff_ne.2 (by omega)
      have hlow : 1 ≤ c := by
        have h1 := HCM.out
        omega
      clear hA hb hc0 hcr hsg
      go_wp2
      go_region
      all_goals
        go_wp2
        refine bodyPost_ret (v := .tuple #[.agg #[.int .i64 ((c : Int) + -1), .int .i64 3], .int .i64 (-1)]) (by simp [results, Try.results43, go_sem, R0.out, R1.out]) rfl ⟨?_, ?_⟩
        · rw [HA2.out]
          first | done | (simp; done) | (simp; omega)
        · go_grown
          all_goals first | exact B9.out | skip
end Go.Proofs.Ytmlenaelijchjaa
