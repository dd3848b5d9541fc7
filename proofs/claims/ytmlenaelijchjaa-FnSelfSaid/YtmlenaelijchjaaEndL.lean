/- Contract: the way of a beam as the spec goes it (l2Way). -/
/- Where beams end: plain facts. -/
/- Beams backwards: plain facts. -/
/- Where a beam ends, one begins: plain facts. -/
/- The beams of a grid pair its ports: plain facts. -/
import Derived.Test.YtmlenaelijchjaaAfterW
import Derived.Test.YtmlenaelijchjaaBeamW
import Derived.Test.YtmlenaelijchjaaRv
namespace Go.Proofs.Ytmlenaelijchjaa
open Go.RowKit
set_option linter.unusedVariables false
set_option linter.unusedSectionVars false
set_option linter.unusedSimpArgs false

/-- The cells and the directions of the first j states. -/
def Gr.cellsTo (g : Gr) (x : Stt) (j : Nat) : List Int := (g.wayTo x j).map fun y => (y.1 : Int)
def Gr.dirsTo (g : Gr) (x : Stt) (j : Nat) : List Int := (g.wayTo x j).map fun y => (y.2 : Int)
theorem Gr.cellsTo_length (g : Gr) (x : Stt) (j : Nat) : (g.cellsTo x j).length = j := by simp [Gr.cellsTo, Gr.wayTo_length]
theorem Gr.dirsTo_length (g : Gr) (x : Stt) (j : Nat) : (g.dirsTo x j).length = j := by simp [Gr.dirsTo, Gr.wayTo_length]
theorem Gr.cellsTo_succ {g : Gr} {x : Stt} {j c d : Nat} {a : Int} (h : iter g.nx j x = some (c, d)) (ha : (c : Int) = a) : g.cellsTo x j ++ [a] = g.cellsTo x (j + 1) := by
  simp [Gr.cellsTo, ← Gr.wayTo_succ h, ha]
theorem Gr.dirsTo_succ {g : Gr} {x : Stt} {j c d : Nat} (h : iter g.nx j x = some (c, d)) : g.dirsTo x j ++ [(d : Int)] = g.dirsTo x (j + 1) := by
  simp [Gr.dirsTo, ← Gr.wayTo_succ h]

theorem stI_bd (i d : Nat) : -1 ≤ stI i d ∧ stI i d ≤ i + 1 := by
  unfold stI
  repeat' split
  all_goals omega
theorem stK_bd (k d : Nat) : -1 ≤ stK k d ∧ stK k d ≤ k + 1 := by
  unfold stK
  repeat' split
  all_goals omega

/-- The loop's relation. -/
def WayRel (G : Gr) (w wr : World) (E : Stt) (K : Nat) (v9 v10 v11 v12 v13 : Value) : Prop :=
  ∃ (j i k d : Nat) (ao1 ao2 : Option Addr) (c1 c2 : Nat), v9 = .slice ao1 j c1 ∧ v10 = .slice ao2 j c2 ∧ v11 = .int .i64 i ∧ v12 = .int .i64 k ∧ v13 = .int .i64 d ∧
    St w wr [SI v10 (G.dirsTo E j), SI v9 (G.cellsTo E j)] ∧ i < G.n ∧ k < G.m ∧ d < 4 ∧ j ≤ K ∧ iter G.nx j E = some (i * G.m + k, d)

theorem Gr.Beam.unique {g : Gr} {p K K' : Nat} {y y' : Stt} (h : g.Beam p K y) (h' : g.Beam p K' y') : K = K' ∧ y = y' := by
  have key : ∀ {K K' : Nat} {y y' : Stt}, g.Beam p K y → g.Beam p K' y' → ¬ K < K' := by
    intro K K' y y' h h' hlt
    obtain ⟨z, hz⟩ := iter_lt h'.way (K + 1) (by omega)
    obtain ⟨z', hz', hzz⟩ := iter_pred hz
    rw [h.way] at hz'
    cases hz'
    rw [h.last] at hzz
    cases hzz
  have e : K = K' := by
    have := key h h'
    have := key h' h
    omega
  subst e
  have h1 := h.way
  rw [h'.way] at h1
  exact ⟨rfl, (Option.some.inj h1).symm⟩
open Classical in
/-- The port where the beam from a port ends. -/
noncomputable def Gr.endOf (g : Gr) (p : Nat) : Nat := if h : ∃ q : Nat × Stt, g.Beam p q.1 q.2 then g.out h.choose.2 else 0
theorem Gr.endOf_eq {g : Gr} {p K : Nat} {y : Stt} (h : g.Beam p K y) : g.endOf p = g.out y := by
  have hx : ∃ q : Nat × Stt, g.Beam p q.1 q.2 := ⟨(K, y), h⟩
  unfold Gr.endOf
  rw [dif_pos hx, (hx.choose_spec.unique h).2]
/-- The ends of all beams. -/
noncomputable def Gr.endsTo (g : Gr) (j : Nat) : List Int := (List.range j).map fun p => (g.endOf p : Int)
theorem Gr.endsTo_length (g : Gr) (j : Nat) : (g.endsTo j).length = j := by simp [Gr.endsTo]
theorem Gr.endsTo_succ {g : Gr} {j K : Nat} {y : Stt} (h : g.Beam j K y) : g.endsTo j ++ [(g.out y : Int)] = g.endsTo (j + 1) := by
  simp [Gr.endsTo, List.range_succ, Gr.endOf_eq h]
/-- What was made behind a world that is as the first was. -/
theorem St.from {w0 w1 W : World} {segs : List Seg} (h : St w1 W segs) (h0 : St w0 w1 []) : St w0 W segs :=
  ⟨h0.below.trans (h.below.mono h0.size), fun s hs => (h.own s hs).mono h0.size, h.apart⟩

/-- The other way. -/
def opp (d : Nat) : Nat := if d = 0 then 2 else if d = 1 then 3 else if d = 2 then 0 else 1
theorem bend_opp (c : Int) {d : Nat} (h : d < 4) : bend c (opp (bend c d)) = opp d := by
  have : d = 0 ∨ d = 1 ∨ d = 2 ∨ d = 3 := by omega
  unfold bend opp
  rcases this with rfl | rfl | rfl | rfl <;> (by_cases h1 : c = 114 <;> by_cases h2 : c = 102 <;> simp [h1, h2])
theorem bend_ne_opp (c : Int) {d : Nat} (h : d < 4) : bend c d ≠ opp d := by
  have : d = 0 ∨ d = 1 ∨ d = 2 ∨ d = 3 := by omega
  unfold bend opp
  rcases this with rfl | rfl | rfl | rfl <;> (by_cases h1 : c = 114 <;> by_cases h2 : c = 102 <;> simp [h1, h2])
theorem opp_opp {d : Nat} (h : d < 4) : opp (opp d) = d := by
  have : d = 0 ∨ d = 1 ∨ d = 2 ∨ d = 3 := by omega
  rcases this with rfl | rfl | rfl | rfl <;> rfl
theorem opp_lt (d : Nat) : opp d < 4 := by
  unfold opp
  repeat' split
  all_goals omega
def Gr.rev (g : Gr) (x : Stt) : Stt := (x.1, opp (g.dir x))

section
variable {g : Gr} (hg : g.ok)
include hg
theorem Gr.rev_val {x : Stt} (h : g.val x) : g.val (g.rev x) := ⟨h.1, opp_lt _⟩
theorem Gr.dir_rev {x : Stt} (h : g.val x) : g.dir (g.rev x) = opp x.2 := by
  show bend (g.lt (x.1 / g.m) (x.1 % g.m)) (opp (bend (g.lt (x.1 / g.m) (x.1 % g.m)) x.2)) = _
  exact bend_opp _ h.2
theorem Gr.rev_rev {x : Stt} (h : g.val x) : g.rev (g.rev x) = x := by
  show (x.1, opp (g.dir (g.rev x))) = x
  rw [Gr.dir_rev hg h, opp_opp h.2]
theorem Gr.rev_ne {x : Stt} (h : g.val x) : g.rev x ≠ x := by
  intro e
  have := congrArg Prod.snd e
  have h2 := congrArg opp this
  rw [show opp (g.rev x).2 = g.dir x from opp_opp (Gr.dir_lt h)] at h2
  exact bend_ne_opp _ h.2 h2
omit hg in
theorem st_back (i k : Int) {d : Nat} (h : d < 4) : stI (stI i d) (opp d) = i ∧ stK (stK k d) (opp d) = k := by
  have : d = 0 ∨ d = 1 ∨ d = 2 ∨ d = 3 := by omega
  rcases this with rfl | rfl | rfl | rfl <;> (simp [stI, stK, opp] <;> omega)
/-- A step is its own way back. -/
theorem Gr.nx_rev {x y : Stt} (h : g.val x) (e : g.nx x = some y) : g.nx (g.rev y) = some (g.rev x) := by
  have hy := Gr.nx_val hg h e
  have hr := Gr.row_lt hg h.1
  have hc := Gr.col_lt hg x.1
  have hx := Gr.cell_eq hg x.1
  have hD := Gr.dir_lt h
  have hxe : x = (x.1 / g.m * g.m + x.1 % g.m, x.2) := by rw [hx]
  have hdir : bend (g.lt (x.1 / g.m) (x.1 % g.m)) x.2 = g.dir x := rfl
  have h1 := Gr.nx_step hg hr hc h.2
  rw [← hxe, hdir] at h1
  rcases h1 with ⟨i', k', e1, e2, hi', hk', hn, _⟩ | ⟨hn, _⟩
  · rw [e] at hn
    have hye := Option.some.inj hn
    have hry : g.rev y = (i' * g.m + k', opp (g.dir y)) := by
      show (y.1, _) = _
      rw [hye]
    have h2 := Gr.nx_step hg hi' hk' (opp_lt (g.dir y))
    have hd2 : bend (g.lt i' k') (opp (g.dir y)) = opp (g.dir x) := by
      have := Gr.dir_rev hg hy
      rw [hry] at this
      unfold Gr.dir at this
      simp only [Gr.div_of hg hk', Gr.mod_of hg hk'] at this
      show bend (g.lt i' k') (opp (bend (g.lt (y.1 / g.m) (y.1 % g.m)) y.2)) = _
      rw [this, hye]
    dsimp only at h2
    rw [hd2, ← e1, ← e2, (st_back _ (x.1 % g.m : Nat) hD).1, (st_back (x.1 / g.m : Nat) _ hD).2, ← hry] at h2
    rcases h2 with ⟨i2, k2, f1, f2, _, _, f3, _⟩ | ⟨_, f4⟩
    · rw [f3]
      have g1 : i2 = x.1 / g.m := by omega
      have g2 : k2 = x.1 % g.m := by omega
      rw [g1, g2, hx]
      rfl
    · exfalso
      clear h hy hx hxe hdir e1 e2 hd2 hry
      generalize x.1 / g.m = q1 at f4 hr
      generalize x.1 % g.m = q2 at f4 hc
      unfold lv at f4
      rw [if_neg (by omega), if_neg (by omega), if_neg (by omega), if_neg (by omega)] at f4
      omega
  · rw [e] at hn
    cases hn
end

section
variable {g : Gr} (hg : g.ok)
include hg
theorem Gr.ent_out {y : Stt} (h : g.val y) (e : g.nx y = none) : g.out y < g.ports ∧ g.ent (g.out y) = g.rev y := by
  have hr := Gr.row_lt hg h.1
  have hc := Gr.col_lt hg y.1
  have hx := Gr.cell_eq hg y.1
  have hD := Gr.dir_lt h
  have hn := hg.n1
  have hm := hg.m1
  have hrev : g.rev y = (y.1, opp (g.dir y)) := rfl
  rw [hrev]
  unfold Gr.nx at e
  unfold Gr.out
  have hD2 : g.dir y = 0 ∨ g.dir y = 1 ∨ g.dir y = 2 ∨ g.dir y = 3 := by omega
  generalize g.dir y = D at *
  generalize y.1 / g.m = i at *
  generalize y.1 % g.m = k at *
  rcases hD2 with rfl | rfl | rfl | rfl
  · have hi : i = 0 := by
      simp at e
      exact e
    subst hi
    refine ⟨by simp [Gr.ports]; omega, ?_⟩
    simp [Gr.ent, opp, hc]
    omega
  · have hk : k = g.m - 1 := by
      simp at e
      exact e
    refine ⟨by simp [Gr.ports]; omega, ?_⟩
    simp [Gr.ent, opp, hr]
    rw [if_neg (by omega)]
    refine Prod.ext ?_ rfl
    show i * g.m + g.m - 1 = y.1
    omega
  · have hi : i = g.n - 1 := by
      simp at e
      exact e
    refine ⟨by simp [Gr.ports]; omega, ?_⟩
    simp only [Gr.ent, opp]
    simp
    rw [if_neg (by omega), if_neg (by omega), if_pos (by omega)]
    simp
    rw [← hx, hi]
    omega
  · have hk : k = 0 := by
      simp at e
      exact e
    refine ⟨by simp [Gr.ports]; omega, ?_⟩
    simp only [Gr.ent, opp]
    simp
    rw [if_neg (by omega), if_neg (by omega), if_neg (by omega)]
    simp
    rw [← hx, hk, show g.n - 1 - (2 * g.m + g.n + g.n - 1 - i - 2 * g.m - g.n) = i by omega]
    rfl
theorem Gr.out_ent {p : Nat} (hp : p < g.ports) : g.nx (g.rev (g.ent p)) = none ∧ g.out (g.rev (g.ent p)) = p := by
  have hv := Gr.ent_val hg hp
  have hd := Gr.dir_rev hg hv
  obtain ⟨e1, hi, hk, hd4⟩ := Gr.en3_ent hg hp
  have h1 : (g.rev (g.ent p)).1 = (en3 g.n g.m p).1 * g.m + (en3 g.n g.m p).2.1 := by
    show (g.ent p).1 = _
    rw [e1]
  have h2 : (g.ent p).2 = (en3 g.n g.m p).2.2 := by rw [e1]
  rw [h2] at hd
  unfold Gr.nx Gr.out
  rw [hd, h1, Gr.div_of hg hk, Gr.mod_of hg hk]
  have hn := hg.n1
  have hm := hg.m1
  unfold Gr.ports at hp
  clear hd h1 h2 e1 hi hk hd4 hv
  unfold en3
  split
  · simp [opp]
  · split
    · simp [opp]; omega
    · split
      · simp [opp]; omega
      · simp [opp]; omega
end

section
variable {g : Gr} (hg : g.ok)
include hg
theorem Gr.rvs : Rv g.nx g.rev g.val (fun x => 4 * x.1 + x.2) (4 * (g.n * g.m)) where
  stay := fun x y hx e => Gr.nx_val hg hx e
  rv := fun x hx => Gr.rev_val hg hx
  rr := fun x hx => Gr.rev_rev hg hx
  back := fun x y hx e => Gr.nx_rev hg hx e
  code_lt := (Gr.steps hg).code_lt
  code_inj := (Gr.steps hg).code_inj
theorem Gr.nx_ne_cell {x y : Stt} (h : g.val x) (e : g.nx x = some y) : y.1 ≠ x.1 := by
  have hm := hg.m1
  unfold Gr.nx at e
  split at e
  · split at e
    · cases e
    · rename_i h0 h1
      cases e
      have : g.m ≤ x.1 := by
        have := Nat.div_pos_iff.1 (Nat.pos_of_ne_zero h1)
        exact this.2
      simp; omega
  · split at e
    · split at e
      · cases e
      · cases e; simp
    · split at e
      · split at e
        · cases e
        · cases e; simp; omega
      · split at e
        · cases e
        · rename_i h3
          cases e
          have : 1 ≤ x.1 := by
            have : x.1 % g.m ≤ x.1 := Nat.mod_le _ _
            omega
          simp; omega
theorem Gr.no_turn : ∀ k x, g.val x → iter g.nx k x ≠ some (g.rev x) :=
  (Gr.rvs hg).no_turn (fun x hx => Gr.rev_ne hg hx) fun x hx e => Gr.nx_ne_cell hg hx e rfl
theorem Gr.beam_val {p K : Nat} {y : Stt} (hp : p < g.ports) (h : g.Beam p K y) : g.val y := (Gr.rvs hg).steps.iter_stay K _ y (Gr.ent_val hg hp) h.way
/-- The beam back. -/
theorem Gr.beam_back {p K : Nat} {y : Stt} (hp : p < g.ports) (h : g.Beam p K y) : g.out y < g.ports ∧ g.Beam (g.out y) K (g.rev (g.ent p)) := by
  have hv := Gr.beam_val hg hp h
  obtain ⟨h1, h2⟩ := Gr.ent_out hg hv h.last
  refine ⟨h1, h.lt, ?_, (Gr.out_ent hg hp).1⟩
  rw [h2]
  exact (Gr.rvs hg).iter_back K _ y (Gr.ent_val hg hp) h.way
theorem Gr.endOf_pair {p : Nat} (hp : p < g.ports) : g.endOf p < g.ports ∧ g.endOf p ≠ p ∧ g.endOf (g.endOf p) = p := by
  obtain ⟨K, y, hB⟩ := Gr.beam_of hg hp
  obtain ⟨h1, h2⟩ := Gr.beam_back hg hp hB
  rw [Gr.endOf_eq hB]
  refine ⟨h1, fun e => ?_, ?_⟩
  · have hv := Gr.beam_val hg hp hB
    have h3 := (Gr.ent_out hg hv hB.last).2
    rw [e] at h3
    have h4 := hB.way
    rw [show y = g.rev (g.ent p) by rw [h3, Gr.rev_rev hg hv]] at h4
    exact Gr.no_turn hg K _ (Gr.ent_val hg hp) h4
  · rw [Gr.endOf_eq h2, (Gr.out_ent hg hp).2]
theorem Gr.ports_bd : 4 ≤ g.ports ∧ g.ports ≤ 20 := by
  have := hg.n1
  have := hg.n5
  have := hg.m1
  have := hg.m5
  unfold Gr.ports
  omega
theorem Gr.endsTo_getD {j p : Nat} (h : p < j) : (g.endsTo j).getD p 0 = (g.endOf p : Nat) := by simp [Gr.endsTo, h]
theorem Gr.ends_pairs : pairsB (g.endsTo g.ports) = true := by
  have hb := Gr.ports_bd hg
  refine pairsB_iff.2 ⟨fun p hp => ?_, inB_iff.2 (by rw [Gr.endsTo_length]; omega)⟩
  rw [Gr.endsTo_length] at hp
  obtain ⟨h1, h2, h3⟩ := Gr.endOf_pair hg hp
  rw [okAt, Gr.endsTo_getD hg hp, Int.toNat_natCast, Gr.endsTo_getD hg h1, h3, Gr.endsTo_length]
  simp [inB]
  omega
end
end Go.Proofs.Ytmlenaelijchjaa
