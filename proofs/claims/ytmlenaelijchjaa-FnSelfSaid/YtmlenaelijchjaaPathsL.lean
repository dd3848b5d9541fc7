/- A map from steps to numbers that the call makes, beside its other pieces. -/
/- The numbers of paths: plain facts. -/
/- Contract: the steps of a round (roundFrom). -/
import Derived.Test.YtmlenaelijchjaaStS
import Derived.Test.YtmlenaelijchjaaBeamW
import Derived.Maps.Own
import Derived.Maps.OwnOps
import Derived.Maps.OwnSet
import Derived.MapViews
import Derived.DeepKeys4
import Derived.Lib.SmallJoins
import Derived.Test.YtmlenaelijchjaaRoundL
namespace Go.Proofs.Ytmlenaelijchjaa
open Go.RowKit Go.Maps
set_option linter.unusedVariables false
set_option maxRecDepth 100000
set_option linter.unusedSimpArgs false
set_option linter.unusedSectionVars false

theorem mapLaid : laidOutB Try.prog = true := by kernel_rfl
theorem stepRow : (37 : TypeId) < Try.prog.types.size := of_decide_eq_true (by kernel_rfl)
theorem stepWide : (match Try.prog.underlying 37 with | some (.array _ _) | some (.struct _) => true | _ => false) = true := by kernel_rfl
theorem stepDeep : Try.prog.keyTypeAt (Try.prog.types.size + 1) 37 = true := by kernel_rfl
theorem stepKeyed : Keyed Try.prog 37 := Keyed.of_law (deep_law_laid mapLaid (m := 2) (by omega) stepRow (by kernel_rfl) stepWide)
theorem stepCells : Try.prog.cellsOf 37 = 2 := by kernel_rfl
/-- A step as a value. -/
def stV (x : Stt) : Value := .agg #[.int .i64 x.1, .int .i64 x.2]
theorem stV_inj {x y : Stt} (h : stV x = stV y) : x = y := by
  simp [stV] at h
  exact Prod.ext (by omega) (by omega)
theorem step_key (w : World) (x : Stt) (h1 : x.1 ≤ 1000) (h2 : x.2 ≤ 1000) : ∃ l, keyOf Try.prog 37 (stV x) = some l := by
  have hw1 : (Lit.int .i64 (x.1 : Int)).wf = true := WalkArith.wf_i64 (by omega)
  have hw2 : (Lit.int .i64 (x.2 : Int)).wf = true := WalkArith.wf_i64 (by omega)
  have ht : DataW.Trod (H := Unit) (fun _ => ()) Try.prog w 0 (fun _ => true) true 37 (stV x) (.agg [.lit (.int .i64 x.1), .lit (.int .i64 x.2)]) [] :=
    Joins.shut_agg2 (y0 := (.lit (.int .i64 x.1), [])) (y1 := (.lit (.int .i64 x.2), [])) Try.underlying37 (by kernel_rfl) stepCells ⟨1, by simp [DataW.trod, Try.underlying3, hw1]⟩ ⟨1, by simp [DataW.trod, Try.underlying3, hw2]⟩
  have hf : (stV x).formed Try.prog 37 = true := by simp [stV, Value.formed, Try.underlying37, stepCells]
  exact ⟨_, (keyOf_asKey stepDeep stepWide hf ht).1⟩

/-- Block B is a map from steps to numbers, of at most n entries, that tells f. -/
def IdMap (W : World) (B n : Nat) (f : Stt → Option Int) : Prop :=
  ∃ D : DataW Unit, W.ownsMap Try.prog 37 (plainElem Try.prog 3) B n D ∧ ∀ x l, keyOf Try.prog 37 (stV x) = some l → Maps.has D l = (f x).isSome ∧ D.atKey l (.lit (.int .i64 0)) = .lit (.int .i64 ((f x).getD 0))
def updS (f : Stt → Option Int) (x : Stt) (v : Int) (y : Stt) : Option Int := if y = x then some v else f y
theorem IdMap.made (w : World) : IdMap (w.alloc (.map #[] 0)) w.heap.size 0 fun _ => none :=
  ⟨.map [], World.ownsMap_made _ _ _ _, fun x l _ => ⟨rfl, rfl⟩⟩
theorem IdMap.below {W W' : World} {B n : Nat} {f : Stt → Option Int} (h : IdMap W B n f) (b : Below W.heap.size W W') : IdMap W' B n f := by
  obtain ⟨D, ho, hf⟩ := h
  refine ⟨D, ?_, hf⟩
  have hlt := ho.lt
  obtain ⟨es, clock, hb, F⟩ := ho
  exact ⟨es, clock, (b.block B hlt).trans hb, F⟩
theorem IdMap.kept {W W' : World} {B n : Nat} {f : Stt → Option Int} {row : Option Nat} (h : IdMap W B n f) (g : W.grownBy W' row) (hne : some B ≠ row) : IdMap W' B n f := by
  obtain ⟨D, ho, hf⟩ := h
  exact ⟨D, ho.kept g hne, hf⟩
theorem IdMap.lt {W : World} {B n : Nat} {f : Stt → Option Int} (h : IdMap W B n f) : B < W.heap.size := by
  obtain ⟨D, ho, _⟩ := h
  exact ho.lt
theorem IdMap.put {W' : World} {B n : Nat} {f : Stt → Option Int} {x : Stt} {l : Lit} {v : Int} {D : DataW Unit} (hf : ∀ x l, keyOf Try.prog 37 (stV x) = some l → Maps.has D l = (f x).isSome ∧ D.atKey l (.lit (.int .i64 0)) = .lit (.int .i64 ((f x).getD 0)))
    (hm : IsMap D) (hk : keyOf Try.prog 37 (stV x) = some l) (h : W'.ownsMap Try.prog 37 (plainElem Try.prog 3) B (n + 1) (D.put l (.lit (.int .i64 v)))) : IdMap W' B (n + 1) (updS f x v) := by
  refine ⟨_, h, fun y l' hl' => ?_⟩
  unfold updS
  by_cases e : y = x
  · subst e
    rw [hk] at hl'
    cases hl'
    rw [if_pos rfl]
    exact ⟨has_put_same hm (stepKeyed.key hk) _, atKey_put_same hm (stepKeyed.key hk) _ _⟩
  · have hne : l' ≠ l := fun e2 => by
      subst e2
      exact e (stV_inj (stepKeyed.inj hl' hk))
    rw [if_neg e]
    obtain ⟨h1, h2⟩ := hf y l' hl'
    exact ⟨by rw [has_put_other hne, h1], by rw [atKey_put_other hne, h2]⟩

/-- The map beside the pieces. -/
structure StM (w0 W : World) (B n : Nat) (f : Stt → Option Int) (segs : List Seg) : Prop where
  st : St w0 W segs
  ids : IdMap W B n f
  base : w0.heap.size ≤ B
  ne : ∀ s ∈ segs, s.v.ownBlock ≠ some B
theorem StM.step {w0 W W' : World} {B n : Nat} {f : Stt → Option Int} {segs : List Seg} (h : StM w0 W B n f segs) (b : Below W.heap.size W W') : StM w0 W' B n f segs := ⟨h.st.step b, h.ids.below b, h.base, h.ne⟩
theorem StM.dr {w0 W W' : World} {B n : Nat} {f : Stt → Option Int} {segs : List Seg} (h : StM w0 W B n f segs) (d : Dr W W') : StM w0 W' B n f segs := h.step (d.below _)
theorem StM.addSeg {w0 W W' : World} {B n : Nat} {f : Stt → Option Int} {segs : List Seg} (h : StM w0 W B n f segs) {s : Seg} (o : s.own W' W.heap.size) (b : Below W.heap.size W W') : StM w0 W' B n f (s :: segs) :=
  ⟨h.st.addSeg o b, h.ids.below b, h.base, fun t ht => by
    rcases List.mem_cons.1 ht with rfl | ht
    · intro e
      have := (o.lt _ e).1
      have := h.ids.lt
      omega
    · exact h.ne t ht⟩
theorem StM.join {w0 W W' : World} {B n : Nat} {f : Stt → Option Int} {a b : List Seg} (h : StM w0 W B n f a) (k : St W W' b) : StM w0 W' B n f (b ++ a) :=
  ⟨h.st.join k, h.ids.below k.below, h.base, fun t ht => by
    rcases List.mem_append.1 ht with ht | ht
    · intro e
      have := ((k.own t ht).lt _ e).1
      have := h.ids.lt
      omega
    · exact h.ne t ht⟩
theorem StM.sub {w0 W : World} {B n : Nat} {f : Stt → Option Int} {a b : List Seg} (h : StM w0 W B n f a) (hs : List.Sublist b a) : StM w0 W B n f b :=
  ⟨⟨h.st.below, fun s hs2 => h.st.own s (hs.subset hs2), h.st.apart.sublist hs⟩, h.ids, h.base, fun s hs2 => h.ne s (hs.subset hs2)⟩
theorem StM.became {w0 W W' : World} {B n : Nat} {f : Stt → Option Int} (pre post : List Seg) (s s' : Seg) (h : StM w0 W B n f (pre ++ s :: post)) (hc : Became W W' w0.heap.size s s') : StM w0 W' B n f (pre ++ s' :: post) := by
  refine ⟨h.st.became pre post s s' hc, ?_, h.base, fun t ht => ?_⟩
  · rcases hc with ⟨_, _, g⟩ | ⟨_, b⟩
    · exact h.ids.kept g fun e => h.ne s (by simp) e.symm
    · exact h.ids.below b
  · rcases List.mem_append.1 ht with ht | ht
    · exact h.ne t (by simp [ht])
    · rcases List.mem_cons.1 ht with rfl | ht
      · rcases hc with ⟨hv, _, _⟩ | ⟨o, _⟩
        · rw [hv]; exact h.ne s (by simp)
        · intro e
          have := (o.lt _ e).1
          have := h.ids.lt
          omega
      · exact h.ne t (by simp [ht])
theorem StM.stored {w0 W W' : World} {B n n' : Nat} {f f' : Stt → Option Int} {segs : List Seg} (h : StM w0 W B n f segs) (hi : IdMap W' B n' f') (g : W.grownBy W' (some B)) : StM w0 W' B n' f' segs :=
  ⟨⟨h.st.below.trans (Below.of_grown g h.st.size fun k hk => by cases hk; exact h.base), fun s hs => World.ownsRow.kept (h.st.own s hs) g (.inr fun e => h.ne s hs (by simpa using e)), h.st.apart⟩, hi, h.base, h.ne⟩

/-- 'ids[x] = v' at the operation. -/
theorem wpStoreId {w0 : World} (w : World) {ops : Array Oper} {rest : List Oper} {o : Oper} {a : Act} {Q : Exit → Act → World → Prop} {B n : Nat} {f : Stt → Option Int} {segs : List Seg}
    (hg : o.guard = none) (m x v : Operand) (hop : o.op = Op.mapUpdate 32 m x v) (h : StM w0 w B n f segs) (hn : n ≤ 100000) (y : Stt) (val : Int)
    (hm : a.eval m = .map (some B)) (hx : a.eval x = stV y) (hv : a.eval v = .int .i64 val) (hy : y.1 ≤ 1000 ∧ y.2 ≤ 1000) (hw : 0 ≤ val ∧ val ≤ 1000000)
    (hK : ∀ w', StM w0 w' B (n + 1) (updS f y val) segs → wpList Try.prog ops Q rest (a.put o.dst undef) w') : wpList Try.prog ops Q (o :: rest) a w := by
  obtain ⟨D, ho, hf⟩ := h.ids
  obtain ⟨l, hl⟩ := step_key w y hy.1 hy.2
  refine wpList_mapUpdate_own w hg m x v _ hop _ 3 stepKeyed Try.underlying32 _ B n D hm ho (by unfold maxLen; omega) _ _ l hx hv hl (.lit (.int .i64 val)) [] (plainElem_int Try.underlying3 (WalkArith.wf_i64 (by omega))) ?_
  intro w' ho' g
  exact hK w' (h.stored (IdMap.put hf ho.isMap hl ho') g)
/-- The same as a step of a region that draws its order. -/
theorem step_storeId {w0 : World} {ops : Array Oper} {o : Oper} {a : Act} {w : World} {K : Act → World → Prop} {Q : Exit → Act → World → Prop} {E' : Prop} {B n : Nat} {f : Stt → Option Int} {segs : List Seg}
    (hg : o.guard = none) (m x v : Operand) (hop : o.op = Op.mapUpdate 32 m x v) (h : StM w0 w B n f segs) (hn : n ≤ 100000) (y : Stt) (val : Int)
    (hm : a.eval m = .map (some B)) (hx : a.eval x = stV y) (hv : a.eval v = .int .i64 val) (hy : y.1 ≤ 1000 ∧ y.2 ≤ 1000) (hw : 0 ≤ val ∧ val ≤ 1000000)
    (hK : ∀ w', StM w0 w' B (n + 1) (updS f y val) segs → K (a.put o.dst undef) w') :
    if Region.wanted o (yielded ops a.tmps) = true then Oper.wp Try.prog o a w K Q else E' := by
  have hwd : Region.wanted o (yielded ops a.tmps) = true := by simp [Region.wanted, hg]
  rw [if_pos hwd]
  obtain ⟨D, ho, hf⟩ := h.ids
  obtain ⟨l, hl⟩ := step_key w y hy.1 hy.2
  obtain ⟨w', hrun, r1, r2⟩ := ho.update stepKeyed Try.underlying32 (show n < maxLen by unfold maxLen; omega) hl (plainElem_int Try.underlying3 (WalkArith.wf_i64 (show -9223372036854775808 ≤ val ∧ val ≤ 9223372036854775807 by omega)))
  unfold Oper.wp
  simp [execOp, hop, hm, hx, hv, hrun, Result.andThen]
  exact hK w' (h.stored (IdMap.put hf ho.isMap hl r1) r2)
theorem zeroInt (w : World) : (zeroValue 3).run Try.prog w = .ok (.int .i64 0) w := by kernel_rfl
/-- 'v, ok := ids[x]' at the operation. -/
theorem wpLookId2 {w0 : World} (w : World) {ops : Array Oper} {rest : List Oper} {o : Oper} {a : Act} {Q : Exit → Act → World → Prop} {B n : Nat} {f : Stt → Option Int} {segs : List Seg}
    (hg : o.guard = none) (m x : Operand) (hop : o.op = Op.lookup 32 m x true) (h : StM w0 w B n f segs) (y : Stt)
    (hm : a.eval m = .map (some B)) (hx : a.eval x = stV y) (hy : y.1 ≤ 1000 ∧ y.2 ≤ 1000)
    (hK : wpList Try.prog ops Q rest (a.put o.dst (.tuple #[.int .i64 ((f y).getD 0), .bool (f y).isSome])) w) : wpList Try.prog ops Q (o :: rest) a w := by
  obtain ⟨D, ho, hf⟩ := h.ids
  obtain ⟨l, hl⟩ := step_key w y hy.1 hy.2
  obtain ⟨h1, h2⟩ := hf y l hl
  refine wpList_lookup_own_ok_int w hg m x _ hop _ 3 .i64 stepKeyed Try.underlying32 Try.underlying3 (zeroInt w) B n D hm ho _ l hx hl ?_
  intro c hat _
  rw [h2] at hat
  have : (f y).getD 0 = c := by simpa using hat
  rw [h1, ← this]
  exact hK

/-- The number of a beam. -/
noncomputable def Gr.bid (g : Gr) (p : Nat) : Int := ((min p (g.endOf p) : Nat) : Int)
/-- The beams of the ports below j are told, and the first i steps of that of j. -/
def Gr.BeamOk (g : Gr) (j i : Nat) (f : Stt → Option Int) : Prop :=
  ∀ x, g.val x → (∀ p, p < g.ports → x ∈ g.wayOf p → (p < j ∨ (p = j ∧ x ∈ (g.wayOf j).take i)) → f x = some (g.bid p)) ∧ ((∀ p, p < g.ports → x ∈ g.wayOf p → ¬ (p < j ∨ (p = j ∧ x ∈ (g.wayOf j).take i))) → f x = none)
/-- The beams and the rounds of the first states R are told, and of the next one r, if there is one, the first i steps. -/
def Gr.RoundOk (g : Gr) (R : List Stt) (L : List Stt) (f : Stt → Option Int) : Prop :=
  ∀ x, g.val x → (∀ p, p < g.ports → x ∈ g.wayOf p → f x = some (g.bid p)) ∧ (∀ i r, R[i]? = some r → Same g.nx g.rev r x → f x = some ((g.ports + i : Nat) : Int)) ∧
    ((x ∈ L ∨ g.rev x ∈ L) → f x = some ((g.ports + R.length : Nat) : Int)) ∧
    ((∀ p, p < g.ports → x ∉ g.wayOf p) → (∀ r ∈ R, ¬ Same g.nx g.rev r x) → ¬ (x ∈ L ∨ g.rev x ∈ L) → f x = none)

section
variable {g : Gr} (hg : g.ok)
include hg
theorem Gr.BeamOk.start : g.BeamOk 0 0 fun _ => none := fun x hx => ⟨fun p hp hm h => by simp at h, fun _ => rfl⟩
theorem Gr.BeamOk.next {j i : Nat} {f : Stt → Option Int} (h : g.BeamOk j i f) (hj : j < g.ports) {y : Stt} (hy : (g.wayOf j)[i]? = some y) : g.BeamOk j (i + 1) (updS f y (g.bid j)) := by
  have hym : y ∈ g.wayOf j := List.mem_of_getElem? hy
  obtain ⟨hi, hye⟩ := List.getElem?_eq_some_iff.1 hy
  have htk : (g.wayOf j).take (i + 1) = (g.wayOf j).take i ++ [y] := by
    rw [List.take_succ_eq_append_getElem hi, hye]
  intro x hx
  obtain ⟨h1, h2⟩ := h x hx
  unfold updS
  by_cases e : x = y
  · subst e
    rw [if_pos rfl]
    refine ⟨fun p hp hm _ => ?_, fun hn => ?_⟩
    · obtain ⟨a, ha⟩ := (Gr.mem_way hg hp).1 hm
      obtain ⟨b, hb⟩ := (Gr.mem_way hg hj).1 hym
      rw [(Gr.way_apart hg hp hj ha hb).1]
    · exact absurd (.inr ⟨rfl, by rw [htk]; simp⟩) (hn j hj hym)
  · rw [if_neg e]
    have hiff : x ∈ (g.wayOf j).take (i + 1) ↔ x ∈ (g.wayOf j).take i := by
      rw [htk, List.mem_append, List.mem_singleton]
      exact ⟨fun h => h.resolve_right e, .inl⟩
    rw [hiff]
    exact ⟨h1, h2⟩
theorem Gr.BeamOk.done {j : Nat} {f : Stt → Option Int} (h : g.BeamOk j (g.wayOf j).length f) : g.BeamOk (j + 1) 0 f := by
  intro x hx
  obtain ⟨h1, h2⟩ := h x hx
  rw [List.take_length] at h1 h2
  refine ⟨fun p hp hm hc => h1 p hp hm ?_, fun hn => h2 fun p hp hm hc => hn p hp hm ?_⟩
  · rcases hc with hc | ⟨_, hc⟩
    · by_cases e : p = j
      · exact .inr ⟨e, by rw [← e]; exact hm⟩
      · exact .inl (by omega)
    · simp at hc
  · rcases hc with hc | ⟨hc, _⟩
    · exact .inl (by omega)
    · exact .inl (by omega)
theorem Gr.BeamOk.all {f : Stt → Option Int} (h : g.BeamOk g.ports 0 f) : g.RoundOk [] [] f := by
  intro x hx
  obtain ⟨h1, h2⟩ := h x hx
  refine ⟨fun p hp hm => h1 p hp hm (.inl hp), fun i r hr => by simp at hr, fun hc => by simp at hc, fun hn _ _ => h2 fun p hp hm _ => hn p hp hm⟩
/-- A state is told just if it is marked. -/
theorem Gr.RoundOk.told {k : Nat} {f : Stt → Option Int} (h : g.RoundOk (g.repsTo k) [] f) {x : Stt} (hx : g.val x) : (f x).isSome = true ↔ g.Marked k x := by
  obtain ⟨h1, h2, _, h4⟩ := h x hx
  constructor
  · intro hs
    apply Classical.byContradiction
    intro hn
    have : f x = none := h4 (fun p hp hm => hn (.inl ⟨p, hp, hm⟩)) (fun r hr hs => hn (.inr ⟨r, hr, hs⟩)) (by simp)
    rw [this] at hs
    cases hs
  · rintro (⟨p, hp, hm⟩ | ⟨r, hr, hs⟩)
    · rw [h1 p hp hm]; rfl
    · obtain ⟨i, hi, rfl⟩ := List.getElem_of_mem hr
      rw [h2 i _ (List.getElem?_eq_getElem hi) hs]; rfl
theorem Gr.RoundOk.next {R L : List Stt} {f : Stt → Option Int} (h : g.RoundOk R L f) {y : Stt} (hy : g.val y) (hb : ∀ p, p < g.ports → y ∉ g.wayOf p) (hs : ∀ r ∈ R, ¬ Same g.nx g.rev r y) (hb2 : ∀ p, p < g.ports → g.rev y ∉ g.wayOf p) (hs2 : ∀ r ∈ R, ¬ Same g.nx g.rev r (g.rev y)) :
    g.RoundOk R (L ++ [y]) (updS (updS f y ((g.ports + R.length : Nat) : Int)) (g.rev y) ((g.ports + R.length : Nat) : Int)) := by
  intro x hx
  obtain ⟨h1, h2, h3, h4⟩ := h x hx
  unfold updS
  by_cases e : x = y
  · subst e
    have e1 : (if x = g.rev x then some ((g.ports + R.length : Nat) : Int) else if x = x then some ((g.ports + R.length : Nat) : Int) else f x) = some ((g.ports + R.length : Nat) : Int) := by
      rw [if_pos (rfl : x = x)]; split <;> rfl
    rw [e1]
    refine ⟨fun p hp hm => absurd hm (hb p hp), fun i r hr hs' => absurd hs' (hs r (List.mem_of_getElem? hr)), fun _ => rfl, fun _ _ hn => absurd (.inl (by simp)) hn⟩
  · by_cases e2 : x = g.rev y
    · subst e2
      rw [if_pos rfl]
      refine ⟨fun p hp hm => absurd hm (hb2 p hp), fun i r hr hs' => absurd hs' (hs2 r (List.mem_of_getElem? hr)), fun _ => rfl, fun _ _ hn => absurd (.inr (by rw [Gr.rev_rev hg hy]; simp)) hn⟩
    · rw [if_neg e2, if_neg e]
      have e3 : g.rev x ≠ y := fun e4 => e2 (by rw [← e4, Gr.rev_rev hg hx])
      have hiff : (x ∈ L ++ [y] ∨ g.rev x ∈ L ++ [y]) ↔ (x ∈ L ∨ g.rev x ∈ L) := by
        simp [e, e3]
      rw [hiff]
      exact ⟨h1, h2, h3, h4⟩
theorem Gr.RoundOk.done {R : List Stt} {f : Stt → Option Int} {r : Stt} (hr : g.val r) (hc : Cyc g.nx r) (h : g.RoundOk R (g.roundOf r) f) : g.RoundOk (R ++ [r]) [] f := by
  intro x hx
  obtain ⟨h1, h2, h3, h4⟩ := h x hx
  refine ⟨h1, fun i q hq hs => ?_, fun hn => by simp at hn, fun hb hs _ => ?_⟩
  · by_cases hi : i < R.length
    · rw [List.getElem?_append_left hi] at hq
      exact h2 i q hq hs
    · rw [List.getElem?_append_right (by omega)] at hq
      have hi2 : i - R.length = 0 := by
        apply Classical.byContradiction
        intro hne
        rw [List.getElem?_eq_none (by simp; omega)] at hq
        cases hq
      rw [hi2] at hq
      have hqr : r = q := by simpa using hq
      subst hqr
      rw [h3 ((Gr.same_iff hg hr hc).1 hs), show i = R.length by omega]
  · exact h4 hb (fun q hq => hs q (List.mem_append.2 (.inl hq))) fun hm => hs r (by simp) ((Gr.same_iff hg hr hc).2 hm)
theorem Gr.round_val {r y : Stt} (hr : g.val r) (hc : Cyc g.nx r) (hy : y ∈ g.roundOf r) : g.val y ∧ Cyc g.nx y := by
  have o := (Gr.mem_round hg hr hc).1 hy
  exact ⟨(Gr.rvs hg).on_val hr o, (hc.on o).2⟩
/-- The states of a new round are told neither by a beam nor by an elder round. -/
theorem Gr.round_free {k : Nat} (hk : k < 4 * (g.n * g.m)) (hm : ¬ g.Marked k (decS k)) (hc : Cyc g.nx (decS k)) {y : Stt} (hy : y ∈ g.roundOf (decS k)) :
    g.val y ∧ (∀ p, p < g.ports → y ∉ g.wayOf p) ∧ (∀ r ∈ g.repsTo k, ¬ Same g.nx g.rev r y) ∧ (∀ p, p < g.ports → g.rev y ∉ g.wayOf p) ∧ (∀ r ∈ g.repsTo k, ¬ Same g.nx g.rev r (g.rev y)) := by
  have hv := Gr.dec_val hg hk
  obtain ⟨hyv, hyc⟩ := Gr.round_val hg hv hc hy
  have o := (Gr.mem_round hg hv hc).1 hy
  have hE := (Gr.rvs hg).eqv
  have s1 : Same g.nx g.rev y (decS k) := .inl (hc.on o).1
  have s2 : Same g.nx g.rev (g.rev y) (decS k) := hE.trans _ y _ ⟨Gr.rev_val hg hyv, (Gr.rvs hg).cyc_r hyv hyc⟩ ⟨hyv, hyc⟩ ⟨hv, hc⟩ (.inr (On.refl _ _)) s1
  have key : ∀ z, g.val z → Cyc g.nx z → Same g.nx g.rev z (decS k) → ∀ r ∈ g.repsTo k, ¬ Same g.nx g.rev r z := by
    intro z hz hcz hs r hr hs2
    obtain ⟨h1, c, hc2, rfl⟩ := (Gr.mem_reps hg).1 hr
    exact hm (.inr ⟨_, hr, hE.trans _ z _ ⟨Gr.dec_val hg (by omega), h1.1⟩ ⟨hz, hcz⟩ ⟨hv, hc⟩ hs2 hs⟩)
  exact ⟨hyv, fun p hp h => Gr.beam_not_cyc hg hp h hyc, key y hyv hyc s1, fun p hp h => Gr.beam_not_cyc hg hp h ((Gr.rvs hg).cyc_r hyv hyc), key _ (Gr.rev_val hg hyv) ((Gr.rvs hg).cyc_r hyv hyc) s2⟩
end

theorem SL_new (w : World) (x : Stt) : (SStt (.slice (some ⟨w.heap.size, 0, none⟩) 1 1) [x]).own (w.alloc (.cells #[.int .i64 x.1, .int .i64 x.2] 37)) w.heap.size :=
  World.ownsRow_lit w #[.int .i64 x.1, .int .i64 x.2] 1 (Nat.le_refl _) (by unfold maxLen; omega) rfl

theorem shapeStt1 {w0 W : World} {a : Seg} {v : Value} {L : List Stt} {post : List Seg} (h : St w0 W (a :: SStt v L :: post)) : ∃ ao cap, v = .slice ao L.length cap := by
  obtain ⟨a', c', he, _⟩ := SStt_shape (h.own _ (List.mem_cons_of_mem _ List.mem_cons_self))
  exact ⟨a', c', he⟩
theorem shapeStt0 {w0 W : World} {v : Value} {L : List Stt} {post : List Seg} (h : St w0 W (SStt v L :: post)) : ∃ ao cap, v = .slice ao L.length cap := by
  obtain ⟨a', c', he, _⟩ := SStt_shape (h.own _ List.mem_cons_self)
  exact ⟨a', c', he⟩

theorem roundFrom_any (ao : Option Addr) (cap : Nat) (ss : List ByteArray) (x : Stt) (w : World) (hx : CellsS w ao ss) (hg : gridB ss = true) (hv : (gr ss).val x) (hc : Cyc (gr ss).nx x) :
    Calls Try.prog 30 #[.slice ao ss.length cap, .agg #[.int .i64 x.1, .int .i64 x.2]] w fun e w' => ∃ v, e = .returned v ∧ St w w' [SStt v ((gr ss).roundOf x)] := by
  have hok := gr_ok hg
  obtain ⟨p1, p2, p3, p4⟩ := Gr.per_spec hok hv hc
  have HX := Lib.hid hx
  have HG := Lib.hid hg
  have HV := Lib.hid hv
  have HP3 := Lib.hid p3
  have HP4 := Lib.hid p4
  have HS := Lib.hid (Gr.steps hok)
  have HR : Hid ((gr ss).roundOf x = (gr ss).wayTo x ((gr ss).per x)) := rfl
  obtain ⟨y1, hy1⟩ := cyc_next hc
  have HY1 := Lib.hid hy1
  have st1 := (St.init w).addSeg (SB_new w x) ((Below.refl _ _).alloc (Nat.le_refl _) _)
  have st2 := st1.addSeg (SL_new _ x) ((Below.refl _ _).alloc (Nat.le_refl _) _)
  rw [World.size_alloc] at st2
  have hA : (gr ss).aft (x.1, x.2) = (y1, (-1 : Int)) := by
    show (match (gr ss).nx x with | some y => (y, (-1 : Int)) | none => (x, ((gr ss).out x : Int))) = _
    rw [hy1]
  have HA := Lib.hid hA
  have HAF := Lib.hid fun W (y : Stt) (h : CellsS W ao ss) (hv : (gr ss).val y) => after_any ao cap ss y.1 y.2 W h hg hv
  have ST2 := Lib.hid st2
  clear hx hg hv hc p3 p4 hok hy1 st1 st2 hA
  generalize (gr ss).per x = N at *
  obtain ⟨k0, k1, _, _, _, _⟩ := SB_cells (ST2.out.own _ (List.mem_cons_of_mem _ List.mem_cons_self))
  go_enter Try.func30, Try.ntmps30
  go_wp2_with fail
  have R := HAF.out _ x (ST2.out.oldS HX.out) HV.out
  rw [HA.out] at R
  refine R.mono ?_
  rintro e w3 ⟨rfl, b3⟩
  clear R
  have st3 := ST2.out.step b3
  have st4 := st3.addSeg (SB_new w3 y1) ((Below.refl _ _).alloc (Nat.le_refl _) _)
  have ST4 := Lib.hid st4
  have hw1 : (gr ss).wayTo x 1 = [x] := by simp [Gr.wayTo, List.range_succ, iter]
  have HW1 := Lib.hid hw1
  clear b3 st3 st4 hw1 k0 k1
  go_wp2_with fail
  go_loopw [5, 7] (fun v5 v7 wr => ∃ (j : Nat) (a c : _) (y : Stt), 1 ≤ j ∧ j ≤ N ∧ iter (gr ss).nx j x = some y ∧ v5 = .slice a j c ∧ v7 = .int .i64 (-1) ∧ St w wr [SB w3.heap.size y, SStt v5 ((gr ss).wayTo x j), SB w.heap.size x]) (fun v5 _ _ => N - lenV v5)
  case atStart => exact ⟨1, _, _, y1, Nat.le_refl _, p1, by show (some x).bind _ = _; exact HY1.out, rfl, rfl, by rw [HW1.out]; exact ST4.out⟩
  case round =>
    obtain ⟨j, a5, c5, y, hj1, hjN, hit, rfl, rfl, st⟩ := hrel
    have HIT := Lib.hid hit
    by_cases e : y = x
    · subst e
      have hjE : j = N := by
        apply Nat.le_antisymm hjN
        apply Nat.le_of_not_lt
        intro hlt
        exact HP4.out j (by omega) hlt HIT.out
      obtain ⟨k0, k1, k2, k3, k4, _⟩ := SB_cells (st.own _ List.mem_cons_self)
      obtain ⟨q0, q1, q2, q3, q4, _⟩ := SB_cells (st.own (SB w.heap.size y) (by simp))
      have ST := Lib.hid (st.drop0.drop1)
      have HJ := Lib.hid hjE
      clear st hit ST4 hjE
      go_wp2
      go_ret
      exact ⟨_, rfl, by rw [HR.out, ← HJ.out]; exact ST.out⟩
    · have hjlt : j < N := by
        by_cases e2 : j = N
        · have := HP3.out
          rw [← e2, HIT.out] at this
          exact absurd (Option.some.inj this) e
        · omega
      have hvy : (gr ss).val y := HS.out.iter_stay j x y HV.out hit
      obtain ⟨y', hy'⟩ : ∃ y', (gr ss).nx y = some y' := by
        obtain ⟨z, hz⟩ := iter_lt HP3.out (j + 1) (by omega)
        obtain ⟨z', hz', hzz⟩ := iter_pred hz
        rw [hit] at hz'
        cases hz'
        exact ⟨z, hzz⟩
      have hA2 : (gr ss).aft (y.1, y.2) = (y', (-1 : Int)) := by
        show (match (gr ss).nx y with | some y => (y, (-1 : Int)) | none => (y, ((gr ss).out y : Int))) = _
        rw [hy']
      have hit' : iter (gr ss).nx (j + 1) x = some y' := by
        show (iter (gr ss).nx j x).bind (gr ss).nx = _
        rw [hit]; exact hy'
      obtain ⟨k0, k1, k2, k3, k4, _⟩ := SB_cells (st.own _ List.mem_cons_self)
      obtain ⟨q0, q1, q2, q3, q4, _⟩ := SB_cells (st.own (SB w.heap.size x) (by simp))
      have HSA := Lib.hid (st.step ((Below.refl _ _).alloc (Nat.le_refl _) (.cells #[.int .i64 y.1, .int .i64 y.2] 37)))
      have HA2 := Lib.hid hA2
      have HIT2 := Lib.hid hit'
      have HVY := Lib.hid hvy
      have HWL := Lib.hid (Gr.wayTo_length (gr ss) x j)
      have HSU := Lib.hid (Gr.wayTo_succ hit)
      have hne : ¬ ((y.1 : Int) = x.1) ∨ (y.1 = x.1 ∧ ¬ ((y.2 : Int) = x.2)) := by
        by_cases e1 : y.1 = x.1
        · refine .inr ⟨e1, fun e2 => e (Prod.ext e1 (by omega))⟩
        · exact .inl (by omega)
      clear st hit ST4 hjN e hy' hA2 hit' hvy
      obtain ⟨yc, yd⟩ := y
      obtain ⟨xc, xd⟩ := x
      dsimp only at *
      rcases hne with hne | ⟨rfl, hne⟩
      all_goals
        go_wp2_with (at_builtin; refine wpPushStt _ rfl _ _ rfl w.heap.size _ _ (yc, yd) _ rfl (HSA.out.own _ (List.mem_cons_of_mem _ List.mem_cons_self)) rfl (two_new _ _ _ _) (by rw [HWL.out]; omega) ?_; intro v' w4 hbec; have HS4 := Lib.hid (HSA.out.became1 hbec); obtain ⟨q0', q1', q2', q3', q4', _⟩ := SB_cells (HS4.out.own _ List.mem_cons_self); clear hbec)
        have R := HAF.out w4 (yc, yd) (HS4.out.oldS HX.out) HVY.out
        rw [HA2.out] at R
        refine R.mono ?_
        rintro e w5 ⟨rfl, b5⟩
        clear R
        have st5 := HS4.out.step b5
        rw [HSU.out] at st5
        obtain ⟨p0, p1', p2', p3, p4, _⟩ := SB_cells (st5.own _ List.mem_cons_self)
        have hput := SB_put (st5.own _ List.mem_cons_self) y'
        have st6 := St.writeSeg [] _ _ (SB w3.heap.size y') st5 rfl hput.1 hput.2
        obtain ⟨a6, c6, hv6⟩ := shapeStt1 st6
        rw [Gr.wayTo_length] at hv6
        subst hv6
        have H6 := Lib.hid st6
        clear b5 st5 st6 hput q0 q1 q2 q3 q4 k0 k1 k2 k3 k4 q0' q1' q2' q3' q4'
        go_wp2
        go_roundw
        case rel => exact ⟨j + 1, a6, c6, y', by omega, hjlt, HIT2.out, rfl, rfl, H6.out⟩
        case measure => simp [lenV]; omega
end Go.Proofs.Ytmlenaelijchjaa
