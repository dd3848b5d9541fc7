/- A map from steps to numbers that the call makes, beside its other pieces. -/
import Derived.Test.YtebcnfemkchfjaaStS
import Derived.Test.YtebcnfemkchfjaaBeamW
import Derived.Maps.Own
import Derived.Maps.OwnOps
import Derived.Maps.OwnSet
import Derived.MapViews
import Derived.DeepKeys4
import Derived.Lib.SmallJoins
namespace Go.Proofs.Ytebcnfemkchfjaa
open Go.RowKit Go.Maps
set_option linter.unusedVariables false
set_option linter.unusedSimpArgs false

theorem mapLaid : laidOutB Try.prog = true := by kernel_rfl
theorem stepRow : (53 : TypeId) < Try.prog.types.size := of_decide_eq_true (by kernel_rfl)
theorem stepWide : (match Try.prog.underlying 53 with | some (.array _ _) | some (.struct _) => true | _ => false) = true := by kernel_rfl
theorem stepDeep : Try.prog.keyTypeAt (Try.prog.types.size + 1) 53 = true := by kernel_rfl
theorem stepKeyed : Keyed Try.prog 53 := Keyed.of_law (deep_law_laid mapLaid (m := 2) (by omega) stepRow (by kernel_rfl) stepWide)
theorem stepCells : Try.prog.cellsOf 53 = 2 := by kernel_rfl
/-- A step as a value. -/
def stV (x : Stt) : Value := .agg #[.int .i64 x.1, .int .i64 x.2]
theorem stV_inj {x y : Stt} (h : stV x = stV y) : x = y := by
  simp [stV] at h
  exact Prod.ext (by omega) (by omega)
theorem step_key (w : World) (x : Stt) (h1 : x.1 ≤ 1000) (h2 : x.2 ≤ 1000) : ∃ l, keyOf Try.prog 53 (stV x) = some l := by
  have hw1 : (Lit.int .i64 (x.1 : Int)).wf = true := WalkArith.wf_i64 (by omega)
  have hw2 : (Lit.int .i64 (x.2 : Int)).wf = true := WalkArith.wf_i64 (by omega)
  have ht : DataW.Trod (H := Unit) (fun _ => ()) Try.prog w 0 (fun _ => true) true 53 (stV x) (.agg [.lit (.int .i64 x.1), .lit (.int .i64 x.2)]) [] :=
    Joins.shut_agg2 (y0 := (.lit (.int .i64 x.1), [])) (y1 := (.lit (.int .i64 x.2), [])) Try.underlying53 (by kernel_rfl) stepCells ⟨1, by simp [DataW.trod, Try.underlying3, hw1]⟩ ⟨1, by simp [DataW.trod, Try.underlying3, hw2]⟩
  have hf : (stV x).formed Try.prog 53 = true := by simp [stV, Value.formed, Try.underlying53, stepCells]
  exact ⟨_, (keyOf_asKey stepDeep stepWide hf ht).1⟩

/-- Block B is a map from steps to numbers, of at most n entries, that tells f. -/
def IdMap (W : World) (B n : Nat) (f : Stt → Option Int) : Prop :=
  ∃ D : DataW Unit, W.ownsMap Try.prog 53 (plainElem Try.prog 3) B n D ∧ ∀ x l, keyOf Try.prog 53 (stV x) = some l → Maps.has D l = (f x).isSome ∧ D.atKey l (.lit (.int .i64 0)) = .lit (.int .i64 ((f x).getD 0))
def updS (f : Stt → Option Int) (x : Stt) (v : Int) (y : Stt) : Option Int := if y = x then some v else f y
theorem IdMap.made (w : World) : IdMap (w.alloc (.map #[] 0)) w.heap.size 0 fun _ => none :=
  ⟨.map [], World.ownsMap_made _ _ _ _, fun x l _ => ⟨rfl, rfl⟩⟩
theorem IdMap.below {W W' : World} {B n : Nat} {f : Stt → Option Int} (h : IdMap W B n f) (b : Below W.heap.size W W') : IdMap W' B n f := by
  obtain ⟨D, ho, hf⟩ := h
  refine ⟨D, ?_, hf⟩
  have hlt := ho.lt
  obtain ⟨es, clock, hb, F⟩ := ho
  exact ⟨es, clock, (b.block B hlt).trans hb, F⟩
theorem IdMap.kept {W W' : World} {B n : Nat} {f : Stt → Option Int} {row : Option Nat} (h : IdMap W B n f) (g : W.grownBy W' row) (hne : some B ≠ row) : IdMap W' B n f := by
  obtain ⟨D, ho, hf⟩ := h
  exact ⟨D, ho.kept g hne, hf⟩
theorem IdMap.lt {W : World} {B n : Nat} {f : Stt → Option Int} (h : IdMap W B n f) : B < W.heap.size := by
  obtain ⟨D, ho, _⟩ := h
  exact ho.lt
theorem IdMap.put {W' : World} {B n : Nat} {f : Stt → Option Int} {x : Stt} {l : Lit} {v : Int} {D : DataW Unit} (hf : ∀ x l, keyOf Try.prog 53 (stV x) = some l → Maps.has D l = (f x).isSome ∧ D.atKey l (.lit (.int .i64 0)) = .lit (.int .i64 ((f x).getD 0)))
    (hm : IsMap D) (hk : keyOf Try.prog 53 (stV x) = some l) (h : W'.ownsMap Try.prog 53 (plainElem Try.prog 3) B (n + 1) (D.put l (.lit (.int .i64 v)))) : IdMap W' B (n + 1) (updS f x v) := by
  refine ⟨_, h, fun y l' hl' => ?_⟩
  unfold updS
  by_cases e : y = x
  · subst e
    rw [hk] at hl'
    cases hl'
    rw [if_pos rfl]
    exact ⟨has_put_same hm (stepKeyed.key hk) _, atKey_put_same hm (stepKeyed.key hk) _ _⟩
  · have hne : l' ≠ l := fun e2 => by
      subst e2
      exact e (stV_inj (stepKeyed.inj hl' hk))
    rw [if_neg e]
    obtain ⟨h1, h2⟩ := hf y l' hl'
    exact ⟨by rw [has_put_other hne, h1], by rw [atKey_put_other hne, h2]⟩

/-- The map beside the pieces. -/
structure StM (w0 W : World) (B n : Nat) (f : Stt → Option Int) (segs : List Seg) : Prop where
  st : St w0 W segs
  ids : IdMap W B n f
  base : w0.heap.size ≤ B
  ne : ∀ s ∈ segs, s.v.ownBlock ≠ some B
theorem StM.step {w0 W W' : World} {B n : Nat} {f : Stt → Option Int} {segs : List Seg} (h : StM w0 W B n f segs) (b : Below W.heap.size W W') : StM w0 W' B n f segs := ⟨h.st.step b, h.ids.below b, h.base, h.ne⟩
theorem StM.dr {w0 W W' : World} {B n : Nat} {f : Stt → Option Int} {segs : List Seg} (h : StM w0 W B n f segs) (d : Dr W W') : StM w0 W' B n f segs := h.step (d.below _)
theorem StM.addSeg {w0 W W' : World} {B n : Nat} {f : Stt → Option Int} {segs : List Seg} (h : StM w0 W B n f segs) {s : Seg} (o : s.own W' W.heap.size) (b : Below W.heap.size W W') : StM w0 W' B n f (s :: segs) :=
  ⟨h.st.addSeg o b, h.ids.below b, h.base, fun t ht => by
    rcases List.mem_cons.1 ht with rfl | ht
    · intro e
      have := (o.lt _ e).1
      have := h.ids.lt
      omega
    · exact h.ne t ht⟩
theorem StM.join {w0 W W' : World} {B n : Nat} {f : Stt → Option Int} {a b : List Seg} (h : StM w0 W B n f a) (k : St W W' b) : StM w0 W' B n f (b ++ a) :=
  ⟨h.st.join k, h.ids.below k.below, h.base, fun t ht => by
    rcases List.mem_append.1 ht with ht | ht
    · intro e
      have := ((k.own t ht).lt _ e).1
      have := h.ids.lt
      omega
    · exact h.ne t ht⟩
theorem StM.sub {w0 W : World} {B n : Nat} {f : Stt → Option Int} {a b : List Seg} (h : StM w0 W B n f a) (hs : List.Sublist b a) : StM w0 W B n f b :=
  ⟨⟨h.st.below, fun s hs2 => h.st.own s (hs.subset hs2), h.st.apart.sublist hs⟩, h.ids, h.base, fun s hs2 => h.ne s (hs.subset hs2)⟩
theorem StM.became {w0 W W' : World} {B n : Nat} {f : Stt → Option Int} (pre post : List Seg) (s s' : Seg) (h : StM w0 W B n f (pre ++ s :: post)) (hc : Became W W' w0.heap.size s s') : StM w0 W' B n f (pre ++ s' :: post) := by
  refine ⟨h.st.became pre post s s' hc, ?_, h.base, fun t ht => ?_⟩
  · rcases hc with ⟨_, _, g⟩ | ⟨_, b⟩
    · exact h.ids.kept g fun e => h.ne s (by simp) e.symm
    · exact h.ids.below b
  · rcases List.mem_append.1 ht with ht | ht
    · exact h.ne t (by simp [ht])
    · rcases List.mem_cons.1 ht with rfl | ht
      · rcases hc with ⟨hv, _, _⟩ | ⟨o, _⟩
        · rw [hv]; exact h.ne s (by simp)
        · intro e
          have := (o.lt _ e).1
          have := h.ids.lt
          omega
      · exact h.ne t (by simp [ht])
theorem StM.stored {w0 W W' : World} {B n n' : Nat} {f f' : Stt → Option Int} {segs : List Seg} (h : StM w0 W B n f segs) (hi : IdMap W' B n' f') (g : W.grownBy W' (some B)) : StM w0 W' B n' f' segs :=
  ⟨⟨h.st.below.trans (Below.of_grown g h.st.size fun k hk => by cases hk; exact h.base), fun s hs => World.ownsRow.kept (h.st.own s hs) g (.inr fun e => h.ne s hs (by simpa using e)), h.st.apart⟩, hi, h.base, h.ne⟩

/-- 'ids[x] = v' at the operation. -/
theorem wpStoreId {w0 : World} (w : World) {ops : Array Oper} {rest : List Oper} {o : Oper} {a : Act} {Q : Exit → Act → World → Prop} {B n : Nat} {f : Stt → Option Int} {segs : List Seg}
    (hg : o.guard = none) (m x v : Operand) (hop : o.op = Op.mapUpdate 48 m x v) (h : StM w0 w B n f segs) (hn : n ≤ 100000) (y : Stt) (val : Int)
    (hm : a.eval m = .map (some B)) (hx : a.eval x = stV y) (hv : a.eval v = .int .i64 val) (hy : y.1 ≤ 1000 ∧ y.2 ≤ 1000) (hw : 0 ≤ val ∧ val ≤ 1000000)
    (hK : ∀ w', StM w0 w' B (n + 1) (updS f y val) segs → wpList Try.prog ops Q rest (a.put o.dst undef) w') : wpList Try.prog ops Q (o :: rest) a w := by
  obtain ⟨D, ho, hf⟩ := h.ids
  obtain ⟨l, hl⟩ := step_key w y hy.1 hy.2
  refine wpList_mapUpdate_own w hg m x v _ hop _ 3 stepKeyed Try.underlying48 _ B n D hm ho (by unfold maxLen; omega) _ _ l hx hv hl (.lit (.int .i64 val)) [] (plainElem_int Try.underlying3 (WalkArith.wf_i64 (by omega))) ?_
  intro w' ho' g
  exact hK w' (h.stored (IdMap.put hf ho.isMap hl ho') g)
/-- The same as a step of a region that draws its order. -/
theorem step_storeId {w0 : World} {ops : Array Oper} {o : Oper} {a : Act} {w : World} {K : Act → World → Prop} {Q : Exit → Act → World → Prop} {E' : Prop} {B n : Nat} {f : Stt → Option Int} {segs : List Seg}
    (hg : o.guard = none) (m x v : Operand) (hop : o.op = Op.mapUpdate 48 m x v) (h : StM w0 w B n f segs) (hn : n ≤ 100000) (y : Stt) (val : Int)
    (hm : a.eval m = .map (some B)) (hx : a.eval x = stV y) (hv : a.eval v = .int .i64 val) (hy : y.1 ≤ 1000 ∧ y.2 ≤ 1000) (hw : 0 ≤ val ∧ val ≤ 1000000)
    (hK : ∀ w', StM w0 w' B (n + 1) (updS f y val) segs → K (a.put o.dst undef) w') :
    if Region.wanted o (yielded ops a.tmps) = true then Oper.wp Try.prog o a w K Q else E' := by
  have hwd : Region.wanted o (yielded ops a.tmps) = true := by simp [Region.wanted, hg]
  rw [if_pos hwd]
  obtain ⟨D, ho, hf⟩ := h.ids
  obtain ⟨l, hl⟩ := step_key w y hy.1 hy.2
  obtain ⟨w', hrun, r1, r2⟩ := ho.update stepKeyed Try.underlying48 (show n < maxLen by unfold maxLen; omega) hl (plainElem_int Try.underlying3 (WalkArith.wf_i64 (show -9223372036854775808 ≤ val ∧ val ≤ 9223372036854775807 by omega)))
  unfold Oper.wp
  simp [execOp, hop, hm, hx, hv, hrun, Result.andThen]
  exact hK w' (h.stored (IdMap.put hf ho.isMap hl r1) r2)
theorem zeroInt (w : World) : (zeroValue 3).run Try.prog w = .ok (.int .i64 0) w := by kernel_rfl
/-- 'v, ok := ids[x]' at the operation. -/
theorem wpLookId2 {w0 : World} (w : World) {ops : Array Oper} {rest : List Oper} {o : Oper} {a : Act} {Q : Exit → Act → World → Prop} {B n : Nat} {f : Stt → Option Int} {segs : List Seg}
    (hg : o.guard = none) (m x : Operand) (hop : o.op = Op.lookup 48 m x true) (h : StM w0 w B n f segs) (y : Stt)
    (hm : a.eval m = .map (some B)) (hx : a.eval x = stV y) (hy : y.1 ≤ 1000 ∧ y.2 ≤ 1000)
    (hK : wpList Try.prog ops Q rest (a.put o.dst (.tuple #[.int .i64 ((f y).getD 0), .bool (f y).isSome])) w) : wpList Try.prog ops Q (o :: rest) a w := by
  obtain ⟨D, ho, hf⟩ := h.ids
  obtain ⟨l, hl⟩ := step_key w y hy.1 hy.2
  obtain ⟨h1, h2⟩ := hf y l hl
  refine wpList_lookup_own_ok_int w hg m x _ hop _ 3 .i64 stepKeyed Try.underlying48 Try.underlying3 (zeroInt w) B n D hm ho _ l hx hl ?_
  intro c hat _
  rw [h2] at hat
  have : (f y).getD 0 = c := by simpa using hat
  rw [h1, ← this]
  exact hK
end Go.Proofs.Ytebcnfemkchfjaa
