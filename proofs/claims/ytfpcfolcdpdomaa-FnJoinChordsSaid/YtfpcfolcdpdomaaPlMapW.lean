/- A map from places to marks that the call makes, beside its other pieces. -/
import Derived.Test.YtfpcfolcdpdomaaStS
import Derived.Test.YtfpcfolcdpdomaaRv
import Derived.Maps.Own
import Derived.Maps.OwnOps
import Derived.Maps.OwnSet
import Derived.MapViews
import Derived.DeepKeys4
import Derived.Lib.SmallJoins
namespace Go.Proofs.Ytfpcfolcdpdomaa
open Go.RowKit Go.Maps
set_option linter.unusedVariables false
set_option maxRecDepth 100000
set_option linter.unusedSimpArgs false

theorem mapLaidP : laidOutB Try.prog = true := by kernel_rfl
theorem placeRow : (54 : TypeId) < Try.prog.types.size := of_decide_eq_true (by kernel_rfl)
theorem placeWide : (match Try.prog.underlying 54 with | some (.array _ _) | some (.struct _) => true | _ => false) = true := by kernel_rfl
theorem placeDeep : Try.prog.keyTypeAt (Try.prog.types.size + 1) 54 = true := by kernel_rfl
theorem placeKeyed : Keyed Try.prog 54 := Keyed.of_law (deep_law_laid mapLaidP (m := 2) (by omega) placeRow (by kernel_rfl) placeWide)
theorem placeCells : Try.prog.cellsOf 54 = 2 := by kernel_rfl
/-- A step as a value. -/
def plV (x : Stt) : Value := .agg #[.int .i64 x.1, .int .i64 x.2]
theorem plV_inj {x y : Stt} (h : plV x = plV y) : x = y := by
  simp [plV] at h
  exact Prod.ext (by omega) (by omega)
theorem place_key (w : World) (x : Stt) (h1 : x.1 ≤ 1000) (h2 : x.2 ≤ 1000) : ∃ l, keyOf Try.prog 54 (plV x) = some l := by
  have hw1 : (Lit.int .i64 (x.1 : Int)).wf = true := WalkArith.wf_i64 (by omega)
  have hw2 : (Lit.int .i64 (x.2 : Int)).wf = true := WalkArith.wf_i64 (by omega)
  have ht : DataW.Trod (H := Unit) (fun _ => ()) Try.prog w 0 (fun _ => true) true 54 (plV x) (.agg [.lit (.int .i64 x.1), .lit (.int .i64 x.2)]) [] :=
    Joins.shut_agg2 (y0 := (.lit (.int .i64 x.1), [])) (y1 := (.lit (.int .i64 x.2), [])) Try.underlying54 (by kernel_rfl) placeCells ⟨1, by simp [DataW.trod, Try.underlying3, hw1]⟩ ⟨1, by simp [DataW.trod, Try.underlying3, hw2]⟩
  have hf : (plV x).formed Try.prog 54 = true := by simp [plV, Value.formed, Try.underlying54, placeCells]
  exact ⟨_, (keyOf_asKey placeDeep placeWide hf ht).1⟩

/-- Block B is a map from steps to numbers, of at most n entries, that tells f. -/
def PlMap (W : World) (B n : Nat) (f : Stt → Option Bool) : Prop :=
  ∃ D : DataW Unit, W.ownsMap Try.prog 54 (plainElem Try.prog 4) B n D ∧ ∀ x l, keyOf Try.prog 54 (plV x) = some l → Maps.has D l = (f x).isSome ∧ D.atKey l (.lit (.bool false)) = .lit (.bool ((f x).getD false))
def updP (f : Stt → Option Bool) (x : Stt) (v : Bool) (y : Stt) : Option Bool := if y = x then some v else f y
theorem PlMap.made (w : World) : PlMap (w.alloc (.map #[] 0)) w.heap.size 0 fun _ => none :=
  ⟨.map [], World.ownsMap_made _ _ _ _, fun x l _ => ⟨rfl, rfl⟩⟩
theorem PlMap.below {W W' : World} {B n : Nat} {f : Stt → Option Bool} (h : PlMap W B n f) (b : Below W.heap.size W W') : PlMap W' B n f := by
  obtain ⟨D, ho, hf⟩ := h
  refine ⟨D, ?_, hf⟩
  have hlt := ho.lt
  obtain ⟨es, clock, hb, F⟩ := ho
  exact ⟨es, clock, (b.block B hlt).trans hb, F⟩
theorem PlMap.kept {W W' : World} {B n : Nat} {f : Stt → Option Bool} {row : Option Nat} (h : PlMap W B n f) (g : W.grownBy W' row) (hne : some B ≠ row) : PlMap W' B n f := by
  obtain ⟨D, ho, hf⟩ := h
  exact ⟨D, ho.kept g hne, hf⟩
theorem PlMap.lt {W : World} {B n : Nat} {f : Stt → Option Bool} (h : PlMap W B n f) : B < W.heap.size := by
  obtain ⟨D, ho, _⟩ := h
  exact ho.lt
theorem PlMap.put {W' : World} {B n : Nat} {f : Stt → Option Bool} {x : Stt} {l : Lit} {v : Bool} {D : DataW Unit} (hf : ∀ x l, keyOf Try.prog 54 (plV x) = some l → Maps.has D l = (f x).isSome ∧ D.atKey l (.lit (.bool false)) = .lit (.bool ((f x).getD false)))
    (hm : IsMap D) (hk : keyOf Try.prog 54 (plV x) = some l) (h : W'.ownsMap Try.prog 54 (plainElem Try.prog 4) B (n + 1) (D.put l (.lit (.bool v)))) : PlMap W' B (n + 1) (updP f x v) := by
  refine ⟨_, h, fun y l' hl' => ?_⟩
  unfold updP
  by_cases e : y = x
  · subst e
    rw [hk] at hl'
    cases hl'
    rw [if_pos rfl]
    exact ⟨has_put_same hm (placeKeyed.key hk) _, atKey_put_same hm (placeKeyed.key hk) _ _⟩
  · have hne : l' ≠ l := fun e2 => by
      subst e2
      exact e (plV_inj (placeKeyed.inj hl' hk))
    rw [if_neg e]
    obtain ⟨h1, h2⟩ := hf y l' hl'
    exact ⟨by rw [has_put_other hne, h1], by rw [atKey_put_other hne, h2]⟩

/-- The map beside the pieces. -/
structure StP (w0 W : World) (B n : Nat) (f : Stt → Option Bool) (segs : List Seg) : Prop where
  st : St w0 W segs
  ids : PlMap W B n f
  base : w0.heap.size ≤ B
  ne : ∀ s ∈ segs, s.v.ownBlock ≠ some B
theorem StP.step {w0 W W' : World} {B n : Nat} {f : Stt → Option Bool} {segs : List Seg} (h : StP w0 W B n f segs) (b : Below W.heap.size W W') : StP w0 W' B n f segs := ⟨h.st.step b, h.ids.below b, h.base, h.ne⟩
theorem StP.dr {w0 W W' : World} {B n : Nat} {f : Stt → Option Bool} {segs : List Seg} (h : StP w0 W B n f segs) (d : Dr W W') : StP w0 W' B n f segs := h.step (d.below _)
theorem StP.addSeg {w0 W W' : World} {B n : Nat} {f : Stt → Option Bool} {segs : List Seg} (h : StP w0 W B n f segs) {s : Seg} (o : s.own W' W.heap.size) (b : Below W.heap.size W W') : StP w0 W' B n f (s :: segs) :=
  ⟨h.st.addSeg o b, h.ids.below b, h.base, fun t ht => by
    rcases List.mem_cons.1 ht with rfl | ht
    · intro e
      have := (o.lt _ e).1
      have := h.ids.lt
      omega
    · exact h.ne t ht⟩
theorem StP.join {w0 W W' : World} {B n : Nat} {f : Stt → Option Bool} {a b : List Seg} (h : StP w0 W B n f a) (k : St W W' b) : StP w0 W' B n f (b ++ a) :=
  ⟨h.st.join k, h.ids.below k.below, h.base, fun t ht => by
    rcases List.mem_append.1 ht with ht | ht
    · intro e
      have := ((k.own t ht).lt _ e).1
      have := h.ids.lt
      omega
    · exact h.ne t ht⟩
theorem StP.sub {w0 W : World} {B n : Nat} {f : Stt → Option Bool} {a b : List Seg} (h : StP w0 W B n f a) (hs : List.Sublist b a) : StP w0 W B n f b :=
  ⟨⟨h.st.below, fun s hs2 => h.st.own s (hs.subset hs2), h.st.apart.sublist hs⟩, h.ids, h.base, fun s hs2 => h.ne s (hs.subset hs2)⟩
theorem StP.became {w0 W W' : World} {B n : Nat} {f : Stt → Option Bool} (pre post : List Seg) (s s' : Seg) (h : StP w0 W B n f (pre ++ s :: post)) (hc : Became W W' w0.heap.size s s') : StP w0 W' B n f (pre ++ s' :: post) := by
  refine ⟨h.st.became pre post s s' hc, ?_, h.base, fun t ht => ?_⟩
  · rcases hc with ⟨_, _, g⟩ | ⟨_, b⟩
    · exact h.ids.kept g fun e => h.ne s (by simp) e.symm
    · exact h.ids.below b
  · rcases List.mem_append.1 ht with ht | ht
    · exact h.ne t (by simp [ht])
    · rcases List.mem_cons.1 ht with rfl | ht
      · rcases hc with ⟨hv, _, _⟩ | ⟨o, _⟩
        · rw [hv]; exact h.ne s (by simp)
        · intro e
          have := (o.lt _ e).1
          have := h.ids.lt
          omega
      · exact h.ne t (by simp [ht])
theorem StP.stored {w0 W W' : World} {B n n' : Nat} {f f' : Stt → Option Bool} {segs : List Seg} (h : StP w0 W B n f segs) (hi : PlMap W' B n' f') (g : W.grownBy W' (some B)) : StP w0 W' B n' f' segs :=
  ⟨⟨h.st.below.trans (Below.of_grown g h.st.size fun k hk => by cases hk; exact h.base), fun s hs => World.ownsRow.kept (h.st.own s hs) g (.inr fun e => h.ne s hs (by simpa using e)), h.st.apart⟩, hi, h.base, h.ne⟩

/-- 'ids[x] = v' at the operation. -/
theorem wpStorePl {w0 : World} (w : World) {ops : Array Oper} {rest : List Oper} {o : Oper} {a : Act} {Q : Exit → Act → World → Prop} {B n : Nat} {f : Stt → Option Bool} {segs : List Seg}
    (hg : o.guard = none) (m x v : Operand) (hop : o.op = Op.mapUpdate 52 m x v) (h : StP w0 w B n f segs) (hn : n ≤ 100000) (y : Stt) (val : Bool)
    (hm : a.eval m = .map (some B)) (hx : a.eval x = plV y) (hv : a.eval v = .bool val) (hy : y.1 ≤ 1000 ∧ y.2 ≤ 1000)
    (hK : ∀ w', StP w0 w' B (n + 1) (updP f y val) segs → wpList Try.prog ops Q rest (a.put o.dst undef) w') : wpList Try.prog ops Q (o :: rest) a w := by
  obtain ⟨D, ho, hf⟩ := h.ids
  obtain ⟨l, hl⟩ := place_key w y hy.1 hy.2
  refine wpList_mapUpdate_own w hg m x v _ hop _ 4 placeKeyed Try.underlying52 _ B n D hm ho (by unfold maxLen; omega) _ _ l hx hv hl (.lit (.bool val)) [] (plainElem_bool Try.underlying4 val) ?_
  intro w' ho' g
  exact hK w' (h.stored (PlMap.put hf ho.isMap hl ho') g)
theorem zeroBool (w : World) : (zeroValue 4).run Try.prog w = .ok (.bool false) w := by kernel_rfl
/-- 'm[x]' at the operation. -/
theorem wpLookPl {w0 : World} (w : World) {ops : Array Oper} {rest : List Oper} {o : Oper} {a : Act} {Q : Exit → Act → World → Prop} {B n : Nat} {f : Stt → Option Bool} {segs : List Seg}
    (hg : o.guard = none) (m x : Operand) (hop : o.op = Op.lookup 52 m x false) (h : StP w0 w B n f segs) (y : Stt)
    (hm : a.eval m = .map (some B)) (hx : a.eval x = plV y) (hy : y.1 ≤ 1000 ∧ y.2 ≤ 1000)
    (hK : wpList Try.prog ops Q rest (a.put o.dst (.bool ((f y).getD false))) w) : wpList Try.prog ops Q (o :: rest) a w := by
  obtain ⟨D, ho, hf⟩ := h.ids
  obtain ⟨l, hl⟩ := place_key w y hy.1 hy.2
  obtain ⟨h1, h2⟩ := hf y l hl
  refine wpList_plain hg fun K' hK' => ?_
  obtain ⟨v, ps, hrun, hv⟩ := ho.lookup placeKeyed Try.underlying52 (zeroBool w) (plainElem_bool Try.underlying4 false) hl
  rw [h2] at hv
  have hvb : v = .bool ((f y).getD false) := by
    unfold plainElem at hv
    rw [Try.underlying4] at hv
    cases v <;> simp at hv
    rw [hv.1]
  subst hvb
  unfold Oper.wp
  simp [execOp, hop, hm, hx, hrun, Result.andThen]
  exact hK' _ _ hK
/-- A slice of places. -/
def plCells (L : List Stt) : List Value := L.flatMap fun x => [.int .i64 x.1, .int .i64 x.2]
def SPl (v : Value) (L : List Stt) : Seg := ⟨v, 54, 2, L.length, plCells L⟩
theorem plCells_length (L : List Stt) : (plCells L).length = L.length * 2 := by
  induction L with
  | nil => rfl
  | cons x t ih => simp only [plCells, List.flatMap_cons, List.length_append, List.length_cons, List.length_nil] at ih ⊢; omega
theorem plInfo : (Try.prog.info? 54).map (fun i => (i.zero, i.size, i.bytes)) = some (some (.agg #[.int .i64 0, .int .i64 0]), 2, 16) := by kernel_rfl
theorem elemPl : Elem Try.prog 55 54 2 16 (.agg #[.int .i64 0, .int .i64 0]) := ⟨Try.underlying55, plInfo, rfl, by decide⟩
theorem SPl_append {v : Value} {xs : List Stt} {x : Stt} : (⟨v, 54, 2, xs.length + 1, plCells xs ++ [.int .i64 x.1, .int .i64 x.2]⟩ : Seg) = SPl v (xs ++ [x]) := by
  simp [SPl, plCells]

/-- A box that holds a place. -/
def PB (g : Nat) (x : Stt) : Seg := SPl (.slice (some ⟨g, 0, none⟩) 1 1) [x]
theorem PB_cells {w : World} {base g : Nat} {x : Stt} (h : (PB g x).own w base) :
    w.cell? ⟨g, 0, none⟩ = some (.int .i64 x.1) ∧ w.cell? ⟨g, 1, none⟩ = some (.int .i64 x.2) ∧ w.frozen? ⟨g, 0, none⟩ = false ∧ w.frozen? ⟨g, 1, none⟩ = false ∧ g < w.heap.size ∧ base ≤ g :=
  ⟨World.ownsRow.cellAt h 0 (by show 0 < 1 * 2; omega), World.ownsRow.cellAt h 1 (by show 1 < 1 * 2; omega), World.ownsRow.frozenAt h 0, World.ownsRow.frozenAt h 1, (h.lt g rfl).2, (h.lt g rfl).1⟩
theorem PB_put {w : World} {base g : Nat} {x : Stt} (h : (PB g x).own w base) (y : Stt) :
    (PB g y).own ((w.setCell ⟨g, 0, none⟩ (.int .i64 y.1)).setCell ⟨g, 1, none⟩ (.int .i64 y.2)) base ∧ w.grownBy ((w.setCell ⟨g, 0, none⟩ (.int .i64 y.1)).setCell ⟨g, 1, none⟩ (.int .i64 y.2)) (some g) := by
  have h1 := World.ownsRow.stored h 0 (.int .i64 y.1)
  have h2 := World.ownsRow.stored h1.1 1 (.int .i64 y.2)
  exact ⟨h2.1, grownBy_trans h1.2 h2.2⟩
theorem PB_new (w : World) (x : Stt) : (PB w.heap.size x).own (w.alloc (.cells #[.int .i64 x.1, .int .i64 x.2] 54)) w.heap.size :=
  World.ownsRow_lit w #[.int .i64 x.1, .int .i64 x.2] 1 (Nat.le_refl _) (by unfold maxLen; omega) rfl
theorem SPl_shape {w : World} {base : Nat} {v : Value} {L : List Stt} (h : (SPl v L).own w base) : ∃ ao cap, v = .slice ao L.length cap ∧ L.length ≤ cap ∧ cap ≤ maxLen := by
  rcases h.2 with ⟨hv, hn⟩ | ⟨g, cap, cur, hv, hb, hg, hnc, hcm, _⟩
  · exact ⟨none, 0, by rw [show L.length = 0 from hn]; exact hv, by rw [show L.length = 0 from hn]; exact Nat.le_refl _, Nat.zero_le _⟩
  · exact ⟨_, cap, hv, hnc, hcm⟩

/-- The places L lie at ao. -/
def CellsPl (w : World) (ao : Option Addr) (L : List Stt) : Prop :=
  ∀ i, i < L.length → ∃ b off, ao = some ⟨b, off, none⟩ ∧ w.cell? ⟨b, off + i * 2, none⟩ = some (.int .i64 (L.getD i (0, 0)).1) ∧ w.cell? ⟨b, off + i * 2 + 1, none⟩ = some (.int .i64 (L.getD i (0, 0)).2)
theorem plCells_get : ∀ (L : List Stt) (i : Nat), i < L.length → (plCells L)[i * 2]? = some (.int .i64 (L.getD i (0, 0)).1) ∧ (plCells L)[i * 2 + 1]? = some (.int .i64 (L.getD i (0, 0)).2) := by
  intro L
  induction L with
  | nil => intro i h; simp at h
  | cons x t ih =>
    intro i h
    match i with
    | 0 => exact ⟨rfl, rfl⟩
    | i + 1 =>
      have := ih i (by simpa using h)
      rw [show (i + 1) * 2 = i * 2 + 2 by omega]
      exact this
theorem SPl_cells {w : World} {base : Nat} {ao : Option Addr} {n cap : Nat} {L : List Stt} (h : (SPl (.slice ao n cap) L).own w base) : CellsPl w ao L := by
  intro i hi
  rcases id h.2 with ⟨hv, hn⟩ | ⟨g, cap', cur, hv, hb, hg, _⟩
  · have : L.length = 0 := hn
    omega
  · have hv' : (Value.slice ao n cap) = .slice (some ⟨g, 0, none⟩) L.length cap' := hv
    cases hv'
    obtain ⟨h1, h2⟩ := plCells_get L i hi
    refine ⟨g, 0, rfl, ?_, ?_⟩
    · have hc := World.ownsRow.cellAt h (i * 2) (by show i * 2 < L.length * 2; omega)
      rw [Nat.zero_add, hc]
      exact h1
    · have hc := World.ownsRow.cellAt h (i * 2 + 1) (by show i * 2 + 1 < L.length * 2; omega)
      rw [Nat.zero_add, hc]
      exact h2

theorem four_new (w : World) (c d e f : Value) (ty : TypeId) : ∀ (j : Nat) (u : Value), [c, d, e, f][j]? = some u → (w.alloc (.cells #[c, d, e, f] ty)).cell? ((⟨w.heap.size, 0, none⟩ : Addr).add j) = some u := by
  intro j u hu
  rw [Go.WideShapes.add_plain]
  match j, hu with
  | 0, hu => simp at hu; subst hu; simp [go_sem]
  | 1, hu => simp at hu; subst hu; simp [go_sem]
  | 2, hu => simp at hu; subst hu; simp [go_sem]
  | 3, hu => simp at hu; subst hu; simp [go_sem]
theorem four_new' (w : World) (g : Nat) (hg : g = w.heap.size) (c d e f : Value) (ty : TypeId) : ∀ (j : Nat) (u : Value), [c, d, e, f][j]? = some u → (w.alloc (.cells #[c, d, e, f] ty)).cell? ((⟨g, 0, none⟩ : Addr).add j) = some u := by
  subst hg
  exact four_new w c d e f ty
theorem SPl_append2 {v : Value} {xs : List Stt} {x y : Stt} : (⟨v, 54, 2, xs.length + 2, plCells xs ++ [.int .i64 x.1, .int .i64 x.2, .int .i64 y.1, .int .i64 y.2]⟩ : Seg) = SPl v (xs ++ [x, y]) := by
  simp [SPl, plCells]
/-- 'append(s, x, y)', s a piece of places. -/
theorem wpPush2Pl (w : World) {ops : Array Oper} {rest : List Oper} {o : Oper} {a : Act} {Q : Exit → Act → World → Prop}
    (hg : o.guard = none) (sl x : Operand) (ho : o.op = .call { callee := .builtin .append, args := #[sl, x], argTypes := #[55, 55] }) (base : Nat) (v : Value) (xs : List Stt) (y z : Stt) (ad : Addr)
    (hs : a.eval sl = v) (hown : (SPl v xs).own w base) (hx : a.eval x = .slice (some ad) 2 2) (hc : ∀ (j : Nat) (u : Value), [Value.int .i64 y.1, Value.int .i64 y.2, Value.int .i64 z.1, Value.int .i64 z.2][j]? = some u → w.cell? (ad.add j) = some u) (hl : xs.length ≤ 4194304)
    (hK : ∀ v' w', Became w w' base (SPl v xs) (SPl v' (xs ++ [y, z])) → wpList Try.prog ops Q rest (a.put o.dst v') w') : wpList Try.prog ops Q (o :: rest) a w := by
  refine wpAppendSt elemPl w hg sl x ho base (SPl v xs) rfl rfl hs hown ad 2 2 [.int .i64 y.1, .int .i64 y.2, .int .i64 z.1, .int .i64 z.2] hx rfl hc ?_ (by simp only [SPl]; unfold maxLen; omega) (by simp only [SPl]; omega) ?_
  · intro u hu
    simp at hu
    rcases hu with rfl | rfl | rfl | rfl <;> rfl
  · intro v' w' hb
    refine hK v' w' ?_
    rw [← SPl_append2]
    exact hb
/-- A box of the state of a walk is written. -/
theorem StP.put {w0 W : World} {B n : Nat} {f : Stt → Option Bool} (pre post : List Seg) {g : Nat} {x : Stt} (h : StP w0 W B n f (pre ++ PB g x :: post)) (y : Stt) :
    StP w0 ((W.setCell ⟨g, 0, none⟩ (.int .i64 y.1)).setCell ⟨g, 1, none⟩ (.int .i64 y.2)) B n f (pre ++ PB g y :: post) := by
  have h1 := PB_put (h.st.own (PB g x) (by simp)) y
  exact h.became pre post _ _ (.inl ⟨rfl, h1.1, h1.2⟩)
end Go.Proofs.Ytfpcfolcdpdomaa
