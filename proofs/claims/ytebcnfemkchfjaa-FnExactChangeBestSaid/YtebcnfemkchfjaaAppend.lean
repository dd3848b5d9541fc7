/- Appends whose slice may move to a new block, in the state of a law's walk. -/
import Derived.Test.YtebcnfemkchfjaaState
import Derived.ArgAppend
import Derived.Deep.RegionLaw
namespace Go.Proofs.Ytebcnfemkchfjaa
open Go.RowKit
set_option linter.unusedVariables false

/-- The piece s has become s': it was written in its block, or lies in a new one now. -/
def Became (W W' : World) (base : Nat) (s s' : Seg) : Prop :=
  (s'.v.ownBlock = s.v.ownBlock ∧ s'.own W' base ∧ W.grownBy W' s.v.ownBlock) ∨ (s'.own W' W.heap.size ∧ Below W.heap.size W W')

theorem Became.own {W W' : World} {base : Nat} {s s' : Seg} (h : Became W W' base s s') (hb : base ≤ W.heap.size) : s'.own W' base := by
  rcases h with h | h
  · exact h.2.1
  · exact h.1.mono hb
theorem Became.size {W W' : World} {base : Nat} {s s' : Seg} (h : Became W W' base s s') : W.heap.size ≤ W'.heap.size := by
  rcases h with h | h
  · exact h.2.2.size
  · exact h.2.size

theorem St.became {w0 W W' : World} (pre post : List Seg) (s s' : Seg) (h : St w0 W (pre ++ s :: post)) (hc : Became W W' w0.heap.size s s') : St w0 W' (pre ++ s' :: post) := by
  have hs := h.own s (by simp)
  have hap := List.pairwise_append.1 h.apart
  have hap2 := List.pairwise_cons.1 hap.2.1
  rcases hc with ⟨hv, o, g⟩ | ⟨o, b⟩
  · have other : ∀ t : Seg, t.own W w0.heap.size → Apart s t → t.own W' w0.heap.size := fun t ht ha => World.ownsRow.kept ht g ha.2
    have other2 : ∀ t : Seg, t.own W w0.heap.size → Apart t s → t.own W' w0.heap.size := fun t ht ha => World.ownsRow.kept ht g ha.1
    refine ⟨h.below.trans (Below.of_grown g h.size fun k hk => (hs.lt k hk).1), fun t ht => ?_, ?_⟩
    · rcases List.mem_append.1 ht with ht | ht
      · exact other2 t (h.own t (by simp [ht])) (hap.2.2 t ht s (by simp))
      · rcases List.mem_cons.1 ht with rfl | ht
        · exact o
        · exact other t (h.own t (by simp [ht])) (hap2.1 t ht)
    · refine List.pairwise_append.2 ⟨hap.1, List.pairwise_cons.2 ⟨fun t ht => ?_, hap2.2⟩, fun a ha t ht => ?_⟩
      · have := hap2.1 t ht
        unfold Apart at this ⊢
        rw [hv]; exact this
      · rcases List.mem_cons.1 ht with rfl | ht
        · have := hap.2.2 a ha s (by simp)
          unfold Apart at this ⊢
          rw [hv]; exact this
        · exact hap.2.2 a ha t (by simp [ht])
  · have hst := h.step b
    have ap1 : ∀ t : Seg, t.own W w0.heap.size → Apart s' t := fun t ht => by
      have h1 := ht.lt
      have h2 := o.lt
      exact ⟨apart_of' (v1 := t.v) (v2 := s'.v) (n := W.heap.size) (fun k hk => (h1 k hk).2) (fun k hk => (h2 k hk).1), apart_of (v1 := t.v) (v2 := s'.v) (n := W.heap.size) (fun k hk => (h1 k hk).2) (fun k hk => (h2 k hk).1)⟩
    refine ⟨hst.below, fun t ht => ?_, ?_⟩
    · rcases List.mem_append.1 ht with ht | ht
      · exact hst.own t (by simp [ht])
      · rcases List.mem_cons.1 ht with rfl | ht
        · exact o.mono h.size
        · exact hst.own t (by simp [ht])
    · refine List.pairwise_append.2 ⟨hap.1, List.pairwise_cons.2 ⟨fun t ht => ap1 t (h.own t (by simp [ht])), hap2.2⟩, fun a ha t ht => ?_⟩
      rcases List.mem_cons.1 ht with rfl | ht
      · have := ap1 a (h.own a (by simp [ha]))
        exact ⟨this.2, this.1⟩
      · exact hap.2.2 a ha t (by simp [ht])

/-- A slice's element type in the program's table. -/
structure Elem (P : Program) (t e : TypeId) (size bytes : Nat) (z : Value) : Prop where
  under : P.underlying t = some (.slice e)
  info : (P.info? e).map (fun i => (i.zero, i.size, i.bytes)) = some (some z, size, bytes)
  cells : z.cells.size = size
  pos : 0 < size

theorem run_append_became {P : Program} {w : World} {t ty e : TypeId} {size bytes : Nat} {z : Value} (E : Elem P t e size bytes z) {base : Nat} {s : Seg} (hty : s.ty = e) (hsz : s.size = size) (hown : s.own w base)
    {a : Addr} {m c : Nat} {news : List Value} (hl : news.length = m * size) (hnews : ∀ j u, news[j]? = some u → w.cell? (a.add j) = some u) (h1 : ∀ u ∈ news, u.oneCell' = true)
    (h63 : s.n + m ≤ maxLen) (hbytes : (s.n + m) * bytes ≤ 140737488355328) :
    ∃ v' w', (Builtin.append_ #[t, t] ty #[s.v, .slice (some a) m c]).run P w = .ok v' w' ∧ Became w w' base s ⟨v', e, size, s.n + m, s.xs ++ news⟩ := by
  obtain ⟨i, hi, hz, hs, hb⟩ := info_parts E.info
  obtain ⟨v, ty', size', n, xs⟩ := s
  simp only at hty hsz
  subst hty hsz
  simp only [Seg.own] at hown
  simp only at h63 hbytes ⊢
  rcases id hown.2 with ⟨rfl, rfl⟩ | ⟨g, cap, cur, rfl, hbg, hg, hnc, hcm, hcs, htake⟩
  · have hx : xs = [] := List.eq_nil_of_length_eq_zero (by simpa using hown.1)
    subst hx
    obtain ⟨v', w', hr, h2, h3, _⟩ := run_append_own (P := P) w w.heap.size t ty ty' i z size' bytes E.under hi hz hs hb E.cells E.pos (.slice none 0 0) 0 [] (World.ownsRow_nil _ _ _ _) a m c news hl hnews h1 h63 hbytes (Nat.le_refl _)
    exact ⟨v', w', hr, .inr ⟨h2, Below.of_grown h3 (Nat.le_refl _) (by simp [Value.ownBlock])⟩⟩
  · by_cases hroom : n + m ≤ cap
    · obtain ⟨w', hr, h2, h3⟩ := run_append_fits (P := P) w base t ty ty' i size' E.under hi hs g n cap xs hown a m c news hl hnews h1 hroom
      exact ⟨_, w', hr, .inl ⟨rfl, h2, h3⟩⟩
    · obtain ⟨v', w', hr, h2, h3⟩ := run_append_arg_grows (P := P) w t ty ty' i z size' bytes E.under hi hz hs hb E.cells E.pos ⟨g, 0, none⟩ n cap xs hown.1 (hown.cells (g := g) rfl) a m c news hl hnews (by omega) h63 hbytes
      exact ⟨v', w', hr, .inr ⟨h2, Below.of_grown h3 (Nat.le_refl _) (by simp)⟩⟩

/-- 'append(s, ..)' at the operation, s a piece of the call's own. -/
theorem wpAppendSt {P : Program} {t e : TypeId} {size bytes : Nat} {z : Value} (E : Elem P t e size bytes z) (w : World) {ops : Array Oper} {rest : List Oper} {o : Oper} {a : Act} {Q : Exit → Act → World → Prop}
    (hg : o.guard = none) (sl x : Operand) (ho : o.op = .call { callee := .builtin .append, args := #[sl, x], argTypes := #[t, t] }) (base : Nat) (s : Seg) (hty : s.ty = e) (hsz : s.size = size)
    (hs : a.eval sl = s.v) (hown : s.own w base) (ad : Addr) (m c : Nat) (news : List Value) (hx : a.eval x = .slice (some ad) m c) (hl : news.length = m * size)
    (hnews : ∀ j u, news[j]? = some u → w.cell? (ad.add j) = some u) (h1 : ∀ u ∈ news, u.oneCell' = true) (h63 : s.n + m ≤ maxLen) (hbytes : (s.n + m) * bytes ≤ 140737488355328)
    (hK : ∀ v' w', Became w w' base s ⟨v', e, size, s.n + m, s.xs ++ news⟩ → wpList P ops Q rest (a.put o.dst v') w') : wpList P ops Q (o :: rest) a w := by
  refine wpList_plain hg fun K hK' => ?_
  obtain ⟨v', w', hr, hb⟩ := run_append_became (ty := o.type) E hty hsz hown hl hnews h1 h63 hbytes
  unfold Oper.wp execOp
  simp only [ho, resolve, invoke, builtin, Sem.run_bind, Sem.run_pure, Result.andThen_ok, List.map_toArray, List.map_cons, List.map_nil, hs, hx]
  rw [hr]
  exact hK' _ _ (hK v' w' hb)

/-- The same as a step of a region that draws its order. -/
theorem step_appendSt {P : Program} {t e : TypeId} {size bytes : Nat} {z : Value} (E : Elem P t e size bytes z) {ops : Array Oper} {o : Oper} {a : Act} {w : World} {K : Act → World → Prop} {Q : Exit → Act → World → Prop} {E' : Prop}
    (hg : o.guard = none) (sl x : Operand) (ho : o.op = .call { callee := .builtin .append, args := #[sl, x], argTypes := #[t, t] }) (base : Nat) (s : Seg) (hty : s.ty = e) (hsz : s.size = size)
    (hs : a.eval sl = s.v) (hown : s.own w base) (ad' : Option Addr) (ad : Addr) (m c : Nat) (news : List Value) (hx : a.eval x = .slice ad' m c) (had : ad' = some ad) (hl : news.length = m * size)
    (hnews : ∀ j u, news[j]? = some u → w.cell? (ad.add j) = some u) (h1 : ∀ u ∈ news, u.oneCell' = true) (h63 : s.n + m ≤ maxLen) (hbytes : (s.n + m) * bytes ≤ 140737488355328)
    (hK : ∀ v' w', Became w w' base s ⟨v', e, size, s.n + m, s.xs ++ news⟩ → K (a.put o.dst v') w') :
    if Region.wanted o (yielded ops a.tmps) = true then Oper.wp P o a w K Q else E' := by
  have hw : Region.wanted o (yielded ops a.tmps) = true := by simp [Region.wanted, hg]
  rw [if_pos hw]
  subst had
  obtain ⟨v', w', hr, hb⟩ := run_append_became (ty := o.type) E hty hsz hown hl hnews h1 h63 hbytes
  unfold Oper.wp
  simp only [execOp, ho, resolve, invoke, builtin, Sem.run_bind, Sem.run_pure, Result.andThen_ok, List.map_toArray, List.map_cons, List.map_nil, hs, hx]
  rw [hr]
  exact hK v' w' hb

theorem elemI : Elem Try.prog 35 3 1 8 (.int .i64 0) := ⟨Try.underlying35, intInfo, rfl, by decide⟩

theorem ints_one (ys : List Int) : ∀ u ∈ ys.map (Value.int .i64), u.oneCell' = true := by
  intro u hu
  obtain ⟨q, _, rfl⟩ := List.mem_map.1 hu
  rfl
theorem SI_append {v : Value} {xs ys : List Int} {n : Nat} (hn : n = xs.length + ys.length) : (⟨v, 3, 1, n, xs.map (Value.int .i64) ++ ys.map (Value.int .i64)⟩ : Seg) = SI v (xs ++ ys) := by
  subst hn
  simp [SI]

/-- 'append(s, y)', s a piece of numbers. -/
theorem wpPushI (w : World) {ops : Array Oper} {rest : List Oper} {o : Oper} {a : Act} {Q : Exit → Act → World → Prop}
    (hg : o.guard = none) (sl x : Operand) (ho : o.op = .call { callee := .builtin .append, args := #[sl, x], argTypes := #[35, 35] }) (base : Nat) (v : Value) (xs : List Int) (y : Int) (ad : Addr)
    (hs : a.eval sl = v) (hown : (SI v xs).own w base) (hx : a.eval x = .slice (some ad) 1 1) (hc : ∀ (j : Nat) (u : Value), [Value.int .i64 y][j]? = some u → w.cell? (ad.add j) = some u) (hl : xs.length ≤ 4194304)
    (hK : ∀ v' w', Became w w' base (SI v xs) (SI v' (xs ++ [y])) → wpList Try.prog ops Q rest (a.put o.dst v') w') : wpList Try.prog ops Q (o :: rest) a w := by
  refine wpAppendSt elemI w hg sl x ho base (SI v xs) rfl rfl hs hown ad 1 1 [.int .i64 y] hx rfl hc (ints_one [y]) (by simp only [SI]; unfold maxLen; omega) (by simp only [SI]; omega) ?_
  intro v' w' hb
  refine hK v' w' ?_
  have e := SI_append (v := v') (xs := xs) (ys := [y]) rfl
  rw [← e]
  exact hb
theorem St.became0 {w0 W W' : World} {s s' : Seg} {post : List Seg} (h : St w0 W (s :: post)) (hc : Became W W' w0.heap.size s s') : St w0 W' (s' :: post) := St.became [] post s s' h hc
theorem St.became1 {w0 W W' : World} {a s s' : Seg} {post : List Seg} (h : St w0 W (a :: s :: post)) (hc : Became W W' w0.heap.size s s') : St w0 W' (a :: s' :: post) := St.became [a] post s s' h hc
theorem St.became2 {w0 W W' : World} {a b s s' : Seg} {post : List Seg} (h : St w0 W (a :: b :: s :: post)) (hc : Became W W' w0.heap.size s s') : St w0 W' (a :: b :: s' :: post) := St.became [a, b] post s s' h hc
/-- A piece that is wanted no longer. -/
theorem St.drop0 {w0 W : World} {s : Seg} {post : List Seg} (h : St w0 W (s :: post)) : St w0 W post :=
  ⟨h.below, fun t ht => h.own t (by simp [ht]), (List.pairwise_cons.1 h.apart).2⟩
theorem St.drop1 {w0 W : World} {a s : Seg} {post : List Seg} (h : St w0 W (a :: s :: post)) : St w0 W (a :: post) :=
  ⟨h.below, fun t ht => h.own t (by rcases List.mem_cons.1 ht with h | h <;> simp [h]), by
    have h1 := List.pairwise_cons.1 h.apart
    exact List.pairwise_cons.2 ⟨fun t ht => h1.1 t (by simp [ht]), (List.pairwise_cons.1 h1.2).2⟩⟩
theorem St.swap {w0 W : World} {a s : Seg} {post : List Seg} (h : St w0 W (a :: s :: post)) : St w0 W (s :: a :: post) := by
  have h1 := List.pairwise_cons.1 h.apart
  have h2 := List.pairwise_cons.1 h1.2
  refine ⟨h.below, fun t ht => h.own t (by simp only [List.mem_cons] at ht ⊢; rcases ht with h | h | h <;> simp [h]), List.pairwise_cons.2 ⟨fun t ht => ?_, List.pairwise_cons.2 ⟨fun t ht => h1.1 t (by simp [ht]), h2.2⟩⟩⟩
  rcases List.mem_cons.1 ht with rfl | ht
  · have := h1.1 s (by simp)
    exact ⟨this.2, this.1⟩
  · exact h2.1 t ht
theorem grownBy_setCell (w : World) (p : Addr) (u : Value) : w.grownBy (w.setCell p u) (some p.block) :=
  ⟨rfl, rfl, rfl, by simp [World.setCell], fun k _ hk => Below.heap_setCell _ _ _ _ (fun e => hk (by rw [e]))⟩
/-- A store into a place of a piece of numbers: what the walk asks, and what it leaves. -/
theorem St.putAt {w0 W : World} (pre post : List Seg) {g n cap : Nat} {xs : List Int} (h : St w0 W (pre ++ SI (.slice (some ⟨g, 0, none⟩) n cap) xs :: post)) (j : Nat) (hj : j < xs.length) :
    (∃ u, W.cell? ⟨g, j, none⟩ = some u) ∧ W.frozen? ⟨g, j, none⟩ = false ∧ ∀ x : Int, St w0 (W.setCell ⟨g, j, none⟩ (.int .i64 x)) (pre ++ SI (.slice (some ⟨g, 0, none⟩) n cap) (xs.set j x) :: post) := by
  have ho : OwnI W w0.heap.size (.slice (some ⟨g, 0, none⟩) n cap) xs := h.own (SI (.slice (some ⟨g, 0, none⟩) n cap) xs) (by simp)
  obtain ⟨h1, h2, h3⟩ := ho.put j hj
  exact ⟨h1, h2, fun x => St.writeSeg pre post _ (SI (.slice (some ⟨g, 0, none⟩) n cap) (xs.set j x)) h rfl (h3 x) (grownBy_setCell _ _ _)⟩
theorem St.put0 {w0 W : World} {post : List Seg} {g n cap : Nat} {xs : List Int} (h : St w0 W (SI (.slice (some ⟨g, 0, none⟩) n cap) xs :: post)) (j : Nat) (hj : j < xs.length) :
    (∃ u, W.cell? ⟨g, j, none⟩ = some u) ∧ W.frozen? ⟨g, j, none⟩ = false ∧ ∀ x : Int, St w0 (W.setCell ⟨g, j, none⟩ (.int .i64 x)) (SI (.slice (some ⟨g, 0, none⟩) n cap) (xs.set j x) :: post) :=
  St.putAt [] post h j hj
theorem St.put1 {w0 W : World} {a : Seg} {post : List Seg} {g n cap : Nat} {xs : List Int} (h : St w0 W (a :: SI (.slice (some ⟨g, 0, none⟩) n cap) xs :: post)) (j : Nat) (hj : j < xs.length) :
    (∃ u, W.cell? ⟨g, j, none⟩ = some u) ∧ W.frozen? ⟨g, j, none⟩ = false ∧ ∀ x : Int, St w0 (W.setCell ⟨g, j, none⟩ (.int .i64 x)) (a :: SI (.slice (some ⟨g, 0, none⟩) n cap) (xs.set j x) :: post) :=
  St.putAt [a] post h j hj
/-- Two pieces lie in different blocks. -/
theorem St.ne01 {w0 W : World} {a b : Seg} {post : List Seg} (h : St w0 W (a :: b :: post)) {g1 g2 : Nat} (h1 : a.v.ownBlock = some g1) (h2 : b.v.ownBlock = some g2) : g1 ≠ g2 := by
  have := (List.pairwise_cons.1 h.apart).1 b (by simp)
  rcases this.1 with h | h
  · rw [h1] at h; cases h
  · rw [h1, h2] at h
    exact fun e => h (by rw [e])
end Go.Proofs.Ytebcnfemkchfjaa
