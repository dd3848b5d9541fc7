/- Pieces of bytes and of texts: appends. -/
import Derived.Test.YtebcnfemkchfjaaHelpSW
import Derived.Test.YtebcnfemkchfjaaAppend
import Derived.Test.YtebcnfemkchfjaaPickSt
import Derived.Laws.BytesArg
namespace Go.Proofs.Ytebcnfemkchfjaa
open Go.RowKit
set_option linter.unusedVariables false

/-- A slice of bytes. -/
def SY (v : Value) (ys : List Int) : Seg := ⟨v, 5, 1, ys.length, ys.map (Value.int .u8)⟩
theorem byteInfo : (Try.prog.info? 5).map (fun i => (i.zero, i.size, i.bytes)) = some (some (.int .u8 0), 1, 1) := by kernel_rfl
theorem elemY : Elem Try.prog 29 5 1 1 (.int .u8 0) := ⟨Try.underlying29, byteInfo, rfl, by decide⟩
theorem elemS : Elem Try.prog 22 9 1 16 (.string ByteArray.empty) := ⟨Try.underlying22, strInfo, rfl, by decide⟩
theorem SY_append {v : Value} {xs : List Int} {y : Int} : (⟨v, 5, 1, xs.length + 1, xs.map (Value.int .u8) ++ [.int .u8 y]⟩ : Seg) = SY v (xs ++ [y]) := by simp [SY]
theorem SS_append {v : Value} {xs : List ByteArray} {y : ByteArray} : (⟨v, 9, 1, xs.length + 1, xs.map Value.string ++ [.string y]⟩ : Seg) = SS v (xs ++ [y]) := by simp [SS]

/-- 'append(b, c)', b a piece of bytes. -/
theorem wpPushY (w : World) {ops : Array Oper} {rest : List Oper} {o : Oper} {a : Act} {Q : Exit → Act → World → Prop}
    (hg : o.guard = none) (sl x : Operand) (ho : o.op = .call { callee := .builtin .append, args := #[sl, x], argTypes := #[29, 29] }) (base : Nat) (v : Value) (xs : List Int) (y : Int) (ad : Addr)
    (hs : a.eval sl = v) (hown : (SY v xs).own w base) (hx : a.eval x = .slice (some ad) 1 1) (hc : ∀ (j : Nat) (u : Value), [Value.int .u8 y][j]? = some u → w.cell? (ad.add j) = some u) (hl : xs.length ≤ 4194304)
    (hK : ∀ v' w', Became w w' base (SY v xs) (SY v' (xs ++ [y])) → wpList Try.prog ops Q rest (a.put o.dst v') w') : wpList Try.prog ops Q (o :: rest) a w := by
  refine wpAppendSt elemY w hg sl x ho base (SY v xs) rfl rfl hs hown ad 1 1 [.int .u8 y] hx rfl hc ?_ (by simp only [SY]; unfold maxLen; omega) (by simp only [SY]; omega) ?_
  · intro u hu
    simp at hu
    subst hu
    rfl
  · intro v' w' hb
    refine hK v' w' ?_
    rw [← SY_append]
    exact hb
/-- 'append(s, t)', s a piece of texts. -/
theorem wpPushS (w : World) {ops : Array Oper} {rest : List Oper} {o : Oper} {a : Act} {Q : Exit → Act → World → Prop}
    (hg : o.guard = none) (sl x : Operand) (ho : o.op = .call { callee := .builtin .append, args := #[sl, x], argTypes := #[22, 22] }) (base : Nat) (v : Value) (xs : List ByteArray) (y : ByteArray) (ad : Addr)
    (hs : a.eval sl = v) (hown : (SS v xs).own w base) (hx : a.eval x = .slice (some ad) 1 1) (hc : ∀ (j : Nat) (u : Value), [Value.string y][j]? = some u → w.cell? (ad.add j) = some u) (hl : xs.length ≤ 4194304)
    (hK : ∀ v' w', Became w w' base (SS v xs) (SS v' (xs ++ [y])) → wpList Try.prog ops Q rest (a.put o.dst v') w') : wpList Try.prog ops Q (o :: rest) a w := by
  refine wpAppendSt elemS w hg sl x ho base (SS v xs) rfl rfl hs hown ad 1 1 [.string y] hx rfl hc ?_ (by simp only [SS]; unfold maxLen; omega) (by simp only [SS]; omega) ?_
  · intro u hu
    simp at hu
    subst hu
    rfl
  · intro v' w' hb
    refine hK v' w' ?_
    rw [← SS_append]
    exact hb

theorem SY_shape {w : World} {base : Nat} {v : Value} {ys : List Int} (h : (SY v ys).own w base) :
    ∃ ao cap, v = .slice ao ys.length cap ∧ ∃ s : ByteArray, s.size = ys.length ∧ ∀ W, (∀ b, (∃ k, v.ownBlock = some k ∧ b = k) → W.heap[b]? = w.heap[b]?) → (convert 29 9 v).run Try.prog W = .ok (.string s) W := by
  rcases h.2 with ⟨hv, hn⟩ | ⟨g, cap, cur, hv, hb, hg, hnc, hcm, _⟩
  · have h0 : ys.length = 0 := hn
    have h1 : ys = [] := List.eq_nil_of_length_eq_zero h0
    subst h1
    have hv' : v = .slice none 0 0 := hv
    subst hv'
    exact ⟨none, 0, rfl, ByteArray.empty, rfl, fun W _ => run_convert_bytes_nil W _ _ Try.underlying29 Try.underlying5 _ _ _ Try.underlying9⟩
  · have hv' : v = .slice (some ⟨g, 0, none⟩) ys.length cap := hv
    subst hv'
    refine ⟨_, cap, rfl, strOfNums ys, by simp [strOfNums, ByteArray.size], fun W hW => ?_⟩
    refine run_convert_bytes_arg W _ _ Try.underlying29 Try.underlying5 g 0 ys.length cap ys rfl (fun i hi => ?_) _ Try.underlying9
    have hc := World.ownsRow.cellAt h i (by show i < ys.length * 1; omega)
    rw [Nat.zero_add]
    refine (World.cell?_of_block (w := w) (hW g ⟨g, rfl, rfl⟩)).trans ?_
    rw [hc]
    simp [SY, hi]
end Go.Proofs.Ytebcnfemkchfjaa
