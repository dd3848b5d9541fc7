/- A grid's columns joined one by one: plain facts. -/
import Derived.Test.YtoodfgfbppkbmaaColW
import Derived.Test.YtoodfgfbppkbmaaJoinL
import Derived.Test.YtoodfgfbppkbmaaJPlL
import Derived.Test.YtoodfgfbppkbmaaPathManyW
import Derived.Test.YtoodfgfbppkbmaaTurnPL
namespace Go.Proofs.Ytoodfgfbppkbmaa
set_option linter.unusedVariables false
set_option linter.unusedSimpArgs false

noncomputable def colP (ss : List ByteArray) (k : Nat) : List Int := (gr (colS ss k)).endsTo (gr (colS ss k)).ports
/-- The pairing of the columns up to k. -/
noncomputable def jgP (ss : List ByteArray) : Nat → List Int
  | 0 => colP ss 0
  | k + 1 => joinL (gr ss).n (k + 1) 1 (jgP ss k) (colP ss (k + 1))
/-- The rounds that came. -/
noncomputable def jgN (ss : List ByteArray) : Nat → Nat
  | 0 => (gr (colS ss 0)).rmany
  | k + 1 => jgN ss k + joinN (gr ss).n (k + 1) 1 (jgP ss k) (colP ss (k + 1)) + (gr (colS ss (k + 1))).rmany
theorem colP_ok {ss : List ByteArray} (hg : gridB ss = true) {k : Nat} (hk : k < (gr ss).m) : (colP ss k).length = 2 * (gr ss).n + 2 * 1 ∧ pairsB (colP ss k) = true := by
  obtain ⟨h1, h2, h3, h4⟩ := colS_ok hg hk
  refine ⟨?_, Gr.ends_pairs (gr_ok h1)⟩
  unfold colP
  rw [Gr.endsTo_length]
  unfold Gr.ports
  rw [h2, h3]
theorem jg_two {ss : List ByteArray} (hg : gridB ss = true) {k : Nat} (hk : k + 1 < (gr ss).m) : Two (gr ss).n (k + 1) 1 := by
  have hok := gr_ok hg
  exact ⟨hok.n1, hok.n5, by omega, by omega, by have := hok.m5; omega⟩
theorem jgP_ok {ss : List ByteArray} (hg : gridB ss = true) : ∀ k, k < (gr ss).m → (jgP ss k).length = 2 * (gr ss).n + 2 * (k + 1) ∧ pairsB (jgP ss k) = true := by
  intro k
  induction k with
  | zero => intro hk; exact colP_ok hg hk
  | succ k ih =>
    intro hk
    obtain ⟨h1, h2⟩ := ih (by omega)
    obtain ⟨h3, h4⟩ := colP_ok hg hk
    have hT := jg_two hg hk
    refine ⟨?_, joinL_pairs h1 h3 h2 h4 hT.n5 hT.m1 hT.k1 hT.mk5⟩
    show (joinL _ _ _ _ _).length = _
    rw [joinL_length]
    omega
theorem jgN_le {ss : List ByteArray} (hg : gridB ss = true) : ∀ k, k < (gr ss).m → jgN ss k ≤ 200 * (k + 1) ∧ (gr (colS ss k)).rmany ≤ 100 := by
  intro k
  induction k with
  | zero =>
    intro hk
    have := Gr.rmany_le (gr_ok (colS_ok hg hk).1)
    exact ⟨by show (gr (colS ss 0)).rmany ≤ _; omega, this⟩
  | succ k ih =>
    intro hk
    have h0 := (ih (by omega)).1
    have h1 := Gr.rmany_le (gr_ok (colS_ok hg hk).1)
    refine ⟨?_, h1⟩
    have hT := jg_two hg hk
    obtain ⟨a1, a2⟩ := jgP_ok hg k (by omega)
    obtain ⟨b1, b2⟩ := colP_ok hg hk
    have hG := join_glue (n := (gr ss).n) (m := k + 1) a1 b1 a2 b2
    have h2 : joinN (gr ss).n (k + 1) 1 (jgP ss k) (colP ss (k + 1)) ≤ 100 := by
      unfold joinN grounds
      have hn := hT.n5
      have hmk := hT.mk5
      obtain ⟨t, ht, hl⟩ := hG.num
      rw [show (jgP ss k).length + (colP ss (k + 1)).length = 4 * (gr ss).n + 2 * (k + 1) + 2 * 1 by omega] at ht hl
      have : t.length ≤ (List.range (4 * (gr ss).n + 2 * (k + 1) + 2 * 1)).length := by
        refine inj_len (fun x e => x = e) t _ (fun x hx => ⟨x, List.mem_range.2 (ht.all x hx).1, rfl⟩) (ht.apart.imp ?_)
        rintro x y hn e _ rfl hy
        exact hn (by rw [hy]; exact .inl (On.refl _ _))
      rw [List.length_range] at this
      unfold grounds at hl
      omega
    show jgN ss k + _ + _ ≤ _
    omega
noncomputable def jgL (ss : List ByteArray) : List Int := if gridB ss = true then jgP ss ((gr ss).m - 1) else []
noncomputable def jgM (ss : List ByteArray) : Int := if gridB ss = true then (jgN ss ((gr ss).m - 1) : Nat) else 0
theorem jgL_le (ss : List ByteArray) : (jgL ss).length ≤ 1048576 := by
  unfold jgL
  split
  · rename_i h
    have hok := gr_ok h
    have h1 := hok.n5
    have h2 := hok.m1
    have h3 := hok.m5
    rw [(jgP_ok h _ (by omega)).1]
    omega
  · simp
end Go.Proofs.Ytoodfgfbppkbmaa
