/- A grid of two parts beside each other: its beams and rounds: plain facts. -/
import Derived.Test.YtoodfgfbppkbmaaJoinL
import Derived.Test.YtoodfgfbppkbmaaEndL
import Derived.Test.YtoodfgfbppkbmaaRounds3W
namespace Go.Proofs.Ytoodfgfbppkbmaa
set_option linter.unusedVariables false
set_option linter.unusedSimpArgs false
set_option linter.unusedSectionVars false

theorem Gr.nx_at {g : Gr} (hg : g.ok) {i k d : Nat} (hi : i < g.n) (hk : k < g.m) : g.nx (i * g.m + k, d) =
    if bend (g.lt i k) d = 0 then (if i = 0 then none else some (i * g.m + k - g.m, 0))
    else if bend (g.lt i k) d = 1 then (if k = g.m - 1 then none else some (i * g.m + k + 1, 1))
    else if bend (g.lt i k) d = 2 then (if i = g.n - 1 then none else some (i * g.m + k + g.m, 2))
    else (if k = 0 then none else some (i * g.m + k - 1, 3)) := by
  unfold Gr.nx Gr.dir
  dsimp only
  rw [Gr.div_of hg hk, Gr.mod_of hg hk]
theorem Gr.out_at {g : Gr} (hg : g.ok) {i k d : Nat} (hi : i < g.n) (hk : k < g.m) : g.out (i * g.m + k, d) =
    if bend (g.lt i k) d = 0 then k else if bend (g.lt i k) d = 1 then g.m + i else if bend (g.lt i k) d = 2 then g.m + g.n + g.m - 1 - k else 2 * g.m + g.n + g.n - 1 - i := by
  unfold Gr.out Gr.dir
  dsimp only
  rw [Gr.div_of hg hk, Gr.mod_of hg hk]
/-- W is A and B beside each other: both parts. -/
structure Bes (G : Bool → Gr) (W : Gr) : Prop where
  ok : ∀ b, (G b).ok
  okW : W.ok
  n : ∀ b, (G b).n = W.n
  m : W.m = (G false).m + (G true).m
  lt : ∀ b i k, i < W.n → k < (G b).m → W.lt i ((if b then (G false).m else 0) + k) = (G b).lt i k
def besE (G : Bool → Gr) (W : Gr) (b : Bool) (x : Stt) : Stt := (x.1 / (G b).m * W.m + ((if b then (G false).m else 0) + x.1 % (G b).m), x.2)
section
variable {G : Bool → Gr} {W : Gr} (H : Bes G W)
include H
theorem Bes.off (b : Bool) : (if b then (G false).m else 0) + (G b).m ≤ W.m := by
  have := H.m
  cases b
  · simp; omega
  · simp; omega
theorem besE_at (b : Bool) {i k d : Nat} (hk : k < (G b).m) : besE G W b (i * (G b).m + k, d) = (i * W.m + ((if b then (G false).m else 0) + k), d) := by
  unfold besE
  dsimp only
  rw [Gr.div_of (H.ok b) hk, Gr.mod_of (H.ok b) hk]
/-- A state of a part, by row and column. -/
theorem bes_coord (b : Bool) {x : Stt} (hx : (G b).val x) : ∃ i k d, x = (i * (G b).m + k, d) ∧ i < W.n ∧ k < (G b).m ∧ d < 4 :=
  ⟨x.1 / (G b).m, x.1 % (G b).m, x.2, Prod.ext (Gr.cell_eq (H.ok b) x.1).symm rfl, by rw [← H.n b]; exact Gr.row_lt (H.ok b) hx.1, Gr.col_lt (H.ok b) x.1, hx.2⟩
theorem besE_val (b : Bool) {x : Stt} (hx : (G b).val x) : W.val (besE G W b x) := by
  obtain ⟨i, k, d, rfl, hi, hk, hd⟩ := bes_coord H b hx
  rw [besE_at H b hk]
  have := H.off b
  exact ⟨Gr.cell_lt H.okW hi (by omega), hd⟩
theorem besE_inj {b b' : Bool} {x x' : Stt} (hx : (G b).val x) (hx' : (G b').val x') (e : besE G W b x = besE G W b' x') : b = b' ∧ x = x' := by
  obtain ⟨i, k, d, rfl, hi, hk, hd⟩ := bes_coord H b hx
  obtain ⟨i', k', d', rfl, hi', hk', hd'⟩ := bes_coord H b' hx'
  rw [besE_at H b hk, besE_at H b' hk'] at e
  have h1 := H.off b
  have h2 := H.off b'
  have hm := H.m
  have e1 : i * W.m + ((if b then (G false).m else 0) + k) = i' * W.m + ((if b' then (G false).m else 0) + k') := congrArg Prod.fst e
  have e2 : d = d' := congrArg Prod.snd e
  have ei : i = i' := by
    rw [← Gr.div_of H.okW (i := i) (k := (if b then (G false).m else 0) + k) (by omega), e1, Gr.div_of H.okW (by omega)]
  subst ei e2
  have ek : (if b then (G false).m else 0) + k = (if b' then (G false).m else 0) + k' := by omega
  cases b <;> cases b'
  · simp at ek; subst ek; exact ⟨rfl, rfl⟩
  · simp at ek; omega
  · simp at ek; omega
  · simp at ek; subst ek; exact ⟨rfl, rfl⟩
theorem besE_rev (b : Bool) {x : Stt} (hx : (G b).val x) : W.rev (besE G W b x) = besE G W b ((G b).rev x) := by
  obtain ⟨i, k, d, rfl, hi, hk, hd⟩ := bes_coord H b hx
  have h1 := H.off b
  unfold Gr.rev Gr.dir
  dsimp only
  rw [besE_at H b hk, besE_at H b hk, Gr.div_of (H.ok b) hk, Gr.mod_of (H.ok b) hk]
  dsimp only
  rw [Gr.div_of H.okW (by omega), Gr.mod_of H.okW (by omega), H.lt b i k hi hk]
/-- A step inside a part. -/
theorem besE_nx (b : Bool) {x y : Stt} (hx : (G b).val x) (e : (G b).nx x = some y) : W.nx (besE G W b x) = some (besE G W b y) := by
  obtain ⟨i, k, d, rfl, hi, hk, hd⟩ := bes_coord H b hx
  have h1 := H.off b
  have hb := bend_lt ((G b).lt i k) hd
  have hn := H.n b
  rw [Gr.nx_at (H.ok b) (by omega) hk] at e
  rw [besE_at H b hk, Gr.nx_at H.okW hi (by omega), H.lt b i k hi hk]
  generalize bend ((G b).lt i k) d = D at *
  generalize hof : (if b then (G false).m else 0) = o at *
  split at e
  · split at e
    · cases e
    · rename_i h0 hi0
      cases e
      obtain ⟨j, rfl⟩ : ∃ j, i = j + 1 := ⟨i - 1, by omega⟩
      rw [if_pos h0, if_neg hi0, show (j + 1) * (G b).m + k - (G b).m = j * (G b).m + k by rw [Nat.succ_mul]; omega, besE_at H b hk, hof, show (j + 1) * W.m + (o + k) - W.m = j * W.m + (o + k) by rw [Nat.succ_mul]; omega]
  · split at e
    · split at e
      · cases e
      · rename_i h0 h2 hk0
        cases e
        rw [if_neg h0, if_pos h2, if_neg (by omega), show i * (G b).m + k + 1 = i * (G b).m + (k + 1) from rfl, besE_at H b (by omega), hof]
        rfl
    · split at e
      · split at e
        · cases e
        · rename_i h0 h2 h3 hi0
          cases e
          rw [if_neg h0, if_neg h2, if_pos h3, if_neg (by omega), show i * (G b).m + k + (G b).m = (i + 1) * (G b).m + k by rw [Nat.succ_mul]; omega, besE_at H b hk, hof, show i * W.m + (o + k) + W.m = (i + 1) * W.m + (o + k) by rw [Nat.succ_mul]; omega]
      · split at e
        · cases e
        · rename_i h0 h2 h3 hk0
          cases e
          rw [if_neg h0, if_neg h2, if_neg h3, if_neg (by omega), show i * (G b).m + k - 1 = i * (G b).m + (k - 1) by omega, besE_at H b (by omega), hof]
          congr 2
          omega
/-- The state that enters at a glued port. -/
def besEnt (G : Bool → Gr) (W : Gr) (x : Nat) : Stt := if x < 2 * W.n + 2 * (G false).m then besE G W false ((G false).ent x) else besE G W true ((G true).ent (x - (2 * W.n + 2 * (G false).m)))
/-- Where a part is left. -/
theorem besE_out (b : Bool) {x : Stt} (hx : (G b).val x) (e : (G b).nx x = none) :
    W.nx (besE G W b x) = (mtR W.n (G false).m (4 * W.n + 2 * (G false).m + 2 * (G true).m) ((if b then 2 * W.n + 2 * (G false).m else 0) + (G b).out x)).map (besEnt G W) ∧
    (mtR W.n (G false).m (4 * W.n + 2 * (G false).m + 2 * (G true).m) ((if b then 2 * W.n + 2 * (G false).m else 0) + (G b).out x) = none → (W.out (besE G W b x) : Int) = nmI W.n (G false).m (G true).m ((if b then 2 * W.n + 2 * (G false).m else 0) + (G b).out x)) := by
  obtain ⟨i, k, d, rfl, hi, hk, hd⟩ := bes_coord H b hx
  have h1 := H.off b
  have hb := bend_lt ((G b).lt i k) hd
  have hn := H.n b
  have hm := H.m
  have hA := (H.ok false).m1
  have hB := (H.ok true).m1
  have hnA := H.n false
  have hnB := H.n true
  rw [Gr.nx_at (H.ok b) (by omega) hk] at e
  rw [Gr.out_at (H.ok b) (by omega) hk, besE_at H b hk, Gr.nx_at H.okW hi (by omega), Gr.out_at H.okW hi (by omega), H.lt b i k hi hk]
  generalize bend ((G b).lt i k) d = D at *
  have hD : D = 0 ∨ D = 1 ∨ D = 2 ∨ D = 3 := by omega
  rcases hD with rfl | rfl | rfl | rfl
  · simp only [if_true] at e ⊢
    have hi0 : i = 0 := by
      apply Classical.byContradiction
      intro h
      rw [if_neg h] at e
      cases e
    subst hi0
    cases b
    · simp only [Bool.false_eq_true, if_false, Nat.zero_add] at *
      have hr : mtR W.n (G false).m (4 * W.n + 2 * (G false).m + 2 * (G true).m) k = none := by unfold mtR; rw [if_neg (by omega), if_neg (by omega)]
      rw [hr]
      exact ⟨by simp, fun _ => by unfold nmI; rw [if_pos hk]⟩
    · simp only [if_true] at *
      have hr : mtR W.n (G false).m (4 * W.n + 2 * (G false).m + 2 * (G true).m) (2 * W.n + 2 * (G false).m + k) = none := by unfold mtR; rw [if_neg (by omega), if_neg (by omega)]
      rw [hr]
      exact ⟨by simp, fun _ => by unfold nmI; rw [if_neg (by omega), if_neg (by omega), if_neg (by omega), if_pos (by omega)]; omega⟩
  · simp only [if_true, Nat.one_ne_zero, if_false] at e ⊢
    have hk0 : k = (G b).m - 1 := by
      apply Classical.byContradiction
      intro h
      rw [if_neg h] at e
      cases e
    cases b
    · simp only [Bool.false_eq_true, if_false, Nat.zero_add] at *
      have hr : mtR W.n (G false).m (4 * W.n + 2 * (G false).m + 2 * (G true).m) ((G false).m + i) = some (4 * W.n + 2 * (G false).m + 2 * (G true).m - 1 - i) := by unfold mtR; rw [if_pos (by omega)]; congr 1; omega
      rw [hr]
      refine ⟨?_, fun h => by cases h⟩
      rw [if_neg (by omega)]
      show _ = some (besEnt G W _)
      congr 1
      unfold besEnt
      rw [if_neg (by omega)]
      unfold Gr.ent
      rw [if_neg (by omega), if_neg (by omega), if_neg (by omega)]
      have e3 : (G true).n - 1 - (4 * W.n + 2 * (G false).m + 2 * (G true).m - 1 - i - (2 * W.n + 2 * (G false).m) - 2 * (G true).m - (G true).n) = i := by omega
      rw [e3, show i * (G true).m = i * (G true).m + 0 from rfl, besE_at H true (by omega)]
      simp only [if_true]
      refine Prod.ext ?_ rfl
      show i * W.m + k + 1 = i * W.m + ((G false).m + 0)
      omega
    · simp only [if_true] at *
      have hr : mtR W.n (G false).m (4 * W.n + 2 * (G false).m + 2 * (G true).m) (2 * W.n + 2 * (G false).m + ((G true).m + i)) = none := by unfold mtR; rw [if_neg (by omega), if_neg (by omega)]
      rw [hr]
      exact ⟨by rw [if_pos (by omega)]; rfl, fun _ => by unfold nmI; rw [if_neg (by omega), if_neg (by omega), if_neg (by omega), if_pos (by omega)]; omega⟩
  · simp only [if_true, if_false, show ¬ (2 = 0) by omega, show ¬ (2 = 1) by omega] at e ⊢
    have hi0 : i = (G b).n - 1 := by
      apply Classical.byContradiction
      intro h
      rw [if_neg h] at e
      cases e
    have hiW : i = W.n - 1 := by omega
    cases b
    · simp only [Bool.false_eq_true, if_false, Nat.zero_add] at *
      have hr : mtR W.n (G false).m (4 * W.n + 2 * (G false).m + 2 * (G true).m) ((G false).m + (G false).n + (G false).m - 1 - k) = none := by unfold mtR; rw [if_neg (by omega), if_neg (by omega)]
      rw [hr]
      exact ⟨by rw [if_pos hiW]; rfl, fun _ => by unfold nmI; rw [if_neg (by omega), if_neg (by omega), if_pos (by omega)]; omega⟩
    · simp only [if_true] at *
      have hr : mtR W.n (G false).m (4 * W.n + 2 * (G false).m + 2 * (G true).m) (2 * W.n + 2 * (G false).m + ((G true).m + (G true).n + (G true).m - 1 - k)) = none := by unfold mtR; rw [if_neg (by omega), if_neg (by omega)]
      rw [hr]
      exact ⟨by rw [if_pos hiW]; rfl, fun _ => by unfold nmI; rw [if_neg (by omega), if_neg (by omega), if_neg (by omega), if_pos (by omega)]; omega⟩
  · simp only [if_true, if_false, show ¬ (3 = 0) by omega, show ¬ (3 = 1) by omega, show ¬ (3 = 2) by omega] at e ⊢
    have hk0 : k = 0 := by
      apply Classical.byContradiction
      intro h
      rw [if_neg h] at e
      cases e
    subst hk0
    cases b
    · simp only [Bool.false_eq_true, if_false, Nat.zero_add] at *
      have hr : mtR W.n (G false).m (4 * W.n + 2 * (G false).m + 2 * (G true).m) (2 * (G false).m + (G false).n + (G false).n - 1 - i) = none := by unfold mtR; rw [if_neg (by omega), if_neg (by omega)]
      rw [hr]
      exact ⟨by simp, fun _ => by unfold nmI; rw [if_neg (by omega), if_neg (by omega), if_pos (by omega)]; omega⟩
    · simp only [if_true] at *
      have hr : mtR W.n (G false).m (4 * W.n + 2 * (G false).m + 2 * (G true).m) (2 * W.n + 2 * (G false).m + (2 * (G true).m + (G true).n + (G true).n - 1 - i)) = some ((G false).m + i) := by unfold mtR; rw [if_neg (by omega), if_pos (by omega)]; congr 1; omega
      rw [hr]
      refine ⟨?_, fun h => by cases h⟩
      rw [if_neg (by omega)]
      show _ = some (besEnt G W _)
      congr 1
      unfold besEnt
      rw [if_pos (by omega)]
      unfold Gr.ent
      rw [if_neg (by omega), if_pos (by omega), show (G false).m + i - (G false).m = i by omega, show i * (G false).m + (G false).m - 1 = i * (G false).m + ((G false).m - 1) by omega, besE_at H false (by omega)]
      simp only [Bool.false_eq_true, if_false]
      refine Prod.ext ?_ rfl
      show i * W.m + ((G false).m + 0) - 1 = i * W.m + (0 + ((G false).m - 1))
      omega
end
end Go.Proofs.Ytoodfgfbppkbmaa
