/- A grid without mirrors: each beam goes straight: plain facts. -/
import Derived.Test.YtecnmikfaoankaaTwiceW
namespace Go.Proofs.Ytecnmikfaoankaa
set_option linter.unusedVariables false
set_option linter.unusedSimpArgs false
set_option linter.unusedSectionVars false

theorem sumN_zero_iff {f : Nat → Nat} : ∀ {n : Nat}, sumN f n = 0 → ∀ i, i < n → f i = 0 := by
  intro n
  induction n with
  | zero => intro _ i hi; omega
  | succ n ih =>
    intro h i hi
    simp only [sumN] at h
    by_cases e : i = n
    · subst e; omega
    · exact ih (by omega) i (by omega)
theorem cntN_zero_iff {p : Nat → Bool} {n : Nat} (h : cntN p n = 0) : ∀ i, i < n → p i = false := by
  intro i hi
  have := sumN_zero_iff h i hi
  cases hp : p i
  · rfl
  · simp [hp] at this
section
variable {g : Gr} (hg : g.ok)
include hg
theorem Gr.no_mirror (h : g.mirN = 0) : ∀ c, c < g.n * g.m → g.sig c = 46 := by
  intro c hc
  have h1 := sumN_zero_iff h (c / g.m) (Gr.row_lt hg hc)
  have h2 := cntN_zero_iff h1 (c % g.m) (Gr.col_lt hg c)
  show g.lt (c / g.m) (c % g.m) = 46
  simpa using h2
theorem Gr.straight_nx (h : ∀ c, c < g.n * g.m → g.sig c = 46) {x y : Stt} (hx : g.val x) (e : g.nx x = some y) : y.2 = x.2 := by
  have hd : g.dir x = x.2 := by
    have := h x.1 hx.1
    unfold Gr.sig at this
    unfold Gr.dir
    rw [this]
    rfl
  have hlt := hx.2
  unfold Gr.nx at e
  rw [hd] at e
  split at e
  · split at e <;> cases e
    simp; omega
  · split at e
    · split at e <;> cases e
      simp; omega
    · split at e
      · split at e <;> cases e
        simp; omega
      · split at e <;> cases e
        simp; omega
theorem Gr.straight (h : ∀ c, c < g.n * g.m → g.sig c = 46) : ∀ k x y, g.val x → iter g.nx k x = some y → y.2 = x.2 := by
  intro k
  induction k with
  | zero => intro x y _ e; simp [iter] at e; rw [e]
  | succ k ih =>
    intro x y hx e
    obtain ⟨z, hz, hzy⟩ := iter_pred e
    rw [Gr.straight_nx hg h ((Gr.steps hg).iter_stay k x z hx hz) hzy, ih x z hx hz]
theorem Gr.straight_once (h : ∀ c, c < g.n * g.m → g.sig c = 46) {p : Nat} (hp : p < g.ports) (c : Nat) : (g.wayI p).count (c : Int) ≤ 1 := by
  have hd := Gr.way_nodup hg hp
  have hs : ∀ x ∈ g.wayOf p, x.2 = (g.ent p).2 := fun x hx => by
    obtain ⟨j, hj⟩ := (Gr.mem_way hg hp).1 hx
    exact Gr.straight hg h j _ x (Gr.ent_val hg hp) hj
  rw [Gr.wayI_eq]
  generalize g.wayOf p = L at hd hs
  have hn : (L.map fun y => (y.1 : Int)).Nodup := by
    rw [List.nodup_iff_pairwise_ne, List.pairwise_map]
    refine List.Pairwise.imp_of_mem ?_ (List.nodup_iff_pairwise_ne.1 hd)
    intro a b ha hb hne e
    exact hne (Prod.ext (by omega) (by rw [hs a ha, hs b hb]))
  exact List.nodup_iff_count.1 hn _
theorem Gr.straight_self (h : g.mirN = 0) {p : Nat} (hp : p < g.ports) : g.selfN p = 0 := by
  have h1 := Gr.no_mirror hg h
  unfold Gr.selfN cntN
  rw [sumN_congr (g := fun _ => 0) fun c hc => ?_]
  · exact sumN_zero _
  · have := Gr.straight_once hg h1 hp c
    have e : ((g.wayI p).count (c : Int) == 2) = false := by simp; omega
    simp [e]
theorem Gr.self_back {p : Nat} (hp : p < g.ports) : g.selfN (g.endOf p) = g.selfN p := by
  unfold Gr.selfN
  exact cntN_congr fun c _ => by rw [Gr.count_back hg hp]
end
end Go.Proofs.Ytecnmikfaoankaa
