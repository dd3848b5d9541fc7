/- A grid of two parts beside each other: its beams are the joined ones, and its rounds: plain facts. -/
import Derived.Test.YtoodfgfbppkbmaaBesideL
import Derived.Test.YtoodfgfbppkbmaaRen
namespace Go.Proofs.Ytoodfgfbppkbmaa
set_option linter.unusedVariables false
set_option linter.unusedSimpArgs false
set_option linter.unusedSectionVars false

theorem end_unique {α : Type} {s : α → Option α} {x y y' : α} {k k' : Nat} (h : iter s k x = some y) (hn : s y = none) (h' : iter s k' x = some y') (hn' : s y' = none) : y = y' := by
  have key : ∀ {k k' : Nat} {y y' : α}, iter s k x = some y → s y = none → iter s k' x = some y' → ¬ k < k' := by
    intro k k' y y' h hn h' hlt
    obtain ⟨z, hz⟩ := iter_lt h' (k + 1) (by omega)
    obtain ⟨z', hz', hzz⟩ := iter_pred hz
    rw [h] at hz'
    cases hz'
    rw [hn] at hzz
    cases hzz
  have h1 := key h hn h'
  have h2 := key h' hn' h
  have e : k = k' := by omega
  subst e
  rw [h] at h'
  exact Option.some.inj h'
def besB (G : Bool → Gr) (W : Gr) (b : Bool) : Nat := if b then 2 * W.n + 2 * (G false).m else 0
noncomputable def besN (G : Bool → Gr) : Nat → Nat := jnx ((G false).endsTo (G false).ports) ((G true).endsTo (G true).ports)
section
variable {G : Bool → Gr} {W : Gr} (H : Bes G W)
include H
theorem bes_len (b : Bool) : ((G b).endsTo (G b).ports).length = 2 * W.n + 2 * (G b).m ∧ (G b).ports = 2 * W.n + 2 * (G b).m := by
  rw [Gr.endsTo_length]
  unfold Gr.ports
  rw [H.n b]
  exact ⟨rfl, rfl⟩
theorem bes_glue : Glue (4 * W.n + 2 * (G false).m + 2 * (G true).m) (besN G) (mtR W.n (G false).m (4 * W.n + 2 * (G false).m + 2 * (G true).m)) := by
  have h := join_glue (n := W.n) (bes_len H false).1 (bes_len H true).1 (Gr.ends_pairs (H.ok false)) (Gr.ends_pairs (H.ok true))
  have e : ((G false).endsTo (G false).ports).length + ((G true).endsTo (G true).ports).length = 4 * W.n + 2 * (G false).m + 2 * (G true).m := by rw [(bes_len H false).1, (bes_len H true).1]; omega
  rw [e] at h
  exact h
theorem bes_cnx (b : Bool) {q : Nat} (hq : q < (G b).ports) : cnx ((G b).endsTo (G b).ports) q = (G b).endOf q := by
  unfold cnx
  rw [Gr.endsTo_getD (H.ok b) hq]
  omega
theorem besEnt_at (b : Bool) {q : Nat} (hq : q < (G b).ports) : besEnt G W (besB G W b + q) = besE G W b ((G b).ent q) := by
  have hp := (bes_len H b).2
  unfold besEnt besB
  cases b
  · simp only [Bool.false_eq_true, if_false, Nat.zero_add]
    rw [if_pos (by omega)]
  · simp only [if_true]
    rw [if_neg (by omega), show 2 * W.n + 2 * (G false).m + q - (2 * W.n + 2 * (G false).m) = q by omega]
theorem besN_at (b : Bool) {q : Nat} (hq : q < (G b).ports) : besN G (besB G W b + q) = besB G W b + (G b).endOf q := by
  have hp := (bes_len H b).2
  have hl := (bes_len H false).1
  unfold besN jnx besB
  rw [hl]
  cases b
  · simp only [Bool.false_eq_true, if_false, Nat.zero_add]
    rw [if_pos (by omega), bes_cnx H false hq]
  · simp only [if_true]
    rw [if_neg (by omega), show 2 * W.n + 2 * (G false).m + q - (2 * W.n + 2 * (G false).m) = q by omega, bes_cnx H true hq]
theorem bes_split {X : Nat} (hX : X < 4 * W.n + 2 * (G false).m + 2 * (G true).m) : ∃ b q, X = besB G W b + q ∧ q < (G b).ports := by
  have h0 := (bes_len H false).2
  have h1 := (bes_len H true).2
  by_cases h : X < 2 * W.n + 2 * (G false).m
  · exact ⟨false, X, by simp [besB], by omega⟩
  · exact ⟨true, X - (2 * W.n + 2 * (G false).m), by simp only [besB, if_true]; omega, by omega⟩
theorem besE_iter (b : Bool) : ∀ k x y, (G b).val x → iter (G b).nx k x = some y → iter W.nx k (besE G W b x) = some (besE G W b y) := by
  intro k
  induction k with
  | zero => intro x y hx e; cases e; rfl
  | succ k ih =>
    intro x y hx e
    obtain ⟨z, hz, hzy⟩ := iter_pred e
    have hzv := (Gr.rvs (H.ok b)).steps.iter_stay k x z hx hz
    show (iter W.nx k (besE G W b x)).bind W.nx = _
    rw [ih x z hx hz]
    exact besE_nx H b hzv hzy
theorem besEnt_val {X : Nat} (hX : X < 4 * W.n + 2 * (G false).m + 2 * (G true).m) : W.val (besEnt G W X) := by
  obtain ⟨b, q, rfl, hq⟩ := bes_split H hX
  rw [besEnt_at H b hq]
  exact besE_val H b (Gr.ent_val (H.ok b) hq)
theorem besEnt_inj {X X' : Nat} (hX : X < 4 * W.n + 2 * (G false).m + 2 * (G true).m) (hX' : X' < 4 * W.n + 2 * (G false).m + 2 * (G true).m) (e : besEnt G W X = besEnt G W X') : X = X' := by
  obtain ⟨b, q, rfl, hq⟩ := bes_split H hX
  obtain ⟨b', q', rfl, hq'⟩ := bes_split H hX'
  rw [besEnt_at H b hq, besEnt_at H b' hq'] at e
  obtain ⟨rfl, e2⟩ := besE_inj H (Gr.ent_val (H.ok b) hq) (Gr.ent_val (H.ok b') hq') e
  have h1 := (Gr.out_ent (H.ok b) hq).2
  have h2 := (Gr.out_ent (H.ok b) hq').2
  rw [e2, h2] at h1
  rw [h1]
/-- No state behind an entering one inside a part is one that enters. -/
theorem bes_inside (b : Bool) {x y : Stt} (hx : (G b).val x) (e : (G b).nx x = some y) {X : Nat} (hX : X < 4 * W.n + 2 * (G false).m + 2 * (G true).m) : besE G W b y ≠ besEnt G W X := by
  intro h
  obtain ⟨b', q', rfl, hq'⟩ := bes_split H hX
  rw [besEnt_at H b' hq'] at h
  obtain ⟨rfl, e2⟩ := besE_inj H (Gr.nx_val (H.ok b) hx e) (Gr.ent_val (H.ok b') hq') h
  rw [e2] at e
  exact Gr.ent_no (H.ok b) hq' x hx e
/-- The way through a part. -/
theorem bes_seg {X : Nat} (hX : X < 4 * W.n + 2 * (G false).m + 2 * (G true).m) : ∃ K Y, iter W.nx K (besEnt G W X) = some Y ∧
    W.nx Y = (mtR W.n (G false).m (4 * W.n + 2 * (G false).m + 2 * (G true).m) (besN G X)).map (besEnt G W) ∧
    (mtR W.n (G false).m (4 * W.n + 2 * (G false).m + 2 * (G true).m) (besN G X) = none → (W.out Y : Int) = nmI W.n (G false).m (G true).m (besN G X)) ∧
    Y = W.rev (besEnt G W (besN G X)) ∧ ∀ j Z, 0 < j → j ≤ K → iter W.nx j (besEnt G W X) = some Z → ∀ X', X' < 4 * W.n + 2 * (G false).m + 2 * (G true).m → Z ≠ besEnt G W X' := by
  obtain ⟨b, q, rfl, hq⟩ := bes_split H hX
  have hb := H.ok b
  obtain ⟨K, y, hK, hw, hl⟩ := Gr.beam_ends hb hq
  have hK2 : K < 100 := by have := Gr.size_le hb; omega
  have hB : (G b).Beam q K y := ⟨hK2, hw, hl⟩
  have hev := Gr.ent_val hb hq
  have hy := Gr.beam_val hb hq hB
  have he := Gr.endOf_eq hB
  obtain ⟨o1, o2⟩ := Gr.ent_out hb hy hl
  obtain ⟨p1, p2⟩ := besE_out H b hy hl
  rw [besEnt_at H b hq, besN_at H b hq, he]
  refine ⟨K, besE G W b y, besE_iter H b K _ _ hev hw, p1, p2, ?_, ?_⟩
  · rw [besEnt_at H b o1, o2, besE_rev H b (Gr.rev_val hb hy), Gr.rev_rev hb hy]
  · intro j Z hj hjK hZ X' hX'
    obtain ⟨z, hz⟩ := iter_lt hw j hjK
    obtain ⟨z', hz', hzz⟩ := iter_pred (k := j - 1) (by rw [show j - 1 + 1 = j by omega]; exact hz)
    rw [besE_iter H b j _ _ hev hz] at hZ
    cases hZ
    exact bes_inside H b ((Gr.rvs hb).steps.iter_stay _ _ z' hev hz') hzz hX'
theorem bes_step {X Z : Nat} (hX : X < 4 * W.n + 2 * (G false).m + 2 * (G true).m) (e : gs (besN G) (mtR W.n (G false).m (4 * W.n + 2 * (G false).m + 2 * (G true).m)) X = some Z) :
    ∃ K, iter W.nx (K + 1) (besEnt G W X) = some (besEnt G W Z) ∧ ∀ j V, 0 < j → j < K + 1 → iter W.nx j (besEnt G W X) = some V → ∀ X', X' < 4 * W.n + 2 * (G false).m + 2 * (G true).m → V ≠ besEnt G W X' := by
  obtain ⟨K, Y, h1, h2, h3, h4, h5⟩ := bes_seg H hX
  have e' : mtR W.n (G false).m (4 * W.n + 2 * (G false).m + 2 * (G true).m) (besN G X) = some Z := e
  rw [e'] at h2
  refine ⟨K, ?_, fun j V h6 h7 => h5 j V h6 (by omega)⟩
  show (iter W.nx K (besEnt G W X)).bind W.nx = _
  rw [h1]
  exact h2
theorem bes_steps : ∀ k X Z, X < 4 * W.n + 2 * (G false).m + 2 * (G true).m → iter (gs (besN G) (mtR W.n (G false).m (4 * W.n + 2 * (G false).m + 2 * (G true).m))) k X = some Z → ∃ K, iter W.nx K (besEnt G W X) = some (besEnt G W Z) := by
  intro k
  induction k with
  | zero => intro X Z hX e; cases e; exact ⟨0, rfl⟩
  | succ k ih =>
    intro X Z hX e
    obtain ⟨Y, hY, hYZ⟩ := iter_pred e
    obtain ⟨K, hK⟩ := ih X Y hX hY
    obtain ⟨K2, hK2, _⟩ := bes_step H ((bes_glue H).rv.steps.iter_stay k X Y hX hY) hYZ
    exact ⟨K + (K2 + 1), by rw [iter_add, hK]; exact hK2⟩
/-- The outer ports are entered as the whole grid's. -/
theorem bes_ent {p : Nat} (hp : p < 2 * W.n + 2 * (G false).m + 2 * (G true).m) : W.ent p = besEnt G W (idxJ W.n (G false).m (G true).m p) := by
  have hm := H.m
  have hA := (H.ok false).m1
  have hB := (H.ok true).m1
  have hn1 := H.okW.n1
  have hnA := H.n false
  have hnB := H.n true
  have lA := (bes_len H false).2
  have lB := (bes_len H true).2
  have key : ∀ b q i k d, (G b).ent q = (i * (G b).m + k, d) → k < (G b).m → q < (G b).ports → idxJ W.n (G false).m (G true).m p = besB G W b + q → W.ent p = (i * W.m + ((if b then (G false).m else 0) + k), d) → W.ent p = besEnt G W (idxJ W.n (G false).m (G true).m p) := by
    intro b q i k d h1 h2 h3 h4 h5
    rw [h4, besEnt_at H b h3, h1, besE_at H b h2, h5]
  by_cases c1 : p < (G false).m
  · refine key false p 0 p 2 (by unfold Gr.ent; rw [if_pos c1]; simp) c1 (by omega) (by unfold idxJ besB; rw [if_pos c1]; simp) ?_
    unfold Gr.ent
    rw [if_pos (by omega)]
    simp
  · by_cases c2 : p < (G false).m + 2 * (G true).m + W.n
    · have hidx : idxJ W.n (G false).m (G true).m p = besB G W true + (p - (G false).m) := by unfold idxJ besB; rw [if_neg c1, if_pos c2]; simp
      by_cases c3 : p < W.m
      · refine key true (p - (G false).m) 0 (p - (G false).m) 2 (by unfold Gr.ent; rw [if_pos (by omega)]; simp) (by omega) (by omega) hidx ?_
        unfold Gr.ent
        rw [if_pos c3]
        refine Prod.ext ?_ rfl
        simp
        omega
      · by_cases c4 : p < W.m + W.n
        · refine key true (p - (G false).m) (p - W.m) ((G true).m - 1) 3 ?_ (by omega) (by omega) hidx ?_
          · unfold Gr.ent
            rw [if_neg (by omega), if_pos (by omega), show p - (G false).m - (G true).m = p - W.m by omega]
            refine Prod.ext ?_ rfl
            show _ - 1 = _
            omega
          · unfold Gr.ent
            rw [if_neg c3, if_pos c4]
            refine Prod.ext ?_ rfl
            simp
            omega
        · refine key true (p - (G false).m) (W.n - 1) ((G true).m - 1 - (p - W.m - W.n)) 0 ?_ (by omega) (by omega) hidx ?_
          · unfold Gr.ent
            rw [if_neg (by omega), if_neg (by omega), if_pos (by omega), hnB, show p - (G false).m - (G true).m - W.n = p - W.m - W.n by omega]
            refine Prod.ext ?_ rfl
            show _ - _ = _
            omega
          · unfold Gr.ent
            rw [if_neg c3, if_neg c4, if_pos (by omega)]
            refine Prod.ext ?_ rfl
            simp
            omega
    · have hidx : idxJ W.n (G false).m (G true).m p = besB G W false + (p - 2 * (G true).m) := by unfold idxJ besB; rw [if_neg c1, if_neg c2]; simp
      by_cases c3 : p < 2 * W.m + W.n
      · refine key false (p - 2 * (G true).m) (W.n - 1) ((G false).m - 1 - (p - 2 * (G true).m - (G false).m - W.n)) 0 ?_ (by omega) (by omega) hidx ?_
        · unfold Gr.ent
          rw [if_neg (by omega), if_neg (by omega), if_pos (by omega), hnA]
          refine Prod.ext ?_ rfl
          show _ - _ = _
          omega
        · unfold Gr.ent
          rw [if_neg (by omega), if_neg (by omega), if_pos (by omega)]
          refine Prod.ext ?_ rfl
          simp
          omega
      · refine key false (p - 2 * (G true).m) (W.n - 1 - (p - 2 * W.m - W.n)) 0 1 ?_ (by omega) (by omega) hidx ?_
        · unfold Gr.ent
          rw [if_neg (by omega), if_neg (by omega), if_neg (by omega), hnA, show p - 2 * (G true).m - 2 * (G false).m - W.n = p - 2 * W.m - W.n by omega]
          rfl
        · unfold Gr.ent
          rw [if_neg (by omega), if_neg (by omega), if_neg (by omega)]
          refine Prod.ext ?_ rfl
          simp
/-- The beams of the whole grid are the joined ones. -/
theorem bes_beams : W.endsTo W.ports = joinL W.n (G false).m (G true).m ((G false).endsTo (G false).ports) ((G true).endsTo (G true).ports) := by
  have hG := bes_glue H
  have hWp : W.ports = 2 * W.n + 2 * (G false).m + 2 * (G true).m := by unfold Gr.ports; rw [H.m]; omega
  refine list_ext_getD (by rw [Gr.endsTo_length, joinL_length, hWp]) fun p hp => ?_
  rw [Gr.endsTo_length] at hp
  rw [Gr.endsTo_getD H.okW hp]
  have hp2 : p < 2 * W.n + 2 * (G false).m + 2 * (G true).m := by omega
  unfold joinL
  rw [fillN_getD _ hp2]
  obtain ⟨K, y, hK, e, hn⟩ := hG.outer_ends (nmI_idx hp2).2 (idxJ_out hp2)
  show _ = joutF W.n (G false).m (G true).m (besN G) p
  rw [joutF_end (K := K) (y := y) hG hp2 hK e hn]
  have hy := hG.rv.steps.iter_stay K _ y (nmI_idx hp2).2 e
  obtain ⟨K1, h1⟩ := bes_steps H K _ y (nmI_idx hp2).2 e
  obtain ⟨K2, Y, s1, s2, s3, s4, s5⟩ := bes_seg H hy
  have hn' : mtR W.n (G false).m (4 * W.n + 2 * (G false).m + 2 * (G true).m) (besN G y) = none := hn
  rw [hn'] at s2
  obtain ⟨K3, Y3, b1, b2, b3⟩ := Gr.beam_ends H.okW hp
  have hB : W.Beam p K3 Y3 := ⟨by have := Gr.size_le H.okW; omega, b2, b3⟩
  have hYY : Y3 = Y := end_unique b2 b3 (by rw [bes_ent H hp2, iter_add, h1]; exact s1) s2
  rw [hYY] at hB
  rw [Gr.endOf_eq hB, s3 hn']
theorem bes_contr : Contr W.nx W.rev W.val (fun Y => ∃ X, X < 4 * W.n + 2 * (G false).m + 2 * (G true).m ∧ Y = besEnt G W X)
    (gs (besN G) (mtR W.n (G false).m (4 * W.n + 2 * (G false).m + 2 * (G true).m))) (besN G) (· < 4 * W.n + 2 * (G false).m + 2 * (G true).m) (besEnt G W) where
  val := fun X hX => ⟨besEnt_val H hX, X, hX, rfl⟩
  inj := fun X Y hX hY e => besEnt_inj H hX hY e
  surj := fun Y _ hT _ => by
    obtain ⟨X, hX, rfl⟩ := hT
    exact ⟨X, hX, rfl⟩
  nxt := fun X Z hX e => by
    obtain ⟨K, h1, h2⟩ := bes_step H hX e
    refine ⟨K + 1, by omega, h1, ⟨Z, ?_, rfl⟩, fun j V h3 h4 h5 => ?_⟩
    · exact (bes_glue H).rv.stay X Z hX e
    · rintro ⟨X', hX', rfl⟩
      exact h2 j _ h3 h4 h5 X' hX' rfl
  stop := fun X hX e c => by
    obtain ⟨K, Y, s1, s2, _⟩ := bes_seg H hX
    have e' : mtR W.n (G false).m (4 * W.n + 2 * (G false).m + 2 * (G true).m) (besN G X) = none := e
    rw [e'] at s2
    have cY := (c.on ⟨K, s1⟩).2
    obtain ⟨z, hz⟩ := cyc_next cY
    rw [s2] at hz
    cases hz
  rev := fun X hX c => by
    have hN := (bes_glue H).nx_lt X hX
    obtain ⟨K, Y, s1, s2, s3, s4, _⟩ := bes_seg H hX
    obtain ⟨K', Y', t1, t2, t3, t4, _⟩ := bes_seg H hN
    have hR := Gr.rvs H.okW
    have hv := besEnt_val H hX
    have hv' := besEnt_val H hN
    rw [(bes_glue H).nx_nx X hX] at t4
    have cY := (c.on ⟨K, s1⟩).2
    rw [s4] at cY
    have c2 := hR.cyc_r (hR.rv _ hv') cY
    rw [hR.rr _ hv'] at c2
    rw [← t4]
    exact (c2.on ⟨K', t1⟩).1
/-- A round of a part is one of the whole grid that goes through no seam. -/
theorem bes_cyc (b : Bool) {x : Stt} (hx : (G b).val x) (c : Cyc (G b).nx x) : Cyc W.nx (besE G W b x) ∧ ∀ Y, On W.nx (besE G W b x) Y → ∃ y, (G b).val y ∧ Cyc (G b).nx y ∧ On (G b).nx x y ∧ Y = besE G W b y := by
  obtain ⟨k, hk, e⟩ := c
  refine ⟨⟨k, hk, besE_iter H b k x x hx e⟩, ?_⟩
  rintro Y ⟨j, hj⟩
  have c : Cyc (G b).nx x := ⟨k, hk, e⟩
  have hall : ∀ j, ∃ y, iter (G b).nx j x = some y := fun j => by
    have h1 := iter_mod e j
    rw [h1]
    exact iter_lt e _ (Nat.le_of_lt (Nat.mod_lt _ hk))
  obtain ⟨y, hy⟩ := hall j
  have hyv := (Gr.rvs (H.ok b)).steps.iter_stay j x y hx hy
  rw [besE_iter H b j x y hx hy] at hj
  exact ⟨y, hyv, (c.on ⟨j, hy⟩).2, ⟨j, hy⟩, (Option.some.inj hj).symm⟩
theorem bes_rev_ent (b : Bool) {y : Stt} (hy : (G b).val y) (c : Cyc (G b).nx y) {X : Nat} (hX : X < 4 * W.n + 2 * (G false).m + 2 * (G true).m) : besE G W b y ≠ besEnt G W X ∧ besE G W b y ≠ W.rev (besEnt G W X) := by
  constructor
  · obtain ⟨k, hk, e⟩ := c
    obtain ⟨z, hz, hzy⟩ := iter_pred (k := k - 1) (by rw [show k - 1 + 1 = k by omega]; exact e)
    exact bes_inside H b ((Gr.rvs (H.ok b)).steps.iter_stay _ y z hy hz) hzy hX
  · obtain ⟨b', q, rfl, hq⟩ := bes_split H hX
    have hev := Gr.ent_val (H.ok b') hq
    rw [besEnt_at H b' hq, besE_rev H b' hev]
    intro h
    obtain ⟨rfl, e2⟩ := besE_inj H hy (Gr.rev_val (H.ok b') hev) h
    obtain ⟨z, hz⟩ := cyc_next c
    rw [e2, (Gr.out_ent (H.ok b) hq).1] at hz
    cases hz
/-- Any state lies in a part. -/
theorem bes_part {Y : Stt} (hY : W.val Y) : ∃ b x, (G b).val x ∧ Y = besE G W b x := by
  have hr := Gr.row_lt H.okW hY.1
  have hc := Gr.col_lt H.okW Y.1
  have he := Gr.cell_eq H.okW Y.1
  have hm := H.m
  by_cases h : Y.1 % W.m < (G false).m
  · refine ⟨false, (Y.1 / W.m * (G false).m + Y.1 % W.m, Y.2), ⟨Gr.cell_lt (H.ok false) (by rw [H.n]; exact hr) h, hY.2⟩, ?_⟩
    rw [besE_at H false h]
    refine Prod.ext ?_ rfl
    simp
    omega
  · refine ⟨true, (Y.1 / W.m * (G true).m + (Y.1 % W.m - (G false).m), Y.2), ⟨Gr.cell_lt (H.ok true) (by rw [H.n]; exact hr) (by omega), hY.2⟩, ?_⟩
    rw [besE_at H true (by omega)]
    refine Prod.ext ?_ rfl
    simp
    omega
/-- A round that goes through no seam stays in its part. -/
theorem bes_stay (b : Bool) {x : Stt} (hx : (G b).val x) (c : Cyc W.nx (besE G W b x)) (hT : ∀ X, X < 4 * W.n + 2 * (G false).m + 2 * (G true).m → ¬ On W.nx (besE G W b x) (besEnt G W X)) : Cyc (G b).nx x := by
  rcases (Gr.rvs (H.ok b)).steps.ends_or_returns hx with ⟨k, y, _, e, hy⟩ | ⟨k, hk, _, e⟩
  · exfalso
    have hyv := (Gr.rvs (H.ok b)).steps.iter_stay k x y hx e
    have h1 := besE_iter H b k x y hx e
    obtain ⟨h2, _⟩ := besE_out H b hyv hy
    obtain ⟨Z, hZ⟩ := cyc_next (c.on ⟨k, h1⟩).2
    rw [h2] at hZ
    obtain ⟨X, hX1, hX2⟩ := Option.map_eq_some_iff.1 hZ
    refine hT X ((bes_glue H).mt_lt _ _ hX1).2 ⟨k + 1, ?_⟩
    show (iter W.nx k (besE G W b x)).bind W.nx = _
    rw [h1, hX2, ← hZ]
    exact h2
  · exact ⟨k, hk, e⟩
/-- The rounds of a part, in the whole grid. -/
theorem bes_part_num (b : Bool) {r : Nat} (hr : Num (fun Y => ((W.val Y ∧ Cyc W.nx Y) ∧ ¬ ∃ z, W.val z ∧ (∃ X, X < 4 * W.n + 2 * (G false).m + 2 * (G true).m ∧ z = besEnt G W X) ∧ Same W.nx W.rev Y z) ∧ ∃ x, (G b).val x ∧ Y = besE G W b x) (Same W.nx W.rev) r) : r = (G b).rmany := by
  have hR := Gr.rvs H.okW
  have hE := hR.eqv
  have hRb := Gr.rvs (H.ok b)
  have hnum : Rounds (G b).nx (G b).rev (G b).val (G b).rmany := Gr.reps_num (H.ok b)
  refine (Num.eq hRb.eqv (⟨fun x hx => hE.refl x hx.1.1, fun x y hx hy => hE.symm x y hx.1.1 hy.1.1, fun x y z hx hy hz => hE.trans x y z hx.1.1 hy.1.1 hz.1.1⟩ : Eqv _ _) hnum hr (fun x Y => Y = besE G W b x) ?_ ?_ ?_).symm
  · rintro x ⟨hx, c⟩
    obtain ⟨c1, c2⟩ := bes_cyc H b hx c
    refine ⟨besE G W b x, ⟨⟨⟨besE_val H b hx, c1⟩, ?_⟩, x, hx, rfl⟩, rfl⟩
    rintro ⟨z, hz, ⟨X, hX, rfl⟩, o | o⟩
    · obtain ⟨y, hy, cy, _, e⟩ := c2 _ o
      exact (bes_rev_ent H b hy cy hX).1 e.symm
    · obtain ⟨y, hy, cy, _, e⟩ := c2 _ o
      exact (bes_rev_ent H b hy cy hX).2 e.symm
  · rintro Y ⟨⟨⟨hY, c⟩, hn⟩, x, hx, rfl⟩
    refine ⟨x, ⟨hx, bes_stay H b hx c fun X hX o => hn ⟨_, besEnt_val H hX, ⟨X, hX, rfl⟩, .inl o⟩⟩, rfl⟩
  · rintro x x' Y Y' ⟨hx, c⟩ ⟨hx', c'⟩ _ _ rfl rfl
    have hon : ∀ u, (G b).val u → (On W.nx (besE G W b x) (besE G W b u) ↔ On (G b).nx x u) := fun u hu => by
      constructor
      · intro o
        obtain ⟨y, hy, _, o2, e⟩ := (bes_cyc H b hx c).2 _ o
        obtain ⟨_, rfl⟩ := besE_inj H hu hy e
        exact o2
      · rintro ⟨k, e⟩
        exact ⟨k, besE_iter H b k x u hx e⟩
    unfold Proofs.Ytoodfgfbppkbmaa.Same
    rw [besE_rev H b hx', hon x' hx', hon _ (Gr.rev_val (H.ok b) hx')]
/-- The rounds of the whole grid: those of the parts, and those that come. -/
theorem bes_rounds : W.rmany = (G false).rmany + (G true).rmany + joinN W.n (G false).m (G true).m ((G false).endsTo (G false).ports) ((G true).endsTo (G true).ports) := by
  have hR := Gr.rvs H.okW
  have hE := hR.eqv
  have hW : Rounds W.nx W.rev W.val W.rmany := Gr.reps_num H.okW
  have hTs : ∀ x y, (W.val x ∧ Cyc W.nx x) → (W.val y ∧ Cyc W.nx y) → Same W.nx W.rev x y → ((∃ z, W.val z ∧ (∃ X, X < 4 * W.n + 2 * (G false).m + 2 * (G true).m ∧ z = besEnt G W X) ∧ Same W.nx W.rev x z) ↔ (∃ z, W.val z ∧ (∃ X, X < 4 * W.n + 2 * (G false).m + 2 * (G true).m ∧ z = besEnt G W X) ∧ Same W.nx W.rev y z)) := by
    intro x y hx hy hs
    constructor
    · rintro ⟨z, hz, hT, o⟩
      exact ⟨z, hz, hT, hE.trans _ _ _ hy hx ⟨hz, hR.same_cyc hx.1 hz hx.2 o⟩ (hE.symm _ _ hx hy hs) o⟩
    · rintro ⟨z, hz, hT, o⟩
      exact ⟨z, hz, hT, hE.trans _ _ _ hx hy ⟨hz, hR.same_cyc hy.1 hz hy.2 o⟩ hs o⟩
  obtain ⟨a, r, hab, ha, hr⟩ := hW.part hE hTs
  have hja : a = joinN W.n (G false).m (G true).m ((G false).endsTo (G false).ports) ((G true).endsTo (G true).ports) := Contr.rounds hR (bes_glue H).rv (bes_contr H) ha (bes_glue H).num
  have hE2 : Eqv (fun x => (W.val x ∧ Cyc W.nx x) ∧ ¬ ∃ z, W.val z ∧ (∃ X, X < 4 * W.n + 2 * (G false).m + 2 * (G true).m ∧ z = besEnt G W X) ∧ Same W.nx W.rev x z) (Same W.nx W.rev) :=
    ⟨fun x hx => hE.refl x hx.1, fun x y hx hy => hE.symm x y hx.1 hy.1, fun x y z hx hy hz => hE.trans x y z hx.1 hy.1 hz.1⟩
  have hgo : ∀ b x y, ((W.val x ∧ Cyc W.nx x) ∧ ¬ ∃ z, W.val z ∧ (∃ X, X < 4 * W.n + 2 * (G false).m + 2 * (G true).m ∧ z = besEnt G W X) ∧ Same W.nx W.rev x z) → W.val y → Same W.nx W.rev x y → (∃ u, (G b).val u ∧ x = besE G W b u) → ∃ u, (G b).val u ∧ y = besE G W b u := by
    rintro b x y ⟨⟨hx, c⟩, hn⟩ hy o ⟨u, hu, rfl⟩
    have cu := bes_stay H b hu c fun X hX o => hn ⟨_, besEnt_val H hX, ⟨X, hX, rfl⟩, .inl o⟩
    rcases o with o | o
    · obtain ⟨y', hy', _, _, e⟩ := (bes_cyc H b hu cu).2 _ o
      exact ⟨y', hy', e⟩
    · obtain ⟨y', hy', _, _, e⟩ := (bes_cyc H b hu cu).2 _ o
      refine ⟨(G b).rev y', Gr.rev_val (H.ok b) hy', ?_⟩
      rw [← besE_rev H b hy', ← e, hR.rr y hy]
  obtain ⟨r1, r2, hr12, hr1, hr2⟩ := hr.part hE2 (Q := fun Y => ∃ u, (G false).val u ∧ Y = besE G W false u) fun x y hx hy o =>
    ⟨hgo false x y hx hy.1.1 o, hgo false y x hy hx.1.1 (hE2.symm _ _ hx hy o)⟩
  have k1 := bes_part_num H false hr1
  have k2 := bes_part_num H true (hr2.congr (fun Y => by
    constructor
    · rintro ⟨h1, h2⟩
      refine ⟨h1, ?_⟩
      obtain ⟨b, x, hx, rfl⟩ := bes_part H h1.1.1
      cases b
      · exact absurd ⟨x, hx, rfl⟩ h2
      · exact ⟨x, hx, rfl⟩
    · rintro ⟨h1, x, hx, rfl⟩
      refine ⟨h1, ?_⟩
      rintro ⟨u, hu, e⟩
      have := (besE_inj H hx hu e).1
      cases this) (fun x y _ _ => Iff.rfl))
  omega
end
end Go.Proofs.Ytoodfgfbppkbmaa
