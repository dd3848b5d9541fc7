/- How many beams change when a mirror is exchanged: plain facts. -/
import Derived.Test.YtcacbkcckfgkjaaPatchL
import Derived.Test.YtcacbkcckfgkjaaChangeL
import Derived.Test.YtcacbkcckfgkjaaChangePairsW
import Derived.Test.YtcacbkcckfgkjaaChordsTL
namespace Go.Proofs.Ytcacbkcckfgkjaa
set_option linter.unusedVariables false
set_option linter.unusedSimpArgs false
set_option linter.unusedSectionVars false

/-- The way from x ends at the port q. -/
def Ends (g : Gr) (x : Stt) (q : Nat) : Prop := ∃ k z, iter g.nx k x = some z ∧ g.nx z = none ∧ g.out z = q
theorem last_le {α : Type} {s : α → Option α} {x y z : α} {k j : Nat} (h : iter s k x = some z) (hz : s z = none) (hj : iter s j x = some y) : j ≤ k := by
  apply Classical.byContradiction
  intro hn
  obtain ⟨u, hu⟩ := iter_lt hj (k + 1) (by omega)
  obtain ⟨v, hv, hvu⟩ := iter_pred hu
  rw [h] at hv
  cases hv
  rw [hz] at hvu
  cases hvu
theorem Ends.unique {g : Gr} {x : Stt} {q q' : Nat} (h : Ends g x q) (h' : Ends g x q') : q = q' := by
  obtain ⟨k, z, h1, h2, h3⟩ := h
  obtain ⟨k', z', h1', h2', h3'⟩ := h'
  have a := last_le h1 h2 h1'
  have b := last_le h1' h2' h1
  have e : k = k' := by omega
  subst e
  rw [h1] at h1'
  cases h1'
  rw [← h3, ← h3']
theorem Ends.step {g : Gr} {x y : Stt} {k q : Nat} (e : iter g.nx k x = some y) (h : Ends g y q) : Ends g x q := by
  obtain ⟨j, z, h1, h2, h3⟩ := h
  refine ⟨k + j, z, ?_, h2, h3⟩
  rw [iter_add, e]
  exact h1
theorem Gr.ends_end {g : Gr} (hg : g.ok) {p q : Nat} (hp : p < g.ports) (h : Ends g (g.ent p) q) : g.endOf p = q := by
  obtain ⟨K, y, hB⟩ := Gr.beam_of hg hp
  rw [Gr.endOf_eq hB]
  exact Ends.unique (g := g) (x := g.ent p) ⟨K, y, hB.way, hB.last, rfl⟩ h
theorem Gr.end_back {g : Gr} (hg : g.ok) {x : Stt} {q : Nat} (hx : g.val x) (h : Ends g x q) : q < g.ports ∧ ∃ k, iter g.nx k (g.ent q) = some (g.rev x) := by
  obtain ⟨k, z, h1, h2, rfl⟩ := h
  have hv := (Gr.rvs hg).steps.iter_stay k x z hx h1
  obtain ⟨h3, h4⟩ := Gr.ent_out hg hv h2
  exact ⟨h3, k, by rw [h4]; exact (Gr.rvs hg).iter_back k x z hx h1⟩
theorem bend_surj (L : Int) {a : Nat} (ha : a < 4) : ∃ d, d < 4 ∧ bend L d = a :=
  ⟨opp (bend L (opp a)), opp_lt _, by rw [bend_opp L (opp_lt a), opp_opp ha]⟩
theorem opp_inj {a b : Nat} (ha : a < 4) (hb : b < 4) (e : opp a = opp b) : a = b := by rw [← opp_opp ha, e, opp_opp hb]

/-- Where one leaves the cell for good, entered at d. -/
def finO (T : List Nat) (L : Int) : Nat → Nat → Option Nat
  | 0, _ => none
  | k + 1, d => match s4 T L d with
    | none => some (bend L d)
    | some y => finO T L k y
open Classical in
noncomputable def Gr.Pp (g : Gr) (c a : Nat) : Nat := if h : ∃ q, Ends g (c, a) q then h.choose else 0
section
variable {g0 g' : Gr} {c : Nat} {L : Int} (h : g0.Pat g' c L)
include h
theorem Gr.Pat.never {a : Nat} (ha : a < 4) (hr : g0.rr c a = 4) : ∀ j z, 0 < j → iter g0.nx j (c, a) = some z → z.1 ≠ c := by
  refine h.zero.s4_none ha ?_
  unfold s4
  rw [bend_dot, Gr.rT_get g0 c ha, hr]
  rfl
theorem Gr.Pat.ends_c {d q : Nat} (hd : d < 4) (hr : g0.rr c (bend L d) = 4) (he : Ends g0 (c, bend L d) q) : Ends g' (c, d) q := by
  have hn := h.never (bend_lt L hd) hr
  obtain ⟨k, z, h1, h2, h3⟩ := he
  have hx : g0.val (c, d) := ⟨h.lt, hd⟩
  have hb : beta c L (c, d) = (c, bend L d) := by unfold beta; rw [if_pos rfl]
  rcases Nat.eq_zero_or_pos k with rfl | hk
  · have hz : (c, bend L d) = z := Option.some.inj h1
    subst hz
    refine ⟨0, (c, d), rfl, ?_, ?_⟩
    · rw [h.nx hx, hb]; exact h2
    · rw [h.out hx, hb]; exact h3
  · have e := h.near hx k (fun j u hj hjk hu => hn j u hj (by rw [← hb]; exact hu)) hk
    rw [hb, h1] at e
    have hzv := (Gr.steps h.ok0).iter_stay k _ z (⟨h.lt, bend_lt L hd⟩ : g0.val (c, bend L d)) h1
    have hzc := hn k z hk h1
    have hbz : beta c L z = z := by unfold beta; rw [if_neg hzc]
    refine ⟨k, z, e, ?_, ?_⟩
    · rw [h.nx hzv, hbz]; exact h2
    · rw [h.out hzv, hbz]; exact h3
theorem Gr.Pat.ends_fin : ∀ k d b, d < 4 → finO (g0.rT c) L k d = some b → b < 4 ∧ g0.rr c b = 4 ∧ ∀ q, Ends g0 (c, b) q → Ends g' (c, d) q := by
  intro k
  induction k with
  | zero => intro d b _ e; cases e
  | succ k ih =>
    intro d b hd e
    unfold finO at e
    cases hs : s4 (g0.rT c) L d with
    | none =>
      rw [hs] at e
      cases e
      have hr : g0.rr c (bend L d) = 4 := by
        unfold s4 at hs
        split at hs
        · cases hs
        · rename_i hlt
          rw [Gr.rT_get g0 c (bend_lt L hd)] at hlt
          have := Gr.rr_lt g0 c (bend L d)
          omega
      exact ⟨bend_lt L hd, hr, fun q he => h.ends_c hd hr he⟩
    | some y =>
      rw [hs] at e
      obtain ⟨hy, k', _, e', _⟩ := (h.s4_some hd).1 hs
      obtain ⟨h1, h2, h3⟩ := ih y b hy e
      exact ⟨h1, h2, fun q he => (h3 q he).step e'⟩
theorem Gr.Pat.pp {a : Nat} (ha : a < 4) (hr : g0.rr c a = 4) : Ends g0 (c, a) (g0.Pp c a) := by
  have hv : g0.val (c, a) := ⟨h.lt, ha⟩
  have hx : ∃ q, Ends g0 (c, a) q := by
    rcases (Gr.steps h.ok0).ends_or_returns hv with ⟨k, y, _, e, hy⟩ | ⟨k, hk, _, e⟩
    · exact ⟨_, k, y, e, hy, rfl⟩
    · exact absurd rfl (h.never ha hr k _ hk e)
  unfold Gr.Pp
  rw [dif_pos hx]
  exact hx.choose_spec
theorem Gr.Pat.from_p {a : Nat} (ha : a < 4) (hr : g0.rr c a = 4) : g0.Pp c a < g0.ports ∧ ∃ k, iter g'.nx k (g'.ent (g0.Pp c a)) = some (c, opp a) := by
  obtain ⟨d, hd, e⟩ := bend_surj L ha
  have he := h.ends_c hd (by rw [e]; exact hr) (by rw [e]; exact h.pp ha hr)
  have := Gr.end_back h.ok' (h.val.2 ⟨h.lt, hd⟩) he
  rw [h.ports, h.revc hd, e] at this
  exact this
theorem Gr.Pat.end_p {a b k : Nat} (ha : a < 4) (hr : g0.rr c a = 4) (hf : finO (g0.rT c) L k (opp a) = some b) : b < 4 ∧ g0.rr c b = 4 ∧ g'.endOf (g0.Pp c a) = g0.Pp c b := by
  obtain ⟨h1, h2, h3⟩ := h.ends_fin k (opp a) b (opp_lt a) hf
  obtain ⟨h4, j, hj⟩ := h.from_p ha hr
  exact ⟨h1, h2, Gr.ends_end h.ok' (by rw [h.ports]; exact h4) ((h3 _ (h.pp h1 h2)).step hj)⟩
theorem Gr.Pat.pp_inj {a b : Nat} (ha : a < 4) (hb : b < 4) (hr : g0.rr c a = 4) (hs : g0.rr c b = 4) (e : g0.Pp c a = g0.Pp c b) : a = b := by
  have key : ∀ {a b k1 k2 : Nat}, a < 4 → b < 4 → g0.rr c b = 4 → iter g0.nx k1 (g0.ent (g0.Pp c a)) = some (c, opp a) → iter g0.nx k2 (g0.ent (g0.Pp c a)) = some (c, opp b) → ¬ k1 < k2 := by
    intro a b k1 k2 ha hb hs e1 e2 hlt
    rw [show k2 = k1 + (k2 - k1) by omega, iter_add, e1] at e2
    have e3 := (Gr.rvs h.ok0).iter_back (k2 - k1) _ _ (⟨h.lt, opp_lt a⟩ : g0.val (c, opp a)) e2
    rw [h.rev0, h.rev0, opp_opp ha, opp_opp hb] at e3
    exact h.never hb hs (k2 - k1) _ (by omega) e3 rfl
  obtain ⟨_, k1, e1⟩ := h.zero.from_p ha hr
  obtain ⟨_, k2, e2⟩ := h.zero.from_p hb hs
  rw [← e] at e2
  have a1 := key ha hb hs e1 e2
  have a2 := key hb ha hr (by rw [← e]; exact e2) (by rw [← e]; exact e1)
  have e3 : k1 = k2 := by omega
  subst e3
  rw [e1] at e2
  exact opp_inj ha hb (congrArg Prod.snd (Option.some.inj e2))
theorem Gr.Pat.last : ∀ n k d z, k ≤ n → d < 4 → iter g0.nx k (c, d) = some z → g0.nx z = none → ∃ a, a < 4 ∧ g0.rr c a = 4 ∧ Ends g0 (c, a) (g0.out z) := by
  intro n
  induction n with
  | zero =>
    intro k d z hk hd e hz
    by_cases hr : g0.rr c d = 4
    · exact ⟨d, hd, hr, k, z, e, hz, rfl⟩
    · have hb := Gr.rr_lt g0 c d
      obtain ⟨i, hi, e2, _⟩ := (Gr.rr_iff (g := g0) (c := c) (a := d) (b := g0.rr c d) (by omega)).1 rfl
      have := last_le e hz e2
      omega
  | succ n ih =>
    intro k d z hk hd e hz
    by_cases hr : g0.rr c d = 4
    · exact ⟨d, hd, hr, k, z, e, hz, rfl⟩
    · have hb := Gr.rr_lt g0 c d
      obtain ⟨i, hi, e2, _⟩ := (Gr.rr_iff (g := g0) (c := c) (a := d) (b := g0.rr c d) (by omega)).1 rfl
      have hik := last_le e hz e2
      rw [show k = i + (k - i) by omega, iter_add, e2] at e
      exact ih (k - i) _ z (by omega) (by omega) e hz
theorem Gr.Pat.other {p : Nat} (hp : p < g0.ports) (hne : ∀ a, a < 4 → g0.rr c a = 4 → g0.Pp c a ≠ p) : g'.endOf p = g0.endOf p := by
  have hv := Gr.ent_val h.ok0 hp
  have hno : ∀ k z, iter g0.nx k (g0.ent p) = some z → z.1 ≠ c := by
    rintro j ⟨z, d⟩ hj hz
    have hz : z = c := hz
    subst hz
    have hzv := (Gr.steps h.ok0).iter_stay j _ _ hv hj
    have e := (Gr.rvs h.ok0).iter_back j _ _ hv hj
    rw [h.rev0] at e
    obtain ⟨h1, h2⟩ := Gr.out_ent h.ok0 hp
    obtain ⟨a, ha, hr, he⟩ := h.last j j (opp d) _ (Nat.le_refl _) (opp_lt d) e h1
    rw [h2] at he
    exact hne a ha hr ((h.pp ha hr).unique he)
  obtain ⟨K, y, hB⟩ := Gr.beam_of h.ok0 hp
  rw [Gr.endOf_eq hB]
  refine Gr.ends_end h.ok' (by rw [h.ports]; exact hp) ?_
  have hyv := Gr.beam_val h.ok0 hp hB
  have hyc := hno K y hB.way
  have hby : beta c L y = y := by unfold beta; rw [if_neg hyc]
  rw [h.ent]
  refine ⟨K, y, ?_, ?_, ?_⟩
  · rw [h.same_away' hv hno]; exact hB.way
  · rw [h.nx hyv, hby]; exact hB.last
  · rw [h.out hyv, hby]
end
def difB (T : List Nat) (a : Nat) : Bool := (T.getD a 4 == 4) && !(finO T 114 5 (opp a) == finO T 102 5 (opp a))
def difN (T : List Nat) : Nat := ((List.range 4).filter (difB T)).length
def chkP (T : List Nat) : Bool :=
  ((List.range 4).all fun a => !(T.getD a 4 == 4) || ((finO T 114 5 (opp a)).isSome && (finO T 102 5 (opp a)).isSome)) && (difN T == 0 || (difN T == 4 && cnt4 T 114 == cnt4 T 102))
set_option maxRecDepth 100000 in
theorem chkP_all : (allT.all fun T => !(valT T) || chkP T) = true := by decide +kernel
theorem chkP_facts {T : List Nat} (h1 : T ∈ allT) (h2 : valT T = true) : (∀ a, a < 4 → T.getD a 4 = 4 → ∃ x y, finO T 114 5 (opp a) = some x ∧ finO T 102 5 (opp a) = some y) ∧ (difN T = 0 ∨ (difN T = 4 ∧ cnt4 T 114 = cnt4 T 102)) := by
  have := (List.all_eq_true.1 chkP_all) T h1
  rw [h2] at this
  simp only [Bool.not_true, Bool.false_or, chkP, Bool.and_eq_true, Bool.or_eq_true, beq_iff_eq] at this
  refine ⟨fun a ha hr => ?_, this.2⟩
  have := (List.all_eq_true.1 this.1) a (List.mem_range.2 ha)
  rw [hr] at this
  simp only [beq_self_eq_true, Bool.not_true, Bool.false_or, Bool.and_eq_true] at this
  obtain ⟨h3, h4⟩ := this
  obtain ⟨x, hx⟩ := Option.isSome_iff_exists.1 h3
  obtain ⟨y, hy⟩ := Option.isSome_iff_exists.1 h4
  exact ⟨x, y, hx, hy⟩
/-- The number of beams that change. -/
theorem Gr.chg_count {g0 g1 g2 : Gr} {c : Nat} (h1 : g0.Pat g1 c 114) (h2 : g0.Pat g2 c 102) : cntN (fun p => !(g1.endOf p == g2.endOf p)) g0.ports = difN (g0.rT c) := by
  have hk := (chkP_facts (Gr.rT_mem g0 c) h1.valT).1
  have hrg : ∀ {a}, a < 4 → ((g0.rT c).getD a 4 = 4 ↔ g0.rr c a = 4) := fun ha => by rw [Gr.rT_get g0 c ha]
  have hends : ∀ a, a < 4 → g0.rr c a = 4 → (g1.endOf (g0.Pp c a) = g2.endOf (g0.Pp c a) ↔ finO (g0.rT c) 114 5 (opp a) = finO (g0.rT c) 102 5 (opp a)) := fun a ha hr => by
    obtain ⟨x, y, hx, hy⟩ := hk a ha ((hrg ha).2 hr)
    obtain ⟨x4, xr, e1⟩ := h1.end_p ha hr hx
    obtain ⟨y4, yr, e2⟩ := h2.end_p ha hr hy
    rw [e1, e2, hx, hy]
    constructor
    · intro e; rw [h1.pp_inj x4 y4 xr yr e]
    · intro e; rw [Option.some.inj e]
  have hdif : ∀ {a}, a < 4 → (difB (g0.rT c) a = true ↔ g0.rr c a = 4 ∧ g1.endOf (g0.Pp c a) ≠ g2.endOf (g0.Pp c a)) := fun {a} ha => by
    unfold difB
    rw [Bool.and_eq_true, beq_iff_eq, hrg ha, Bool.not_eq_true', beq_eq_false_iff_ne]
    constructor
    · rintro ⟨hr, hne⟩; exact ⟨hr, fun e => hne ((hends a ha hr).1 e)⟩
    · rintro ⟨hr, hne⟩; exact ⟨hr, fun e => hne ((hends a ha hr).2 e)⟩
  rw [cntN_list]
  unfold difN
  refine Nat.le_antisymm ?_ ?_
  · refine inj_len (fun p a => g0.rr c a = 4 ∧ g0.Pp c a = p) _ _ (fun p hp => ?_) ?_
    · obtain ⟨hp1, hp2⟩ := List.mem_filter.1 hp
      have hp1 := List.mem_range.1 hp1
      simp only [Bool.not_eq_true', beq_eq_false_iff_ne] at hp2
      apply Classical.byContradiction
      intro hn
      have hno : ∀ a, a < 4 → g0.rr c a = 4 → g0.Pp c a ≠ p := fun a ha hr e => hn ⟨a, List.mem_filter.2 ⟨List.mem_range.2 ha, (hdif ha).2 ⟨hr, by rw [e]; exact hp2⟩⟩, hr, e⟩
      exact hp2 (by rw [h1.other hp1 hno, h2.other hp1 hno])
    · refine List.Pairwise.imp ?_ ((List.nodup_iff_pairwise_ne.1 List.nodup_range).filter _)
      rintro p q hn a _ ⟨_, e1⟩ ⟨_, e2⟩
      exact hn (by rw [← e1, ← e2])
  · refine inj_len (fun a p => g0.rr c a = 4 ∧ g0.Pp c a = p) _ _ (fun a ha => ?_) ?_
    · obtain ⟨ha1, ha2⟩ := List.mem_filter.1 ha
      have ha1 := List.mem_range.1 ha1
      obtain ⟨hr, hne⟩ := (hdif ha1).1 ha2
      exact ⟨_, List.mem_filter.2 ⟨List.mem_range.2 (h1.from_p ha1 hr).1, by simpa using hne⟩, hr, rfl⟩
    · refine List.Pairwise.imp_of_mem ?_ ((List.nodup_iff_pairwise_ne.1 (List.nodup_range (n := 4))).filter _)
      rintro a b ha hb hn p _ ⟨r1, e1⟩ ⟨r2, e2⟩
      exact hn (h1.pp_inj (List.mem_range.1 (List.mem_filter.1 ha).1) (List.mem_range.1 (List.mem_filter.1 hb).1) r1 r2 (by rw [e1, e2]))
theorem chgN_comm (g g' : Gr) (h : g.ports = g'.ports) : chgN g g' = chgN g' g := by
  unfold chgN
  rw [h]
  refine cntN_congr fun p _ => ?_
  rw [Bool.beq_comm]
/-- What an exchange does to beams. -/
theorem chg_facts {ss : List ByteArray} {q : Nat} (hb : mirB ss q = true) (hg : gridB ss = true) (hq : q < (gr ss).n * (gr ss).m) :
    (chgL ss q = 0 ∨ (chgL ss q = 4 ∧ deltaL ss q = 0)) := by
  have hs := sig_let hg hq
  have h0 := pat_put hg hq (L := 46) rfl
  have h1 := pat_put hg hq (L := 114) rfl
  have h2 := pat_put hg hq (L := 102) rfl
  have hc := Gr.chg_count h1 h2
  have hk := (chkP_facts (Gr.rT_mem (gr (putS ss q 46)) q) h1.valT).2
  obtain ⟨A, hA⟩ := Gr.patch h0
  have hm1 := hA _ _ h1
  have hm2 := hA _ _ h2
  have s1 := putS_sides hg q 114
  have s2 := putS_sides hg q 102
  have hne : (gr ss).sig q ≠ 46 := by
    simp only [mirB, Bool.and_eq_true, Bool.not_eq_true', beq_eq_false_iff_ne] at hb
    exact hb.2
  have hself := putS_self hg hq
  have e1 : chgL ss q = (chgN (gr ss) (gr (putS ss q (exch ((gr ss).sig q)))) : Nat) := by simp [chgL, hb]
  have e2 : deltaL ss q = ((gr (putS ss q (exch ((gr ss).sig q)))).pmany : Nat) - ((gr ss).pmany : Nat) := by simp [deltaL, hb, putP]
  have hch : chgN (gr (putS ss q 114)) (gr (putS ss q 102)) = difN ((gr (putS ss q 46)).rT q) := by
    unfold chgN
    rw [h1.ports]
    exact hc
  have hpm : (gr (putS ss q 114)).pmany + cnt4 ((gr (putS ss q 46)).rT q) 102 = (gr (putS ss q 102)).pmany + cnt4 ((gr (putS ss q 46)).rT q) 114 := by
    unfold Gr.pmany
    rw [hm1, hm2, s1.1, s1.2, s2.1, s2.2]
    omega
  rw [e1, e2]
  simp [letB] at hs
  rcases hs with (h | h) | h
  · exact absurd h hne
  · rw [h] at hself ⊢
    show ((chgN (gr ss) (gr (putS ss q 102)) : Nat) : Int) = 0 ∨ ((chgN (gr ss) (gr (putS ss q 102)) : Nat) : Int) = 4 ∧ ((gr (putS ss q 102)).pmany : Int) - ((gr ss).pmany : Int) = 0
    rw [hself] at hch hpm
    rw [hch]
    rcases hk with hk | ⟨hk, hk2⟩
    · exact .inl (by rw [hk]; rfl)
    · refine .inr ⟨by rw [hk]; rfl, ?_⟩
      omega
  · rw [h] at hself ⊢
    show ((chgN (gr ss) (gr (putS ss q 114)) : Nat) : Int) = 0 ∨ ((chgN (gr ss) (gr (putS ss q 114)) : Nat) : Int) = 4 ∧ ((gr (putS ss q 114)).pmany : Int) - ((gr ss).pmany : Int) = 0
    rw [hself] at hch hpm
    rw [chgN_comm _ _ (by rw [h1.ports, ← h2.ports, hself]), hch]
    rcases hk with hk | ⟨hk, hk2⟩
    · exact .inl (by rw [hk]; rfl)
    · refine .inr ⟨by rw [hk]; rfl, ?_⟩
      omega
end Go.Proofs.Ytcacbkcckfgkjaa
