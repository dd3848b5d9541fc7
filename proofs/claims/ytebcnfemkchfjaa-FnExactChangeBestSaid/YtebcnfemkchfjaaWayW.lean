/- Contract: the way of a beam as the spec goes it (l2Way). -/
import Derived.Test.YtebcnfemkchfjaaWayL
import Derived.Test.YtebcnfemkchfjaaBeamW
namespace Go.Proofs.Ytebcnfemkchfjaa
open Go.RowKit
set_option linter.unusedVariables false

/-- The cells and the directions of the first j states. -/
def Gr.cellsTo (g : Gr) (x : Stt) (j : Nat) : List Int := (g.wayTo x j).map fun y => (y.1 : Int)
def Gr.dirsTo (g : Gr) (x : Stt) (j : Nat) : List Int := (g.wayTo x j).map fun y => (y.2 : Int)
theorem Gr.cellsTo_length (g : Gr) (x : Stt) (j : Nat) : (g.cellsTo x j).length = j := by simp [Gr.cellsTo, Gr.wayTo_length]
theorem Gr.dirsTo_length (g : Gr) (x : Stt) (j : Nat) : (g.dirsTo x j).length = j := by simp [Gr.dirsTo, Gr.wayTo_length]
theorem Gr.cellsTo_succ {g : Gr} {x : Stt} {j c d : Nat} {a : Int} (h : iter g.nx j x = some (c, d)) (ha : (c : Int) = a) : g.cellsTo x j ++ [a] = g.cellsTo x (j + 1) := by
  simp [Gr.cellsTo, ← Gr.wayTo_succ h, ha]
theorem Gr.dirsTo_succ {g : Gr} {x : Stt} {j c d : Nat} (h : iter g.nx j x = some (c, d)) : g.dirsTo x j ++ [(d : Int)] = g.dirsTo x (j + 1) := by
  simp [Gr.dirsTo, ← Gr.wayTo_succ h]

theorem stI_bd (i d : Nat) : -1 ≤ stI i d ∧ stI i d ≤ i + 1 := by
  unfold stI
  repeat' split
  all_goals omega
theorem stK_bd (k d : Nat) : -1 ≤ stK k d ∧ stK k d ≤ k + 1 := by
  unfold stK
  repeat' split
  all_goals omega

/-- The loop's relation. -/
def WayRel (G : Gr) (w wr : World) (E : Stt) (K : Nat) (v9 v10 v11 v12 v13 : Value) : Prop :=
  ∃ (j i k d : Nat) (ao1 ao2 : Option Addr) (c1 c2 : Nat), v9 = .slice ao1 j c1 ∧ v10 = .slice ao2 j c2 ∧ v11 = .int .i64 i ∧ v12 = .int .i64 k ∧ v13 = .int .i64 d ∧
    St w wr [SI v10 (G.dirsTo E j), SI v9 (G.cellsTo E j)] ∧ i < G.n ∧ k < G.m ∧ d < 4 ∧ j ≤ K ∧ iter G.nx j E = some (i * G.m + k, d)

set_option maxHeartbeats 4000000 in
theorem l2Way_any (ao : Option Addr) (cap : Nat) (ss : List ByteArray) (p K : Nat) (y : Stt) (w : World) (hx : CellsS w ao ss) (hg : gridB ss = true) (hp : p < (gr ss).ports) (hB : (gr ss).Beam p K y) :
    Calls Try.prog 96 #[.slice ao ss.length cap, .int .i64 p] w fun e w' => ∃ v1 v2, e = .returned (.tuple #[v1, v2, .int .i64 ((gr ss).out y)]) ∧
      St w w' [SI v2 ((gr ss).dirsTo ((gr ss).ent p) (K + 1)), SI v1 ((gr ss).cellsTo ((gr ss).ent p) (K + 1))] := by
  have hok := gr_ok hg
  have hn1 : 1 ≤ ss.length := hok.n1
  have hn5 : ss.length ≤ 5 := hok.n5
  have hm1 : 1 ≤ (rowOf ss 0).size := hok.m1
  have hm5 : (rowOf ss 0).size ≤ 5 := hok.m5
  have hp2 : p < 2 * ss.length + 2 * (rowOf ss 0).size := hp
  obtain ⟨e1, e2, e3, e4⟩ := Gr.en3_ent hok hp
  have HE := Lib.hid e1
  have HN : Hid (∀ i k d, i < (gr ss).n → k < (gr ss).m → d < 4 → _) := fun i k d hi hk hd => Gr.nx_step hok hi hk hd
  have HR : Hid (∀ i, i < ss.length → (rowOf ss i).size = (rowOf ss 0).size) := fun i hi => gr_row hg hi
  have HB := Lib.hid hB
  have hK := hB.lt
  have HX := Lib.hid hx
  obtain ⟨b, off, rfl, hc, hbb⟩ := hx.at (i := 0) (by omega)
  have hc0 := hc 0 (by omega)
  rw [Nat.add_zero] at hc0
  have sta := ((St.init w).addSeg (s := SI (.slice (some ⟨w.heap.size, 0, none⟩) 0 0) []) (World.ownsRow_made w #[] 0 (Nat.le_refl _) (Nat.zero_le _) rfl) ((Below.refl _ _).alloc (Nat.le_refl _) (.cells #[] 3)))
  have stb := sta.addSeg (s := SI (.slice (some ⟨(w.alloc (.cells #[] 3)).heap.size, 0, none⟩) 0 0) []) (World.ownsRow_made (w.alloc (.cells #[] 3)) #[] 0 (Nat.le_refl _) (Nat.zero_le _) rfl) ((Below.refl _ _).alloc (Nat.le_refl _) (.cells #[] 3))
  rw [show (w.alloc (.cells #[] 3)).heap.size = w.heap.size + 1 by simp] at stb
  have ST0 := Lib.hid stb
  clear sta stb hc hx hg hp hB hok e1
  generalize hq : en3 (gr ss).n (gr ss).m p = q at *
  have HQ := Lib.hid hq
  clear hq
  go_enter Try.func96, Try.ntmps96
  go_wp2_with fail
  refine (l2Enter_any ss.length (rowOf ss 0).size p _ hn1 hn5 hm1 hm5 hp2).mono ?_
  rintro e w2 ⟨rfl, rfl⟩
  rw [show en3 ss.length (rowOf ss 0).size p = q from HQ.out]
  generalize hE : (gr ss).ent p = E at *
  have HEE := Lib.hid hE
  clear hE
  obtain ⟨qi, qk, qd⟩ := q
  go_wp2_with fail
  go_loopw [9, 10, 11, 12, 13] (fun v9 v10 v11 v12 v13 wr => WayRel (gr ss) w wr E K v9 v10 v11 v12 v13) (fun v9 _ _ _ _ _ => K + 2 - lenV v9)
  case atStart => exact ⟨0, qi, qk, qd, _, _, _, _, rfl, rfl, rfl, rfl, rfl, ST0.out, e2, e3, e4, Nat.zero_le _, by rw [HE.out]; rfl⟩
  case round =>
    obtain ⟨j, i, k, d, ao1, ao2, c1, c2, rfl, rfl, rfl, rfl, rfl, st, hi, hk, hd, hj, hit⟩ := hrel
    have hi' : i < ss.length := hi
    have hk' : k < (rowOf ss 0).size := hk
    have q0 : (0 : Int) ≤ (i : Int) * (rowOf ss 0).size := Int.mul_nonneg (by omega) (by omega)
    have q1 : (i : Int) * (rowOf ss 0).size ≤ 5 * 5 := Int.mul_le_mul (by omega) (by omega) (by omega) (by omega)
    have sta := st.step ((Below.refl _ _).alloc (Nat.le_refl _) (.cells #[.int .i64 ((i : Int) * (rowOf ss 0).size + k)] 3))
    have HS := Lib.hid sta
    have H1 := Lib.hid (Gr.cellsTo_succ hit (a := (i : Int) * (rowOf ss 0).size + k) (by rw [Int.natCast_add, Int.natCast_mul]; rfl))
    have H2 := Lib.hid (Gr.dirsTo_succ hit)
    have L1 := Lib.hid (Gr.cellsTo_length (gr ss) E j)
    have L2 := Lib.hid (Gr.dirsTo_length (gr ss) E j)
    have HIT := Lib.hid hit
    have HNX := Lib.hid (HN.out i k d hi hk hd)
    have hD : bend ((gr ss).lt i k) d < 4 := bend_lt _ hd
    clear st sta hit hi hk
    have hrs := HR.out i hi'
    have hlt : (gr ss).lt i k = sgn (rowOf ss i) k := rfl
    rw [hlt] at HNX hD
    clear hlt
    have hcw : ∀ W segs, St w W segs → W.cell? ⟨b, off + i, none⟩ = some (.string (rowOf ss i)) := fun W segs h => by
      obtain ⟨b', off', he, hcr, _⟩ := (HX.out.below h.below (Nat.le_refl _)).at hi'
      cases he
      exact hcr i hi'
    have HCW := Lib.hid hcw
    clear hcw
    generalize rowOf ss i = s at HNX hD hrs HCW
    have HSG := Lib.hid (sgn_eq s k (by omega))
    generalize hbe : bend (sgn s k) d = D at HNX hD
    have HBE := Lib.hid hbe
    clear hbe
    go_wp2_with (first
      | (at_builtin; refine wpPushI _ rfl _ _ rfl w.heap.size _ _ ((i : Int) * (rowOf ss 0).size + k) _ rfl (HS.out.own _ (List.mem_cons_of_mem _ List.mem_cons_self)) rfl (cell_one_new _ _ _) (by rw [L1.out]; omega) ?_; intro v1 w3 hbec; have st3 := HS.out.became1 hbec; rw [H1.out] at st3; have HS4 := Lib.hid (st3.step ((Below.refl _ _).alloc (Nat.le_refl _) (.cells #[.int .i64 d] 3))); clear hbec st3)
      | (at_builtin; refine wpPushI _ rfl _ _ rfl w.heap.size _ _ (d : Int) _ rfl (HS4.out.own _ List.mem_cons_self) rfl (cell_one_new _ _ _) (by rw [L2.out]; omega) ?_; intro v2 w5 hbec; have st5 := HS4.out.became0 hbec; rw [H2.out] at st5; have hc5 := HCW.out _ _ st5; have HS5 := Lib.hid st5; clear hbec st5))
    refine (l2Bend_any _ d _ hd).mono ?_
    rintro e w6 ⟨rfl, rfl⟩
    rw [HSG.out, HBE.out]
    go_wp2_with fail
    refine (l2Step_any i k D _ hD (by omega) (by omega) (by omega) (by omega)).mono ?_
    rintro e w6 ⟨rfl, rfl⟩
    have hb1 := stI_bd i D
    have hb2 := stK_bd k D
    generalize hsi : stI i D = si at *
    generalize hsk : stK k D = sk at *
    have HSI := Lib.hid hsi
    have HSK := Lib.hid hsk
    clear hsi hsk
    go_wp2_with fail
    refine (l2Leave_any ss.length (rowOf ss 0).size si sk _ hn5 hm5 (by omega) (by omega) (by omega) (by omega)).mono ?_
    rintro e w6 ⟨rfl, rfl⟩
    rcases HNX.out with ⟨i', k', rfl, rfl, hi2, hk2, hnx, hlv⟩ | ⟨hnx, hlv⟩
    · have hjK : j + 1 ≤ K := by
        by_cases e : j = K
        · have h1 := HB.out.way
          rw [HEE.out, ← e, HIT.out] at h1
          have h2 := HB.out.last
          rw [← Option.some.inj h1, hnx] at h2
          cases h2
        · omega
      have HIT2 : Hid (iter (gr ss).nx (j + 1) E = some (i' * (gr ss).m + k', D)) := by
        show (iter (gr ss).nx j E).bind (gr ss).nx = _
        rw [HIT.out]; exact hnx
      obtain ⟨a1, c1', hv1, _⟩ := OwnI.shape (SI_own.1 (HS5.out.own _ (List.mem_cons_of_mem _ List.mem_cons_self)))
      obtain ⟨a2, c2', hv2, _⟩ := OwnI.shape (SI_own.1 (HS5.out.own _ List.mem_cons_self))
      rw [Gr.cellsTo_length] at hv1
      rw [Gr.dirsTo_length] at hv2
      subst hv1
      subst hv2
      rw [show lv ss.length (rowOf ss 0).size i' k' = -1 from hlv]
      clear hlv hnx HNX
      go_wp2_with fail
      go_roundw
      case rel => exact ⟨j + 1, i', k', D, a1, a2, c1', c2', rfl, rfl, rfl, rfl, rfl, HS5.out, hi2, hk2, hD, hjK, HIT2.out⟩
      case measure => simp [lenV]; omega
    · have hjK : j = K ∧ (i * (gr ss).m + k, d) = y := by
        have hjj : j = K := by
          by_cases e : j = K
          · exact e
          · exfalso
            obtain ⟨z, hz⟩ := iter_lt HB.out.way (j + 1) (by omega)
            rw [HEE.out] at hz
            obtain ⟨z', hz', hzz⟩ := iter_pred hz
            rw [HIT.out] at hz'
            cases hz'
            rw [hnx] at hzz
            cases hzz
        refine ⟨hjj, ?_⟩
        have h1 := HB.out.way
        rw [HEE.out, ← hjj, HIT.out] at h1
        exact Option.some.inj h1
      rw [hjK.2] at hlv
      rw [show lv ss.length (rowOf ss 0).size si sk = _ from hlv]
      have hge : (0 : Int) ≤ (((gr ss).out y : Nat) : Int) := by omega
      have HJ := Lib.hid hjK.1
      clear hlv hnx HNX hjK
      go_wp2_with fail
      go_ret3
      exact ⟨v1, v2, rfl, by rw [HEE.out, ← HJ.out]; exact HS5.out⟩
end Go.Proofs.Ytebcnfemkchfjaa
