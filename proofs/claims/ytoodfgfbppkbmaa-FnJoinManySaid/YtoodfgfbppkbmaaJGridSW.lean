/- Contract: a grid's columns joined, as the spec does it (l6jGrid). -/
import Derived.Test.YtoodfgfbppkbmaaJGridL
import Derived.Test.YtoodfgfbppkbmaaJJoinSW
import Derived.Test.YtoodfgfbppkbmaaCellW
namespace Go.Proofs.Ytoodfgfbppkbmaa
open Go.RowKit
set_option linter.unusedVariables false
set_option linter.unusedSimpArgs false

set_option maxRecDepth 100000 in
set_option maxHeartbeats 4000000 in
theorem l6jGrid_any (ao : Option Addr) (cap : Nat) (ss : List ByteArray) (w : World) (hx : CellsS w ao ss) (hg : gridB ss = true) :
    Calls Try.prog 38 #[.slice ao ss.length cap] w fun e w' => ∃ v, e = .returned (.tuple #[v, .int .i64 (jgN ss ((gr ss).m - 1) : Nat)]) ∧ St w w' [SI v (jgP ss ((gr ss).m - 1))] := by
  have hok := gr_ok hg
  have hn1 : 1 ≤ ss.length := hok.n1
  have hn5 : ss.length ≤ 5 := hok.n5
  have hm1 : 1 ≤ (gr ss).m := hok.m1
  have hm5 : (gr ss).m ≤ 5 := hok.m5
  have HX := Lib.hid hx
  have HCO := Lib.hid fun k (hk : k < (gr ss).m) W (b : Below w.heap.size w W) => l6jColumn_any ao cap ss k W (hx.below b (Nat.le_refl _)) hg hk
  have HCG := Lib.hid fun k (hk : k < (gr ss).m) => (colS_ok hg hk).1
  have HCP := Lib.hid fun k (hk : k < (gr ss).m) => colP_ok hg hk
  have HJP := Lib.hid (jgP_ok hg)
  have HJN := Lib.hid (jgN_le hg)
  have HTW := Lib.hid fun k (hk : k + 1 < (gr ss).m) => jg_two hg hk
  have HRM : Hid (∀ k, ((gr (colS ss k)).lens (4 * ((gr (colS ss k)).n * (gr (colS ss k)).m))).length = (gr (colS ss k)).rmany) := fun k => Gr.lens_length _ _
  have HN : Hid ((gr ss).n = ss.length) := rfl
  obtain ⟨b, off, rfl, hcs, hbb⟩ := hx.at (i := 0) (by omega)
  have HC0 : Hid (∀ W, Below w.heap.size w W → W.cell? ⟨b, off, none⟩ = some (.string (rowOf ss 0))) := fun W hW => by
    have h0 := hcs 0 (by omega)
    rw [Nat.add_zero] at h0
    rw [hW.cell (p := ⟨b, off, none⟩) hbb, h0]
  have HM0 : Hid ((rowOf ss 0).size = (gr ss).m) := rfl
  clear hx hok hcs hg
  generalize hMM : (gr ss).m = M at *
  generalize hs0 : rowOf ss 0 = s0 at *
  clear hMM hs0
  go_enter Try.func38, Try.ntmps38
  go_wp2_with fail
  refine (HCO.out 0 (by omega) _ (Below.refl _ _)).mono ?_
  rintro e w1 ⟨v1, rfl, st1⟩
  obtain ⟨a1, c1, rfl⟩ := st1.shapeS 0 rfl
  go_wp2_with fail
  refine (l2Pairs_any a1 c1 (colS ss 0) w1 (st1.texts 0 rfl) (HCG.out 0 (by omega))).mono ?_
  rintro e w2 ⟨v2, rfl, sta⟩
  have st2 := (st1.join sta).sub (b := [SI v2 (colP ss 0)]) (by simp [colP])
  clear st1 sta
  go_wp2_with fail
  refine (HCO.out 0 (by omega) _ st2.below).mono ?_
  rintro e w3 ⟨v3, rfl, sta⟩
  have st3 := st2.join sta
  obtain ⟨a3, c3, rfl⟩ := st3.shapeS 0 rfl
  clear st2 sta
  go_wp2_with fail
  refine (l3Rounds_any a3 c3 (colS ss 0) w3 (st3.texts 0 rfl) (HCG.out 0 (by omega))).mono ?_
  rintro e w4 ⟨v4, rfl, sta⟩
  have st4 := st3.join sta
  obtain ⟨a4, c4, rfl⟩ := st4.shapeI 0 rfl
  have st5 := st4.sub (b := [SI v2 (colP ss 0)]) (by simp)
  obtain ⟨a2, c2, rfl⟩ := st5.shapeI 0 rfl
  rw [HRM.out 0]
  have HS5 := Lib.hid st5
  clear st3 sta st4 st5
  go_wp2_with fail
  go_loopg [5, 6, 7] (M - 1) (fun kk v5 v6 v7 wr => ∃ (k : Nat) (a : Option Addr) (c : Nat), kk + (k + 1) = M ∧ v7 = .int .i64 ((k : Int) + 1) ∧ v6 = .int .i64 (jgN ss k : Nat) ∧ v5 = .slice a (jgP ss k).length c ∧ St w wr [SI (.slice a (jgP ss k).length c) (jgP ss k)])
  case atStart => exact ⟨0, _, _, by omega, rfl, rfl, rfl, HS5.out⟩
  case round =>
    clear HS5
    obtain ⟨k, a, c, hk, rfl, rfl, rfl, st⟩ := hrel
    have hc0 := HC0.out _ st.below
    have hm0 := HM0.out
    by_cases hlt : k + 1 < M
    · have hl1 : (k : Int) + 1 < s0.size := by omega
      have hjn := (HJN.out k (by omega)).1
      have hjn2 := HJN.out (k + 1) hlt
      have HSM : Hid (jgN ss (k + 1) = jgN ss k + joinN ss.length (k + 1) 1 (jgP ss k) (colP ss (k + 1)) + (gr (colS ss (k + 1))).rmany) := rfl
      have hsm := HSM.out
      have HPE : Hid (jgP ss (k + 1) = joinL ss.length (k + 1) 1 (jgP ss k) (colP ss (k + 1))) := rfl
      obtain ⟨p1, p2⟩ := HJP.out k (by omega)
      obtain ⟨q1, q2⟩ := HCP.out (k + 1) hlt
      have hT := HTW.out k hlt
      rw [HN.out] at p1 q1 hT
      have HST := Lib.hid st
      have HCK := Lib.hid fun W hb => HCO.out (k + 1) hlt W hb
      have HSJ := Lib.hid fun (W : World) (b1 b2 : Option Addr) (d1 d2 : Nat) (h1 : CellsI W b1 (jgP ss k)) (h2 : CellsI W b2 (colP ss (k + 1))) => sJoined_any ss.length (k + 1) 1 b1 d1 (jgP ss k) b2 d2 (colP ss (k + 1)) W h1 h2 hn1 hn5 hT.m1 (by have := hT.mk5; omega) (Nat.le_refl _) (by omega) p1 q1 p2 q2
      have HCG2 := Lib.hid (HCG.out (k + 1) hlt)
      have HRM2 := Lib.hid (HRM.out (k + 1))
      clear st hjn2 hsm p1 p2 q1 q2 hT
      have e1 : ((k + 1 : Nat) : Int) = (k : Int) + 1 := by omega
      rw [e1] at HCK HSJ
      clear e1
      have hsm := HSM.out
      have hjc := (HJN.out (k + 1) hlt).1
      have HSUM : Hid ((jgN ss k : Int) + joinN ss.length (k + 1) 1 (jgP ss k) (colP ss (k + 1)) + (gr (colS ss (k + 1))).rmany = (jgN ss (k + 1) : Nat)) := by show _ = _; omega
      have hb1 : jgN ss k ≤ 2000 := by omega
      have hb2 : joinN ss.length (k + 1) 1 (jgP ss k) (colP ss (k + 1)) ≤ 2000 := by omega
      have hb3 : (gr (colS ss (k + 1))).rmany ≤ 2000 := by omega
      clear hsm hjc hjn
      generalize joinN ss.length (k + 1) 1 (jgP ss k) (colP ss (k + 1)) = J1 at *
      generalize (gr (colS ss (k + 1))).rmany = R1 at *
      generalize jgN ss k = N1 at *
      go_wp2_with fail
      refine (HCK.out _ HST.out.below).mono ?_
      rintro e w1 ⟨v1, rfl, sta⟩
      have st1 := HST.out.join sta
      obtain ⟨a1, c1, rfl⟩ := st1.shapeS 0 rfl
      clear sta HST
      go_wp2_with fail
      refine (l2Pairs_any a1 c1 (colS ss (k + 1)) w1 (st1.texts 0 rfl) HCG2.out).mono ?_
      rintro e w2 ⟨v2, rfl, sta⟩
      have st2 : St w w2 [SI v2 (colP ss (k + 1)), SS (.slice a1 (colS ss (k + 1)).length c1) (colS ss (k + 1)), SI (.slice a (jgP ss k).length c) (jgP ss k)] := st1.join sta
      obtain ⟨a2, c2, rfl⟩ := st2.shapeI 0 rfl
      clear st1 sta
      go_wp2_with fail
      refine (HSJ.out w2 _ _ _ _ (st2.cells 2 rfl) (st2.cells 0 rfl)).mono ?_
      rintro e w3 ⟨v3, rfl, sta⟩
      have st3 := st2.join sta
      clear st2 sta
      go_wp2_with fail
      refine (l3Rounds_any a1 c1 (colS ss (k + 1)) w3 (st3.texts 2 rfl) HCG2.out).mono ?_
      rintro e w4 ⟨v4, rfl, sta⟩
      have st4 := st3.join sta
      obtain ⟨a4, c4, rfl⟩ := st4.shapeI 0 rfl
      have st5 := st4.sub (b := [SI v3 (joinL ss.length (k + 1) 1 (jgP ss k) (colP ss (k + 1)))]) (by simp)
      rw [← HPE.out] at st5
      obtain ⟨a5, c5, rfl⟩ := st5.shapeI 0 rfl
      rw [HRM2.out]
      have HS5 := Lib.hid st5
      clear st3 sta st4 st5
      go_wp2_with fail
      go_roundg (gk - 1)
      case rel => exact ⟨k + 1, a5, c5, by omega, by go_num, by rw [← HSUM.out], rfl, HS5.out⟩
      case measure => omega
    · have hl1 : ¬ ((k : Int) + 1 < s0.size) := by omega
      have hkM : M - 1 = k := by omega
      have HKM := Lib.hid hkM
      have HST := Lib.hid st
      clear st hkM
      go_wp2
      go_ret2
      exact ⟨_, by rw [HKM.out]; rfl, by rw [HKM.out]; exact HST.out⟩
end Go.Proofs.Ytoodfgfbppkbmaa
