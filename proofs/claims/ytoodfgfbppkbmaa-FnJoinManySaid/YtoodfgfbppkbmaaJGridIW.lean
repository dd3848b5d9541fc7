/- Contract: a grid's columns joined, as the program does it (joined). -/
import Derived.Test.YtoodfgfbppkbmaaJGridL
import Derived.Test.YtoodfgfbppkbmaaJRoundsIW
import Derived.Test.YtoodfgfbppkbmaaCellW
namespace Go.Proofs.Ytoodfgfbppkbmaa
open Go.RowKit
set_option linter.unusedVariables false
set_option linter.unusedSimpArgs false

/-- What stands when so many columns are joined. -/
noncomputable def jgP0 (ss : List ByteArray) : Nat → List Int | 0 => [] | k + 1 => jgP ss k
noncomputable def jgN0 (ss : List ByteArray) : Nat → Nat | 0 => 0 | k + 1 => jgN ss k

theorem st_si_nil2 (w : World) : St w (w.alloc (.cells #[] 3)) [SI (.slice (some ⟨w.heap.size, 0, none⟩) 0 0) []] :=
  (St.init w).addSeg (s := SI (.slice (some ⟨w.heap.size, 0, none⟩) 0 0) []) (World.ownsRow_made w #[] 0 (Nat.le_refl _) (Nat.zero_le _) rfl) ((Below.refl _ _).alloc (Nat.le_refl _) (.cells #[] 3))

set_option maxRecDepth 100000 in
set_option maxHeartbeats 4000000 in
theorem joined_any (ao : Option Addr) (cap : Nat) (ss : List ByteArray) (w : World) (hx : CellsS w ao ss) (hcap : ss.length ≤ cap) (hg : gridB ss = true) :
    Calls Try.prog 40 #[.slice ao ss.length cap] w fun e w' => ∃ v, e = .returned (.tuple #[v, .int .i64 (jgN ss ((gr ss).m - 1) : Nat)]) ∧ St w w' [SI v (jgP ss ((gr ss).m - 1))] := by
  have hok := gr_ok hg
  have hn1 : 1 ≤ ss.length := hok.n1
  have hn5 : ss.length ≤ 5 := hok.n5
  have hm1 : 1 ≤ (gr ss).m := hok.m1
  have hm5 : (gr ss).m ≤ 5 := hok.m5
  have HX := Lib.hid hx
  have HCO := Lib.hid fun k (hk : k < (gr ss).m) W (b : Below w.heap.size w W) => gridPart_col ao cap ss k W (hx.below b (Nat.le_refl _)) hcap hg hk
  have HCG := Lib.hid fun k (hk : k < (gr ss).m) => (colS_ok hg hk).1
  have HCP := Lib.hid fun k (hk : k < (gr ss).m) => colP_ok hg hk
  have HJP := Lib.hid (jgP_ok hg)
  have HJN := Lib.hid (jgN_le hg)
  have HTW := Lib.hid fun k (hk : k + 1 < (gr ss).m) => jg_two hg hk
  have HN : Hid ((gr ss).n = ss.length) := rfl
  obtain ⟨b, off, rfl, hcs, hbb⟩ := hx.at (i := 0) (by omega)
  have hc0 := hcs 0 (by omega)
  rw [Nat.add_zero] at hc0
  have HM0 : Hid ((rowOf ss 0).size = (gr ss).m) := rfl
  clear hx hok hcs hg hcap
  generalize hMM : (gr ss).m = M at *
  have hs0 := HM0.out
  generalize rowOf ss 0 = s0 at *
  have HS0 := Lib.hid hs0
  clear hMM hs0
  go_enter Try.func40, Try.ntmps40
  go_wp2
  go_quiet (fail)
  have STD := ((St.init w).dr ⟨nq, rfl⟩)
  generalize w.drewN nq = Wq at STD ⊢
  have HST0 := Lib.hid (STD.join (st_si_nil2 Wq))
  clear STD hc0
  go_wp2_with fail
  rw [HS0.out]
  go_loopg [6, 7, 20] M (fun kk v6 v7 v20 wr => ∃ (k : Nat) (a : Option Addr) (c : Nat), kk + k = M ∧ v20 = .int .i64 k ∧ v7 = .int .i64 (jgN0 ss k : Nat) ∧ v6 = .slice a (jgP0 ss k).length c ∧ St w wr [SI (.slice a (jgP0 ss k).length c) (jgP0 ss k)])
  case atStart => exact ⟨0, _, _, by omega, rfl, rfl, rfl, HST0.out⟩
  case round =>
    clear HST0
    obtain ⟨k, a, c, hk, rfl, rfl, rfl, st⟩ := hrel
    by_cases hlt : k < M
    · have HST := Lib.hid st
      have HCK := Lib.hid fun W hb => HCO.out k hlt W hb
      have HCG2 := Lib.hid (HCG.out k hlt)
      have hRb := (HJN.out k hlt).2
      have HSM : Hid (∀ k, jgN ss (k + 1) = jgN ss k + joinN ss.length (k + 1) 1 (jgP ss k) (colP ss (k + 1)) + (gr (colS ss (k + 1))).rmany) := fun k => rfl
      have HSM0 : Hid (jgN ss 0 = (gr (colS ss 0)).rmany) := rfl
      clear st
      cases k with
      | zero =>
        have HSUM : Hid (((gr (colS ss 0)).rmany : Int) = (jgN0 ss 1 : Nat)) := rfl
        have HPE : Hid (jgP0 ss 1 = colP ss 0) := rfl
        have HRO := Lib.hid fun (W : World) (o : Option Addr) (q : Nat) (h : CellsS W o (colS ss 0)) => roundMany_any o q (colS ss 0) W h HCG2.out
        generalize (gr (colS ss 0)).rmany = R1 at *
        rw [show jgN0 ss 0 = 0 from rfl]
        go_wp2_with fail
        refine (HCK.out _ HST.out.below).mono ?_
        rintro e w1 ⟨v1, rfl, sta⟩
        have st1 := HST.out.join sta
        obtain ⟨a1, c1, rfl⟩ := st1.shapeS 0 rfl
        clear sta HST
        go_wp2_with fail
        refine (HRO.out w1 a1 c1 (st1.texts 0 rfl)).mono ?_
        rintro e w2 ⟨rfl, b2⟩
        have st2 := st1.step b2
        clear b2 st1
        go_wp2_with fail
        refine (pairsOf_any a1 c1 (colS ss 0) w2 (st2.texts 0 rfl) HCG2.out).mono ?_
        rintro e w3 ⟨v3, rfl, sta⟩
        have st3 := (st2.join sta).sub (b := [SI v3 (colP ss 0)]) (by simp [colP])
        rw [← HPE.out] at st3
        obtain ⟨a3, c3, rfl⟩ := st3.shapeI 0 rfl
        have HS3 := Lib.hid st3
        clear st2 sta st3
        go_wp2_with fail
        go_roundg (gk - 1)
        case rel => exact ⟨1, a3, c3, by omega, by go_num, by rw [← HSUM.out], rfl, HS3.out⟩
        case measure => omega
      | succ k =>
        have hjn := (HJN.out k (by omega)).1
        have hsm := HSM.out k
        have hjc := (HJN.out (k + 1) hlt).1
        have HSUM : Hid ((jgN0 ss (k + 1) : Int) + (gr (colS ss (k + 1))).rmany + joinN ss.length (k + 1) 1 (jgP ss k) (colP ss (k + 1)) = (jgN0 ss (k + 1 + 1) : Nat)) := by
          show ((jgN ss k : Nat) : Int) + _ + _ = ((jgN ss (k + 1) : Nat) : Int)
          omega
        have hb1 : jgN0 ss (k + 1) ≤ 2000 := by show jgN ss k ≤ 2000; omega
        have hb2 : joinN ss.length (k + 1) 1 (jgP ss k) (colP ss (k + 1)) ≤ 2000 := by omega
        have HPE : Hid (jgP0 ss (k + 1 + 1) = joinL ss.length (k + 1) 1 (jgP ss k) (colP ss (k + 1))) := rfl
        have HP0 : Hid (jgP0 ss (k + 1) = jgP ss k) := rfl
        obtain ⟨p1, p2⟩ := HJP.out k (by omega)
        obtain ⟨q1, q2⟩ := HCP.out (k + 1) hlt
        have hT := HTW.out k hlt
        rw [HN.out] at p1 q1 hT
        have e1 : ((k + 1 : Nat) : Int) = (k : Int) + 1 := by omega
        have HJR := Lib.hid fun (W : World) (b1 b2 : Option Addr) (d1 d2 : Nat) (h1 : CellsI W b1 (jgP ss k)) (h2 : CellsI W b2 (colP ss (k + 1))) => jrounds_any ss.length (k + 1) 1 b1 d1 (jgP ss k) b2 d2 (colP ss (k + 1)) W h1 h2 hT p1 q1 p2 q2
        have HJQ := Lib.hid fun (W : World) (b1 b2 : Option Addr) (d1 d2 : Nat) (h1 : CellsI W b1 (jgP ss k)) (h2 : CellsI W b2 (colP ss (k + 1))) => jpairs_any ss.length (k + 1) 1 b1 d1 (jgP ss k) b2 d2 (colP ss (k + 1)) W h1 h2 hT p1 q1 p2 q2
        have HRO := Lib.hid fun (W : World) (o : Option Addr) (q : Nat) (h : CellsS W o (colS ss (k + 1))) => roundMany_any o q (colS ss (k + 1)) W h HCG2.out
        rw [e1] at HCK HJR HJQ
        rw [HP0.out] at HST ⊢
        have e0 : ((k : Int) + 1 == 0) = false := beq_eq_false_iff_ne.2 (by omega)
        clear hjn hsm hjc e1 p1 p2 q1 q2 hT HSM HSM0
        generalize joinN ss.length (k + 1) 1 (jgP ss k) (colP ss (k + 1)) = J1 at *
        generalize (gr (colS ss (k + 1))).rmany = R1 at *
        generalize jgN0 ss (k + 1) = N1 at *
        go_wp2_with fail
        refine (HCK.out _ HST.out.below).mono ?_
        rintro e w1 ⟨v1, rfl, sta⟩
        have st1 := HST.out.join sta
        obtain ⟨a1, c1, rfl⟩ := st1.shapeS 0 rfl
        clear sta HST
        go_wp2_with fail
        refine (HRO.out w1 a1 c1 (st1.texts 0 rfl)).mono ?_
        rintro e w2 ⟨rfl, b2⟩
        have st2 := st1.step b2
        clear b2 st1
        go_wp2_with fail
        refine (pairsOf_any a1 c1 (colS ss (k + 1)) w2 (st2.texts 0 rfl) HCG2.out).mono ?_
        rintro e w3 ⟨v3, rfl, sta⟩
        have st3 : St w w3 [SI v3 (colP ss (k + 1)), SI (.slice a (jgP ss k).length c) (jgP ss k)] := (st2.join sta).sub (by simp [colP])
        obtain ⟨a3, c3, rfl⟩ := st3.shapeI 0 rfl
        have hbx := fun W (h : Below _ _ W) => jbox_cells w3 (.int .i64 ss.length) (.int .i64 ((k : Int) + 1)) (.int .i64 1) (.slice a (jgP ss k).length c) (.slice a3 (colP ss (k + 1)).length c3) (W := W) h
        have st4 := st3.step ((Below.refl _ _).alloc (Nat.le_refl _) (.cells #[.int .i64 ss.length, .int .i64 ((k : Int) + 1), .int .i64 1, .slice a (jgP ss k).length c, .slice a3 (colP ss (k + 1)).length c3] 65))
        have HBX := Lib.hid hbx
        clear st2 sta hbx st3
        obtain ⟨j0, j1, j2, j3, j4⟩ := HBX.out _ (Below.refl _ _)
        have HJR2 := Lib.hid (HJR.out _ _ _ c c3 (st4.cells 1 rfl) (st4.cells 0 rfl))
        have HS4 := Lib.hid st4
        clear st4 HJR
        go_wp2_with (first | (go_at_call 57; refine HJR2.out.mono ?_; rintro e w5 ⟨rfl, b5⟩; have st5 := HS4.out.step b5; have hb5 := HBX.out _ b5; clear j0 j1 j2 j3 j4; obtain ⟨j0, j1, j2, j3, j4⟩ := hb5; have HJQ2 := Lib.hid (HJQ.out w5 _ _ c c3 (st5.cells 1 rfl) (st5.cells 0 rfl)); have HS5 := Lib.hid st5; clear b5 st5 HS4 HJR2) | (go_at_call 56; refine HJQ2.out.mono ?_; rintro e w6 ⟨v6, rfl, sta⟩; have st6 := (HS5.out.join sta).sub (b := [SI v6 (joinL ss.length (k + 1) 1 (jgP ss k) (colP ss (k + 1)))]) (by simp); rw [← HPE.out] at st6; obtain ⟨a6, c6, hv6⟩ := st6.shapeI 0 rfl; subst hv6; have HS6 := Lib.hid st6; clear sta st6 HS5 HJQ2))
        go_roundg (gk - 1)
        case rel => exact ⟨k + 1 + 1, a6, c6, by omega, by go_num, by rw [← HSUM.out], rfl, HS6.out⟩
        case measure => omega
    · have hkM : k = M := by omega
      subst k
      have hM : M = (M - 1) + 1 := by omega
      have HPE : Hid (jgP0 ss M = jgP ss (M - 1)) := by show jgP0 ss M = _; rw [hM]; rfl
      have HNE : Hid (jgN0 ss M = jgN ss (M - 1)) := by show jgN0 ss M = _; rw [hM]; rfl
      have HST := Lib.hid st
      clear st hM
      go_wp2
      go_ret2
      exact ⟨_, by rw [← HNE.out]; rfl, by rw [← HPE.out]; exact HST.out⟩
end Go.Proofs.Ytoodfgfbppkbmaa
