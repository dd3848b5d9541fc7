/- Contract: two pairings beside each other, as the spec joins them (l6jJoined). -/
import Derived.Test.YtfpcfolcdpdomaaJoinL
import Derived.Test.YtfpcfolcdpdomaaJCloseSW
import Derived.Deep.LoopGhost
namespace Go.Proofs.Ytfpcfolcdpdomaa
open Go.RowKit
set_option linter.unusedVariables false
set_option linter.unusedSimpArgs false

theorem st_si_nil (w : World) : St w (w.alloc (.cells #[] 3)) [SI (.slice (some ⟨w.heap.size, 0, none⟩) 0 0) []] :=
  (St.init w).addSeg (s := SI (.slice (some ⟨w.heap.size, 0, none⟩) 0 0) []) (World.ownsRow_made w #[] 0 (Nat.le_refl _) (Nat.zero_le _) rfl) ((Below.refl _ _).alloc (Nat.le_refl _) (.cells #[] 3))
/-- 'append(s, xs...)' at the operation. -/
theorem wpAddI (w : World) {ops : Array Oper} {rest : List Oper} {o : Oper} {a : Act} {Q : Exit → Act → World → Prop}
    (hg : o.guard = none) (sl x : Operand) (ho : o.op = .call { callee := .builtin .append, args := #[sl, x], argTypes := #[22, 22] }) (base : Nat) (v : Value) (xs ys : List Int) (ao : Option Addr) (cap : Nat)
    (hs : a.eval sl = v) (hown : (SI v xs).own w base) (hx : a.eval x = .slice ao ys.length cap) (hc : CellsI w ao ys) (hpos : 0 < ys.length) (hl : xs.length + ys.length ≤ 4194304)
    (hK : ∀ v' w', Became w w' base (SI v xs) (SI v' (xs ++ ys)) → wpList Try.prog ops Q rest (a.put o.dst v') w') : wpList Try.prog ops Q (o :: rest) a w := by
  obtain ⟨b, off, rfl, hcc, _⟩ := hc.at hpos
  refine wpAppendSt elemI w hg sl x ho base (SI v xs) rfl rfl hs hown ⟨b, off, none⟩ ys.length cap (ys.map (Value.int .i64)) hx (by simp) (fun j u hu => ?_) (ints_one ys) (by simp only [SI]; unfold maxLen; omega) (by simp only [SI]; omega) ?_
  · rw [List.getElem?_map] at hu
    obtain ⟨y, hy, rfl⟩ := Option.map_eq_some_iff.1 hu
    obtain ⟨hj, rfl⟩ := List.getElem?_eq_some_iff.1 hy
    rw [Go.WideShapes.add_plain, hcc j hj, List.getD_eq_getElem?_getD, List.getElem?_eq_getElem hj]
    rfl
  · intro v' w' hb
    refine hK v' w' ?_
    have e := SI_append (v := v') (xs := xs) (ys := ys) rfl
    rw [← e]
    exact hb
theorem join_start (xs ys : List Int) (px : pairsB xs = true) : xs = fillN (fun x => (jnx xs ys x : Int)) xs.length := by
  apply List.ext_getElem
  · rw [fillN_length]
  · intro i h1 h2
    have h3 := (cnx_get px h1).1
    rw [List.getD_eq_getElem?_getD, List.getElem?_eq_getElem h1] at h3
    simp only [fillN, List.getElem_map, List.getElem_range]
    unfold jnx
    rw [if_pos h1]
    exact h3


set_option maxRecDepth 100000 in
set_option maxHeartbeats 16000000 in
theorem sJoined_any (n m k : Nat) (ao : Option Addr) (cap : Nat) (xs : List Int) (bo : Option Addr) (capb : Nat) (ys : List Int) (w : World) (hx : CellsI w ao xs) (hy : CellsI w bo ys)
    (hn1 : 1 ≤ n) (hn5 : n ≤ 5) (hm1 : 1 ≤ m) (hm5 : m ≤ 5) (hk1 : 1 ≤ k) (hk5 : k ≤ 5) (lx : xs.length = 2 * n + 2 * m) (ly : ys.length = 2 * n + 2 * k) (px : pairsB xs = true) (py : pairsB ys = true) :
    Calls Try.prog 30 #[.int .i64 n, .int .i64 m, .slice ao xs.length cap, .int .i64 k, .slice bo ys.length capb] w fun e w' => ∃ v, e = .returned (.tuple #[v, .int .i64 (joinN n m k xs ys : Nat)]) ∧ St w w' [SI v (joinL n m k xs ys)] := by
  unfold joinN joinL
  have hG := join_glue (n := n) lx ly px py
  have HX := Lib.hid hx
  have hstart := join_start xs ys px
  obtain ⟨bb, boff, rfl, hcb, hbb⟩ := hy.at (i := 0) (by omega)
  have HCB : Hid (∀ W, Below w.heap.size w W → ∀ x, x < ys.length → W.cell? ⟨bb, boff + x, none⟩ = some (.int .i64 (cnx ys x))) := fun W hW x hx => by
    rw [(hW.cell (p := ⟨bb, boff + x, none⟩) hbb), hcb x hx, (cnx_get py hx).1]
  have HCN : Hid (∀ x, x < ys.length → cnx ys x < ys.length) := fun x hx => (cnx_get py hx).2.1
  have HJ : Hid (∀ x, x < ys.length → (cnx ys x : Int) + (xs.length : Int) = (jnx xs ys (xs.length + x) : Int)) := fun x hx => by
    unfold jnx
    rw [if_neg (by omega), show xs.length + x - xs.length = x by omega]
    omega
  have HLP := Lib.hid (show (2 : Int) * ((n : Int) + m) = (xs.length : Int) by omega)
  have HLQ := Lib.hid (show (2 : Int) * ((n : Int) + k) = (ys.length : Int) by omega)
  have HNI := Lib.hid fun i z => nmI_in (n := n) (m := m) (k := k) (x := i) (z := z)
  have HNO := Lib.hid fun i => nmI_out (n := n) (m := m) (k := k) (x := i)
  have HJZ := Lib.hid fun T => joutTo_zero n m k (jnx xs ys) T
  have HJS := Lib.hid fun i z => joutTo_skip (n := n) (m := m) (k := k) (i := i) (z := z) (nx := jnx xs ys)
  have HJP := Lib.hid fun i p => joutTo_step (n := n) (m := m) (k := k) (i := i) (p := p) (nx := jnx xs ys)
  have HJA := Lib.hid (joutTo_all (n := n) (m := m) (k := k) (nx := jnx xs ys))
  have hG2 := hG
  rw [show xs.length + ys.length = 4 * n + 2 * m + 2 * k by omega] at hG2
  have HJE := Lib.hid fun p K y => joutF_end (p := p) (K := K) (y := y) hG2
  have HN3 := Lib.hid (nm3_all n m k)
  have HN2 := Lib.hid fun i a => nm2_step (i := i) (a := a) (xs.length + ys.length) lx.symm
  have HNA := Lib.hid fun i a => nm3_step (n := n) (m := m) (k := k) (i := i) (a := a) (xs.length + ys.length)
  generalize hNN : 4 * n + 2 * m + 2 * k = N at *
  obtain rfl : N = xs.length + ys.length := by omega
  generalize hT : 2 * n + 2 * m + 2 * k = T at *
  have hT1 : 2 * n + 2 * m + 2 * k ≤ T := by omega
  have hT2 : T ≤ 2 * n + 2 * m + 2 * k := by omega
  generalize jnx xs ys = nx at *
  have hxs := hstart
  clear hG2 hT hNN hcb hy
  generalize hP : xs.length = P at *
  generalize hQ : ys.length = Q at *
  have hP1 : P ≤ 2 * n + 2 * m := by omega
  have hP2 : 2 * n + 2 * m ≤ P := by omega
  have hQ1 : Q ≤ 2 * n + 2 * k := by omega
  have hQ2 : 2 * n + 2 * k ≤ Q := by omega
  have HMT : Hid (∀ x, mtTo m (P + Q) n x = mtI (mtR n m (P + Q)) x) := fun x => mtTo_all n m (P + Q) x
  have HG := Lib.hid hG
  have HNX : Hid (∀ x, x < P + Q → nx x < P + Q) := hG.nx_lt
  have HXS := Lib.hid hxs
  have HPX := Lib.hid hP
  have hmn : m + 2 * n ≤ P + Q := by omega
  generalize hcn : cnx ys = cb at *
  clear hG hxs hstart lx ly hP hQ hx px py hcn
  have STA := Lib.hid (st_si_nil w)
  go_enter Try.func30, Try.ntmps30
  go_wp2_with (first | (go_at_call 47; refine (l2Ports_any _ _ _ (by omega) (by omega) (by omega) (by omega)).mono ?_; rintro e w' ⟨rfl, rfl⟩; first | rw [HLP.out] | rw [HLQ.out]) | (at_builtin; refine wpAddI _ rfl _ _ rfl w.heap.size _ [] xs ao cap rfl (STA.out.own _ List.mem_cons_self) (by rw [HPX.out]; rfl) (STA.out.old HX.out) (by rw [HPX.out]; omega) (by rw [HPX.out]; simp; omega) ?_; intro v' w4 hbec; have s4 := STA.out.became0 hbec; rw [List.nil_append, HXS.out] at s4; have HS4 := Lib.hid s4; clear s4 hbec))
  clear HXS HPX STA HX HLP HLQ
  obtain ⟨g0, c0, hv0⟩ : ∃ g c, v' = .slice (some ⟨g, 0, none⟩) P c := by
    obtain ⟨g, c, he⟩ := SI_blk (HS4.out.own _ List.mem_cons_self) (by rw [fillN_length]; omega)
    rw [fillN_length] at he
    exact ⟨g, c, he⟩
  subst hv0
  go_loopw [14, 15] (fun v14 v15 wr => ∃ (i : Nat) (a : Option Addr) (c : Nat), i ≤ Q ∧ v15 = .int .i64 i ∧ v14 = .slice a (P + i) c ∧ St w wr [SI (.slice a (P + i) c) (fillN (fun x => (nx x : Int)) (P + i))]) (fun _ v15 _ => Q - (intOf v15).toNat)
  case atStart => exact ⟨0, _, _, Nat.zero_le _, rfl, rfl, HS4.out⟩
  case round =>
    clear HS4
    obtain ⟨i, a, c, hi, rfl, rfl, st⟩ := hrel
    by_cases hlt : i < Q
    · have hcell := HCB.out _ st.below i hlt
      have hcbq := HCN.out i hlt
      have HV := Lib.hid (HJ.out i hlt)
      have HS := Lib.hid (st.step ((Below.refl _ _).alloc (Nat.le_refl _) (.cells #[.int .i64 ((cb i : Int) + P)] 3)))
      clear st
      go_wp2_with (at_builtin; refine wpPushI _ rfl _ _ rfl w.heap.size _ _ ((cb i : Int) + P) _ rfl (HS.out.own _ List.mem_cons_self) rfl (cell_one_new _ _ _) (by rw [fillN_length]; omega) ?_; intro v' w4 hbec; have s5 := HS.out.became0 hbec; rw [HV.out, fillN_snoc _ _ _ rfl] at s5; clear hbec)
      obtain ⟨a5, c5, hv⟩ := s5.shapeI0
      rw [fillN_length] at hv
      subst hv
      have HS5 := Lib.hid s5
      clear s5
      go_wp2
      go_roundw
      case rel => exact ⟨i + 1, a5, c5, by omega, by go_num, rfl, HS5.out⟩
      case measure => simp [intOf]; omega
    · have hiQ : i = Q := by omega
      subst i
      obtain ⟨g, c', he⟩ := SI_blk (st.own _ List.mem_cons_self) (by rw [fillN_length]; omega)
      rw [fillN_length] at he
      cases he
      have hst := ((st.join (st_si_nil wr))).join (st_si_nil _)
      rw [World.size_alloc] at hst
      have HST := Lib.hid hst
      clear hst
      clear st HJ HCB HCN
      go_wp2_with fail
      go_loopw [16, 17, 18] (fun v16 v17 v18 wr => ∃ (i : Nat) (a1 : Option Addr) (c1 : Nat) (a2 : Option Addr) (c2 : Nat), i ≤ P + Q ∧ v18 = .int .i64 i ∧ v16 = .slice a1 i c1 ∧ v17 = .slice a2 i c2 ∧ St w wr [SI (.slice a2 i c2) (fillN (fun _ => -1) i), SI (.slice a1 i c1) (fillN (fun _ => -1) i), SI (.slice (some ⟨g, 0, none⟩) (P + Q) c) (fillN (fun x => (nx x : Int)) (P + Q))]) (fun _ _ v18 _ => P + Q - (intOf v18).toNat)
      case atStart => exact ⟨0, _, _, _, _, Nat.zero_le _, rfl, rfl, rfl, HST.out⟩
      case round =>
        clear HST
        obtain ⟨i, a1, c1, a2, c2, hi, rfl, rfl, rfl, st⟩ := hrel
        by_cases hlt : i < P + Q
        · have HS := Lib.hid (st.step ((Below.refl _ _).alloc (Nat.le_refl _) (.cells #[.int .i64 (-1)] 3)))
          clear st
          go_wp2_with (first | (at_builtin; refine wpPushI _ rfl _ _ rfl w.heap.size _ (fillN (fun _ => -1) i) (-1 : Int) _ rfl (HS.out.own (SI (.slice a1 i c1) (fillN (fun _ => -1) i)) (by simp)) rfl (cell_one_new _ _ _) (by rw [fillN_length]; omega) ?_; intro v' w4 hbec; have s5 := HS.out.became1 hbec; rw [fillN_snoc (fun _ => -1) _ _ rfl] at s5; have s6 := s5.step ((Below.refl _ _).alloc (Nat.le_refl _) (.cells #[.int .i64 (-1)] 3)); clear hbec HS; obtain ⟨a5, c5, hv⟩ := s5.shapeI 1 rfl; rw [fillN_length] at hv; subst hv; have HS6 := Lib.hid s6; clear s5 s6) | (at_builtin; refine wpPushI _ rfl _ _ rfl w.heap.size _ (fillN (fun _ => -1) i) (-1 : Int) _ rfl (HS6.out.own (SI (.slice a2 i c2) (fillN (fun _ => -1) i)) (by simp)) rfl (cell_one_new _ _ _) (by rw [fillN_length]; omega) ?_; intro v' w7 hbec; have s8 := HS6.out.became0 hbec; rw [fillN_snoc (fun _ => -1) _ _ rfl] at s8; obtain ⟨a8, c8, hv⟩ := s8.shapeI 0 rfl; rw [fillN_length] at hv; subst hv; have HS8 := Lib.hid s8; clear s8 HS6 hbec))
          go_roundw
          case rel => exact ⟨i + 1, a5, c5, a8, c8, by omega, by go_num, rfl, rfl, HS8.out⟩
          case measure => simp [intOf]; omega
        · obtain rfl : i = P + Q := by omega
          obtain ⟨g1, c1', he⟩ := SI_blk (st.own (SI (.slice a1 (P + Q) c1) (fillN (fun _ => -1) (P + Q))) (by simp)) (by rw [fillN_length]; omega)
          rw [fillN_length] at he
          cases he
          obtain ⟨g2, c2', he⟩ := SI_blk (st.own (SI (.slice a2 (P + Q) c2) (fillN (fun _ => -1) (P + Q))) (by simp)) (by rw [fillN_length]; omega)
          rw [fillN_length] at he
          cases he
          have HST := Lib.hid st
          clear st
          go_wp2_with fail
          go_loopw [19] (fun v19 wr => ∃ j : Nat, j ≤ n ∧ v19 = .int .i64 j ∧ St w wr [SI (.slice (some ⟨g2, 0, none⟩) (P + Q) c2) (fillN (fun _ => -1) (P + Q)), SI (.slice (some ⟨g1, 0, none⟩) (P + Q) c1) (fillN (mtTo m (P + Q) j) (P + Q)), SI (.slice (some ⟨g, 0, none⟩) (P + Q) c) (fillN (fun x => (nx x : Int)) (P + Q))]) (fun v19 _ => n - (intOf v19).toNat)
          case atStart => exact ⟨0, Nat.zero_le _, rfl, by rw [mtTo_zero]; exact HST.out⟩
          case round =>
            clear HST
            obtain ⟨j, hj, rfl, st⟩ := hrel
            by_cases hlt2 : j < n
            · obtain ⟨⟨u1, h1⟩, f1, s1⟩ := st.put1 (m + j) (by rw [fillN_length]; omega)
              have s1 := s1 ((P + Q - 1 - j : Nat) : Int)
              obtain ⟨⟨u2, h2⟩, f2, s2⟩ := s1.put1 (P + Q - 1 - j) (by rw [List.length_set, fillN_length]; omega)
              have s2 := s2 ((m + j : Nat) : Int)
              rw [mtTo_step hmn hlt2] at s2
              have e1 : ((P + Q - 1 - j : Nat) : Int) = (P : Int) + Q - 1 - j := by omega
              have e2 : ((m + j : Nat) : Int) = (m : Int) + j := by omega
              rw [e1] at h2 f2 s2
              rw [e2] at s2
              have HS2 := Lib.hid s2
              clear s1 s2 st e1 e2
              go_wp2
              go_roundw
              case rel => exact ⟨j + 1, by omega, by go_num, HS2.out⟩
              case measure => simp [intOf]; omega
            · obtain rfl : j = n := by omega
              rw [fillN_congr (g := mtI (mtR j m (P + Q))) fun x _ => HMT.out x] at st
              rw [nm1_zero] at st
              have HST := Lib.hid st
              clear st HMT
              go_wp2_with fail
              go_loopw [22, 23] (fun v22 v23 wr => ∃ i : Nat, i ≤ m ∧ v23 = .int .i64 i ∧ v22 = .int .i64 i ∧ St w wr [SI (.slice (some ⟨g2, 0, none⟩) (P + Q) c2) (fillN (nm1 i) (P + Q)), SI (.slice (some ⟨g1, 0, none⟩) (P + Q) c1) (fillN (mtI (mtR j m (P + Q))) (P + Q)), SI (.slice (some ⟨g, 0, none⟩) (P + Q) c) (fillN (fun x => (nx x : Int)) (P + Q))]) (fun _ v23 _ => m - (intOf v23).toNat)
              case atStart => exact ⟨0, Nat.zero_le _, rfl, rfl, HST.out⟩
              case round =>
                clear HST
                obtain ⟨i, hi, rfl, rfl, st⟩ := hrel
                by_cases hlt3 : i < m
                · obtain ⟨⟨u1, h1⟩, f1, s1⟩ := st.put0 i (by rw [fillN_length]; omega)
                  have s1 := s1 (i : Int)
                  rw [nm1_step] at s1
                  have HS1 := Lib.hid s1
                  clear s1 st
                  go_wp2
                  go_roundw
                  case rel => exact ⟨i + 1, by omega, by go_num, by go_num, HS1.out⟩
                  case measure => simp [intOf]; omega
                · have him : i = m := by omega
                  subst i
                  rw [nm2_zero j] at st
                  have HST := Lib.hid st
                  clear st
                  go_wp2_with fail
                  go_loopw [22, 24] (fun v22 v24 wr => ∃ i a : Nat, i ≤ 2 * k + j ∧ a ≤ m + i ∧ m + i ≤ a ∧ v24 = .int .i64 i ∧ v22 = .int .i64 a ∧ St w wr [SI (.slice (some ⟨g2, 0, none⟩) (P + Q) c2) (fillN (nm2 j m i) (P + Q)), SI (.slice (some ⟨g1, 0, none⟩) (P + Q) c1) (fillN (mtI (mtR j m (P + Q))) (P + Q)), SI (.slice (some ⟨g, 0, none⟩) (P + Q) c) (fillN (fun x => (nx x : Int)) (P + Q))]) (fun _ v24 _ => 2 * k + j - (intOf v24).toNat)
                  case atStart => exact ⟨0, m, Nat.zero_le _, Nat.le_refl _, Nat.le_refl _, rfl, rfl, HST.out⟩
                  case round =>
                    clear HST
                    obtain ⟨i, a, hi, ha1, ha2, rfl, rfl, st⟩ := hrel
                    by_cases hlt4 : i < 2 * k + j
                    · obtain ⟨⟨u1, h1⟩, f1, s1⟩ := st.put0 (P + i) (by rw [fillN_length]; omega)
                      have s1 := s1 (a : Int)
                      rw [HN2.out i a (by omega)] at s1
                      have HS1 := Lib.hid s1
                      clear s1 st
                      go_wp2
                      go_roundw
                      case rel => exact ⟨i + 1, a + 1, by omega, by omega, by omega, by go_num, by go_num, HS1.out⟩
                      case measure => simp [intOf]; omega
                    · have hik : i = 2 * k + j := by omega
                      subst i
                      rw [nm3_zero j m k] at st
                      have HST := Lib.hid st
                      clear st HN2
                      go_wp2_with fail
                      go_loopw [22, 25] (fun v22 v25 wr => ∃ i a : Nat, m + j ≤ i ∧ i ≤ P ∧ a ≤ i + 2 * k ∧ i + 2 * k ≤ a ∧ v25 = .int .i64 i ∧ v22 = .int .i64 a ∧ St w wr [SI (.slice (some ⟨g2, 0, none⟩) (P + Q) c2) (fillN (nm3 j m k i) (P + Q)), SI (.slice (some ⟨g1, 0, none⟩) (P + Q) c1) (fillN (mtI (mtR j m (P + Q))) (P + Q)), SI (.slice (some ⟨g, 0, none⟩) (P + Q) c) (fillN (fun x => (nx x : Int)) (P + Q))]) (fun _ v25 _ => P - (intOf v25).toNat)
                      case atStart => exact ⟨m + j, a, Nat.le_refl _, by omega, by omega, by omega, by go_num, rfl, HST.out⟩
                      case round =>
                        clear HST ha1 ha2
                        rename_i a0
                        obtain ⟨i, a, hi0, hi, ha1, ha2, rfl, rfl, st⟩ := hrel
                        by_cases hlt5 : i < P
                        · obtain ⟨⟨u1, h1⟩, f1, s1⟩ := st.put0 i (by rw [fillN_length]; omega)
                          have s1 := s1 (a : Int)
                          rw [HNA.out i a hi0 (by omega) (by omega)] at s1
                          have HS1 := Lib.hid s1
                          clear s1 st
                          go_wp2
                          go_roundw
                          case rel => exact ⟨i + 1, a + 1, by omega, by omega, by omega, by omega, by go_num, by go_num, HS1.out⟩
                          case measure => simp [intOf]; omega
                        · have hip : i = 2 * j + 2 * m := by omega
                          rw [hip, HN3.out] at st
                          have haT : a = T := by omega
                          subst haT
                          clear hip HN3 HNA
                          generalize hmt0 : mtR j m (P + Q) = mt at *
                          generalize nmI j m k = nmF at *
                          generalize joutTo j m k nx = jt at *
                          generalize hjf0 : joutF j m k nx = jf at *
                          have HMT0 := Lib.hid hmt0
                          have HJF0 := Lib.hid hjf0
                          clear hmt0 hjf0
                          have HST := Lib.hid st
                          clear st
                          go_wp2_with (first | (at_make; refine wpMakeI _ rfl _ _ rfl wr.heap.size a _ _ _ _ rfl rfl rfl rfl (by omega) (Nat.le_refl _) ?_; intro w5 hown hgrow; have s5 := HST.out.addSeg (s := SI _ _) hown (Below.of_grown hgrow (Nat.le_refl _) (by simp)); have HS5 := Lib.hid s5; clear hown hgrow s5 HST) | (at_make; refine wpMakeB _ rfl _ _ rfl w5.heap.size (P + Q) _ _ _ _ rfl rfl (by omega) (by omega) (by omega) (Nat.le_refl _) ?_; intro w6 hown hgrow; have s6 := HS5.out.addSeg hown (Below.of_grown hgrow (Nat.le_refl _) (by simp)); have HS6 := Lib.hid s6; clear hown hgrow s6 HS5))
                          generalize wr.heap.size = O at HS6 ⊢
                          generalize w5.heap.size = G at HS6 ⊢
                          rw [HJZ.out a] at HS6
                          clear HJZ
                          go_loopg [28] (P + Q) (fun kk v28 wr => ∃ (q : Nat) (M : Nat → Bool), kk + q = P + Q ∧ v28 = .int .i64 q ∧ St w wr [MB (.slice (some ⟨G, 0, none⟩) (P + Q) (P + Q)) (P + Q) M, SI (.slice (some ⟨O, 0, none⟩) a a) (fillN (jt q) a), SI (.slice (some ⟨g2, 0, none⟩) (P + Q) c2) (fillN nmF (P + Q)), SI (.slice (some ⟨g1, 0, none⟩) (P + Q) c1) (fillN (mtI mt) (P + Q)), SI (.slice (some ⟨g, 0, none⟩) (P + Q) c) (fillN (fun x => (nx x : Int)) (P + Q))] ∧ Hid (GlueB (P + Q) nx mt q M))
                          case atStart => exact ⟨0, _, by omega, rfl, HS6.out, Lib.hid GlueB.zero⟩
                          case round =>
                            clear HS6
                            obtain ⟨q, M, hq, rfl, st, hM⟩ := hrel
                            generalize gk = ko at *
                            by_cases hlt6 : q < P + Q
                            · have hname := st.fillAt 2 rfl hlt6
                              cases hmt : mt q with
                              | some z =>
                                rw [HNI.out q z hmt] at hname
                                rw [HJS.out q z hmt] at st
                                have HST := Lib.hid st
                                have HM2 := Lib.hid (GlueB.skip hM.out hmt)
                                clear st hM hmt
                                go_wp2
                                go_roundg (ko - 1)
                                case rel => exact ⟨q + 1, M, by omega, by go_num, HST.out, HM2⟩
                                case measure => omega
                              | none =>
                                obtain ⟨p, hp1, hp2, hp3⟩ := HNO.out q hmt hlt6
                                rw [hp1] at hname
                                obtain ⟨K, yK, hK, hKe, hKn⟩ := HG.out.outer_ends hlt6 hmt
                                have hcx := st.fillAt 4 rfl hlt6
                                have hnq := HNX.out q hlt6
                                have HST := Lib.hid st
                                have HMT := Lib.hid hmt
                                have HP1 := Lib.hid hp1
                                have HP3 := Lib.hid hp3
                                have HKE := Lib.hid hKe
                                have HKN := Lib.hid hKn
                                clear st hmt hKe hKn hp1 hp3
                                go_wp2_with fail
                                clear hcx hname
                                go_loopg [29] K (fun kk v29 wq => ∃ (t y : Nat) (M : Nat → Bool), kk + t = K ∧ v29 = .int .i64 (nx y) ∧ y < P + Q ∧ Hid (iter (gs nx mt) t q = some y) ∧ St w wq [MB (.slice (some ⟨G, 0, none⟩) (P + Q) (P + Q)) (P + Q) M, SI (.slice (some ⟨O, 0, none⟩) a a) (fillN (jt q) a), SI (.slice (some ⟨g2, 0, none⟩) (P + Q) c2) (fillN nmF (P + Q)), SI (.slice (some ⟨g1, 0, none⟩) (P + Q) c1) (fillN (mtI mt) (P + Q)), SI (.slice (some ⟨g, 0, none⟩) (P + Q) c) (fillN (fun x => (nx x : Int)) (P + Q))] ∧ Hid (GlueBi (P + Q) nx mt q t M))
                                case atStart => exact ⟨0, q, M, by omega, rfl, hlt6, Lib.hid rfl, HST.out, Lib.hid (GlueBi.start hM.out)⟩
                                case round =>
                                  clear HST hM hnq
                                  obtain ⟨t, y, M, hkt, rfl, hyi, hit, st, hM⟩ := hrel
                                  have hny := HNX.out y hyi
                                  have hmate := st.fillAt 3 rfl hny
                                  cases hz : mt (nx y) with
                                  | none =>
                                    rw [mtI_none hz] at hmate
                                    have hn1' := st.fillAt 2 rfl hlt6
                                    rw [HP1.out] at hn1'
                                    have hn2' := st.fillAt 2 rfl hny
                                    have htK : t = K := by
                                      have h1 := HG.out.rv.steps
                                      rcases Nat.lt_trichotomy t K with h | h | h
                                      · exfalso
                                        obtain ⟨v, hv⟩ := iter_lt HKE.out (t + 1) (by omega)
                                        obtain ⟨v', hv', hv2⟩ := iter_pred hv
                                        rw [hit.out] at hv'
                                        cases hv'
                                        have : mt (nx y) = some v := hv2
                                        rw [hz] at this
                                        cases this
                                      · exact h
                                      · exfalso; omega
                                    have hjf := HJE.out p t y hp2 (by omega) (by rw [HP3.out]; exact hit.out) hz
                                    obtain ⟨⟨u3, h3⟩, f3, s3⟩ := St.putAt [_] [_, _, _] st p (by rw [fillN_length]; exact hp2)
                                    have s3 := s3 (nmF (nx y))
                                    have hjp := HJP.out q p hp2 HP3.out
                                    rw [hjf] at hjp
                                    rw [hjp] at s3
                                    have HD := Lib.hid (GlueBi.done HG.out hM.out hit.out hz)
                                    have HS3 := Lib.hid s3
                                    clear st hM hit hz s3 hjp hjf
                                    generalize nmF (nx y) = vy at *
                                    clear HJS HJP HJE HNO HNI HJA HMT0 HNX HG HMT HP1 HP3 HKE HKN
                                    go_wp2_with fail
                                    go_region
                                    all_goals
                                      go_wp2
                                      go_roundg (ko - 1)
                                      case rel => exact ⟨q + 1, M, by omega, by go_num, HS3.out.dr ⟨1, rfl⟩, HD⟩
                                      case measure => omega
                                  | some z =>
                                    rw [mtI_some hz] at hmate
                                    have hzi := (HG.out.mt_lt _ _ hz).2
                                    have hnz := HNX.out z hzi
                                    have HN2 := Lib.hid (GlueBi.next HG.out hM.out hlt6 HMT.out hit.out hz)
                                    have hitz : iter (gs nx mt) (t + 1) q = some z := by
                                      show (iter (gs nx mt) t q).bind (gs nx mt) = _
                                      rw [hit.out]; exact hz
                                    have hK1 : 1 ≤ gk := by
                                      apply Nat.pos_of_ne_zero
                                      intro h0
                                      have e : t = K := by omega
                                      have h1 := hit.out
                                      rw [e, HKE.out] at h1
                                      have h3 := Option.some.inj h1
                                      have h2 : mt (nx yK) = none := HKN.out
                                      rw [h3, hz] at h2
                                      cases h2
                                    have HITZ := Lib.hid hitz
                                    obtain ⟨k3, k4, s6⟩ := St.mark [] [_, _, _, _] st (nx y) hny
                                    obtain ⟨k5, k6, s7⟩ := St.mark [] [_, _, _, _] s6 z hzi
                                    have hmate2 := s6.fillAt 3 rfl hny
                                    rw [mtI_some hz] at hmate2
                                    have hmate3 := s7.fillAt 3 rfl hny
                                    rw [mtI_some hz] at hmate3
                                    have hcz := s7.fillAt 4 rfl hzi
                                    have HS7 := Lib.hid s7
                                    clear st s6 s7 hM hit hz hitz
                                    generalize nx y = ny at *
                                    go_wp2
                                    go_roundg (gk - 1)
                                    case rel => exact ⟨t + 1, z, _, by omega, rfl, hzi, HITZ, HS7.out, HN2⟩
                                    case measure => omega
                            · have hqN : q = P + Q := by omega
                              subst q
                              have HR0 := Lib.hid (GlueR.zero HG.out hM.out)
                              rw [HJA.out] at st
                              have HST := Lib.hid st
                              clear st hM HJA HJS HJP HJE HNO HNI
                              go_wp2_with fail
                              go_loopg [30, 31] (P + Q) (fun kk v30 v31 wr => ∃ (e cnt : Nat) (M : Nat → Bool), kk + e = P + Q ∧ v31 = .int .i64 e ∧ v30 = .int .i64 cnt ∧ cnt ≤ e ∧ St w wr [MB (.slice (some ⟨G, 0, none⟩) (P + Q) (P + Q)) (P + Q) M, SI (.slice (some ⟨O, 0, none⟩) a a) (fillN jf a), SI (.slice (some ⟨g2, 0, none⟩) (P + Q) c2) (fillN nmF (P + Q)), SI (.slice (some ⟨g1, 0, none⟩) (P + Q) c1) (fillN (mtI mt) (P + Q)), SI (.slice (some ⟨g, 0, none⟩) (P + Q) c) (fillN (fun x => (nx x : Int)) (P + Q))] ∧ Hid (GlueR (P + Q) nx mt e M) ∧ Hid (Trs (gs nx mt) nx id e cnt))
                              case atStart => exact ⟨0, 0, M, by omega, rfl, rfl, Nat.zero_le _, HST.out, HR0, Lib.hid Trs.zero⟩
                              case round =>
                                clear HST HR0
                                obtain ⟨e, cnt, M, he, rfl, rfl, hce, st, hM, hT⟩ := hrel
                                generalize gk = ko at *
                                by_cases hlt7 : e < P + Q
                                · have hmate := st.fillAt 3 rfl hlt7
                                  have hmk := MB_cell (st.own _ List.mem_cons_self) hlt7
                                  have HST := Lib.hid st
                                  by_cases hsk : mt e = none ∨ M e = true
                                  · have HM2 := Lib.hid (GlueR.old HG.out hM.out hlt7 hsk)
                                    have HT2 := Lib.hid (Trs.old HG.out.rv hT.out (fun x hx => by show x < P + Q; omega) (GlueR.seen HG.out hM.out hsk))
                                    rcases hsk with hsk | hsk
                                    · rw [mtI_none hsk] at hmate
                                      clear st hM hT hsk
                                      go_wp2
                                      go_roundg (ko - 1)
                                      case rel => exact ⟨e + 1, cnt, M, by omega, by go_num, rfl, by omega, HST.out, HM2, HT2⟩
                                      case measure => omega
                                    · rw [hsk] at hmk
                                      have hmi : -1 ≤ mtI mt e ∧ mtI mt e ≤ 1000 := by
                                        cases hz : mt e with
                                        | none => rw [mtI_none hz]; omega
                                        | some z => rw [mtI_some hz]; have := (HG.out.mt_lt _ _ hz).2; omega
                                      generalize mtI mt e = me at *
                                      clear st hM hT hsk
                                      by_cases hneg : me < 0
                                      · go_wp2
                                        go_roundg (ko - 1)
                                        case rel => exact ⟨e + 1, cnt, M, by omega, by go_num, rfl, by omega, HST.out, HM2, HT2⟩
                                        case measure => omega
                                      · go_wp2
                                        go_roundg (ko - 1)
                                        case rel => exact ⟨e + 1, cnt, M, by omega, by go_num, rfl, by omega, HST.out, HM2, HT2⟩
                                        case measure => omega
                                  · have hs1 : M e = false := by
                                      cases hh : M e
                                      · rfl
                                      · exact absurd (.inr hh) hsk
                                    obtain ⟨z0, hz0⟩ : ∃ z, mt e = some z := by
                                      cases hh : mt e with
                                      | none => exact absurd (.inl hh) hsk
                                      | some z => exact ⟨z, rfl⟩
                                    obtain ⟨hcy, hns⟩ := GlueR.new HG.out hM.out hz0 hs1
                                    have HT2 := Lib.hid (Trs.new HG.out.rv hT.out (fun x hx => by show x < P + Q; omega) hcy hns)
                                    have hple : perS (gs nx mt) e ≤ P + Q := HG.out.rv.per_le hlt7 hcy
                                    have HPS := Lib.hid (perS_spec hcy)
                                    have HCY := Lib.hid hcy
                                    have HNS := Lib.hid hns
                                    rw [mtI_some hz0] at hmate
                                    rw [hs1] at hmk
                                    clear st hsk hs1 hcy hns hz0 hT
                                    go_wp2_with fail
                                    clear hmate hmk
                                    go_loopg [32] (perS (gs nx mt) e) (fun kk v32 wq => ∃ (t y : Nat) (M : Nat → Bool), kk + t = perS (gs nx mt) e ∧ v32 = .int .i64 y ∧ y < P + Q ∧ Hid (iter (gs nx mt) t e = some y) ∧ St w wq [MB (.slice (some ⟨G, 0, none⟩) (P + Q) (P + Q)) (P + Q) M, SI (.slice (some ⟨O, 0, none⟩) a a) (fillN jf a), SI (.slice (some ⟨g2, 0, none⟩) (P + Q) c2) (fillN nmF (P + Q)), SI (.slice (some ⟨g1, 0, none⟩) (P + Q) c1) (fillN (mtI mt) (P + Q)), SI (.slice (some ⟨g, 0, none⟩) (P + Q) c) (fillN (fun x => (nx x : Int)) (P + Q))] ∧ Hid (GlueRi (P + Q) nx mt e t M))
                                    case atStart => exact ⟨0, e, M, by omega, rfl, hlt7, Lib.hid rfl, HST.out, Lib.hid (GlueRi.start hM.out)⟩
                                    case round =>
                                      clear HST hM
                                      obtain ⟨t, y, M, hkt, rfl, hyq, hit, st, hM⟩ := hrel
                                      have htest := GlueRi.test HG.out hM.out hlt7 HCY.out HNS.out (by omega) hit.out
                                      have hmk := MB_cell (st.own _ List.mem_cons_self) hyq
                                      by_cases hlt8 : t < perS (gs nx mt) e
                                      · rw [htest.1 hlt8] at hmk
                                        obtain ⟨z, hz⟩ := perS_def HCY.out (t := t + 1) (by omega)
                                        have hz2 : mt (nx y) = some z := by
                                          have h1 : (iter (gs nx mt) t e).bind (gs nx mt) = some z := hz
                                          rw [hit.out] at h1
                                          exact h1
                                        have hzq := (HG.out.mt_lt _ _ hz2).2
                                        have hny := HNX.out y hyq
                                        have HN2 := Lib.hid (GlueRi.next HG.out hM.out hlt7 hit.out)
                                        have HITZ := Lib.hid hz
                                        obtain ⟨k3, k4, s6⟩ := St.mark [] [_, _, _, _] st y hyq
                                        have hcy6 := s6.fillAt 4 rfl hyq
                                        obtain ⟨k5, k6, s7⟩ := St.mark [] [_, _, _, _] s6 (nx y) hny
                                        have hcy7 := s7.fillAt 4 rfl hyq
                                        have hmate7 := s7.fillAt 3 rfl hny
                                        rw [mtI_some hz2] at hmate7
                                        have HS7 := Lib.hid s7
                                        clear st s6 s7 hM hit hz hz2 htest
                                        generalize nx y = ny at *
                                        go_wp2
                                        go_roundg (gk - 1)
                                        case rel => exact ⟨t + 1, z, _, by omega, rfl, hzq, HITZ, HS7.out, HN2⟩
                                        case measure => omega
                                      · have ht : t = perS (gs nx mt) e := by omega
                                        obtain ⟨hm1, rfl⟩ := htest.2 ht
                                        rw [hm1] at hmk
                                        have HD := Lib.hid (GlueRi.done HG.out (ht ▸ hM.out) HCY.out)
                                        have HST := Lib.hid st
                                        clear st hM hit htest hm1
                                        go_wp2
                                        go_roundg (ko - 1)
                                        case rel => exact ⟨y + 1, cnt + 1, M, by omega, by go_num, by go_num, by omega, HST.out, HD, HT2⟩
                                        case measure => omega
                                · have heN : e = P + Q := by omega
                                  subst e
                                  have HCT := Lib.hid (HG.out.count hT.out)
                                  have HST := Lib.hid (st.sub (b := [SI (.slice (some ⟨O, 0, none⟩) a a) (fillN jf a)]) (by simp))
                                  clear st hM hT
                                  go_wp2
                                  go_ret2
                                  exact ⟨_, by rw [HMT0.out, ← HCT.out]; rfl, by rw [HJF0.out]; exact HST.out⟩
end Go.Proofs.Ytfpcfolcdpdomaa
