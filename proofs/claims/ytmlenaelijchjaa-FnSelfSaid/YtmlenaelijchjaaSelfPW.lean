/- Contracts: ChangeSelf of the program and of the reference. -/
import Derived.Test.YtmlenaelijchjaaSelfPL
import Derived.Test.YtmlenaelijchjaaAllPathsW
import Derived.Test.YtmlenaelijchjaaRounds3W
import Derived.Test.YtmlenaelijchjaaPut2W
import Derived.Test.YtmlenaelijchjaaTimesW
import Derived.Test.YtmlenaelijchjaaChangePairsW
import Derived.Deep.RegionHeld3
import Derived.Deep.DrawnRows
import Derived.Deep.LoopGhost
namespace Go.Proofs.Ytmlenaelijchjaa
open Go.RowKit Go.Maps
set_option linter.unusedVariables false
set_option linter.unusedSimpArgs false
attribute [local go_sem ↓] Go.wp_at_zero Go.wp_at_succ

/-- Whether a cell's path goes twice through it. -/
noncomputable def selfB (ss : List ByteArray) (c : Int) : Bool := cellB ss c && ((gr ss).passN c.toNat == 2)

theorem IdMap.look {W : World} {B n : Nat} {f : Stt → Option Int} (h : IdMap W B n f) (y : Stt) {v : Int} (hf9 : f y = some v) (hy : y.1 ≤ 1000 ∧ y.2 ≤ 1000) :
    (Instr.lookup 32 (.map (some B)) (.agg #[.int .i64 y.1, .int .i64 y.2]) false).run Try.prog W = .ok (.int .i64 v) W := by
  obtain ⟨D, ho, hf⟩ := h
  obtain ⟨l, hl⟩ := step_key W y hy.1 hy.2
  obtain ⟨h1, h2⟩ := hf y l hl
  obtain ⟨c, hrun, hat, _⟩ := ho.lookup_int stepKeyed Try.underlying32 Try.underlying3 (zeroInt W) hl
  rw [h2, hf9] at hat
  have : v = c := by simpa using hat
  rw [this]
  exact hrun

set_option maxRecDepth 100000 in
set_option maxHeartbeats 4000000 in
theorem iChangeSelf_any (ao : Option Addr) (cap : Nat) (ss : List ByteArray) (c : Int) (w : World) (hx : CellsS w ao ss) (hm : ss.length ≤ maxLen) (hsz : ∀ s ∈ ss, s.size ≤ maxLen) :
    Calls Try.prog 5 #[.slice ao ss.length cap, .int .i64 c] w fun e w' => e = .returned (.bool (selfB ss c)) ∧ Below w.heap.size w w' := by
  have HCO := Lib.hid (cellOk_any ao cap ss c w hx hm hsz)
  cases hb : cellB ss c
  · have HB := Lib.hid hb
    have HL := Lib.hid (show selfB ss c = false by simp [selfB, hb])
    clear hb hx hsz
    go_enter Try.func5, Try.ntmps5
    go_wp2_with fail
    refine HCO.out.mono ?_
    rintro e w2 ⟨rfl, rfl⟩
    rw [HB.out]
    go_wp2
    go_ret
    exact ⟨by rw [HL.out]; rfl, Below.refl _ _⟩
  · obtain ⟨hg, q, rfl, hq⟩ := cellB_nat hb
    have hok := gr_ok hg
    have h25 := Gr.size_le hok
    have HB := Lib.hid hb
    have hL : selfB ss q = ((gr ss).passN q == 2) := by simp [selfB, hb]
    have hall := Gr.self_all hok hq
    have HAP := Lib.hid fun W (h : CellsS W ao ss) => allPaths_any ao cap ss W h hg
    have HL := Lib.hid hL
    have HX := Lib.hid hx
    have hv : ∀ d, d < 4 → (gr ss).val (q, d) := fun d hd => ⟨hq, hd⟩
    have hq25 : q < 25 := by omega
    clear hb hx hsz hL h25
    go_enter Try.func5, Try.ntmps5
    go_wp2_with fail
    refine HCO.out.mono ?_
    rintro e w2 ⟨rfl, rfl⟩
    rw [HB.out]
    have HBD := Lib.hid (Below.refl w.heap.size w)
    go_wp2_with fail
    refine (HAP.out _ (HX.out.below HBD.out (Nat.le_refl _))).mono ?_
    rintro e w3 ⟨B, n, f, v, Z, rfl, stm, hz, -, hro⟩
    obtain ⟨va, vc, rfl⟩ := RL_shape (stm.st.own _ List.mem_cons_self)
    have HSA : Hid (∀ d, d < 4 → ∃ i j, f (q, 0) = some i ∧ f (q, d) = some j ∧ 0 ≤ i ∧ 0 ≤ j ∧ i ≤ 1000 ∧ j ≤ 1000 ∧ (i = j ↔ (gr ss).Path (q, 0) (q, d))) := fun d hd => Gr.RoundOk.same hok hro (hv 0 (by omega)) (hv d hd)
    have HID := Lib.hid stm.ids
    have HBB : Hid (Below w.heap.size w w3) := HBD.out.trans (stm.st.below.mono HBD.out.size)
    have HALL := Lib.hid hall
    clear stm hz hro hok hg hq hv hall HAP HCO
    generalize (gr ss).passN q = N at *
    generalize (gr ss).Path = PP at *
    go_wp2_with fail
    go_loopg [17] 4 (fun kk v17 wr => ∃ d : Nat, kk + d = 4 ∧ v17 = .int .i64 d ∧ Dr w3 wr ∧ (∀ e, e < d → PP (q, 0) (q, e)))
    case atStart => exact ⟨0, by omega, rfl, Dr.refl _, fun e he => by omega⟩
    case round =>
      obtain ⟨d, hd, rfl, hdr, hpp⟩ := hrel
      by_cases hlt : d < 4
      · obtain ⟨i, j, fi, fj, i0, j0, i1, j1, hij⟩ := HSA.out d hlt
        have hid2 := HID.out.below ((hdr.trans ⟨1, rfl⟩).below _)
        have k1 : (Instr.lookup 32 (.map (some B)) (.agg #[.int .i64 q, .int .i64 0]) false).run Try.prog wr.drew = .ok (.int .i64 i) wr.drew := hid2.look (q, 0) fi ⟨by show q ≤ 1000; omega, by show 0 ≤ 1000; omega⟩
        have k2 : (Instr.lookup 32 (.map (some B)) (.agg #[.int .i64 q, .int .i64 d]) false).run Try.prog wr.drew = .ok (.int .i64 j) wr.drew := hid2.look (q, d) fj ⟨by show q ≤ 1000; omega, by show d ≤ 1000; omega⟩
        by_cases he : i = j
        · subst he
          have hp := Lib.hid (hij.1 rfl)
          have HPP := Lib.hid hpp
          have HDR := Lib.hid hdr
          have en : (i != i) = false := bne_self_eq_false _
          clear hij fi fj hid2 hpp hdr
          go_wp2
          go_region
          all_goals
            go_wp2
            go_roundg (gk - 1)
            case rel => exact ⟨d + 1, by omega, by go_num, HDR.out.trans ⟨1, rfl⟩, fun e he => by
              by_cases h : e = d
              · subst h; exact hp.out
              · exact HPP.out e (by omega)⟩
            case measure => omega
        · have hN : (N == 2) = false := by
            rw [beq_eq_false_iff_ne]
            intro h
            exact he (hij.2 (HALL.out.1 h d hlt))
          have HN := Lib.hid hN
          have en : (j != i) = true := by rw [bne_iff_ne]; exact fun h => he h.symm
          have HDR := Lib.hid hdr
          clear hij fi fj hid2 hpp hdr hN he
          go_wp2
          go_region
          all_goals
            go_wp2
            go_ret
            exact ⟨by rw [HL.out, HN.out]; rfl, HBB.out.trans ((HDR.out.trans ⟨1, rfl⟩).below _)⟩
      · have hd4 : d = 4 := by omega
        subst hd4
        have hN : (N == 2) = true := beq_iff_eq.2 (HALL.out.2 hpp)
        have HN := Lib.hid hN
        have HDR := Lib.hid hdr
        clear hpp hdr hN
        go_wp2
        go_ret
        exact ⟨by rw [HL.out, HN.out]; rfl, HBB.out.trans (HDR.out.below _)⟩
end Go.Proofs.Ytmlenaelijchjaa
