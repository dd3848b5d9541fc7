/- Contracts: how often two beams cross (l5Both, common, CrossBetween both). -/
import Derived.Test.YtcigmmafmogmkaaSelfW
namespace Go.Proofs.Ytcigmmafmogmkaa
open Go.RowKit
set_option linter.unusedVariables false
set_option linter.unusedSimpArgs false

theorem Gr.betwS_le (g : Gr) (p q k : Nat) : g.betwS p q k ≤ k * (g.wayI q).length := by
  refine sumN_bound fun i _ => ?_
  have := List.count_le_length (a := ((((g.wayI p).getD i 0).toNat : Nat) : Int)) (l := g.wayI q)
  split <;> omega

theorem l5Both_any (ao bo co : Option Addr) (ca cb cc : Nat) (ss : List ByteArray) (p q : Nat) (w : World) (hx : CellsS w ao ss) (hg : gridB ss = true) (hp : p < (gr ss).ports) (hq : q < (gr ss).ports)
    (hne : p ≠ q) (hne2 : (gr ss).endOf p ≠ q) (hy : CellsI w bo ((gr ss).wayI p)) (hz : CellsI w co ((gr ss).wayI q)) :
    Calls Try.prog 34 #[.slice ao ss.length ca, .slice bo ((gr ss).wayI p).length cb, .slice co ((gr ss).wayI q).length cc] w fun e w' => e = .returned (.int .i64 ((gr ss).betwN p q : Nat)) ∧ Dr w w' := by
  have hok := gr_ok hg
  have HR := Lib.hid (Gr.wayI_range hok hp)
  have hl := Gr.wayI_length hok hp
  have hl2 := Gr.wayI_length hok hq
  have HX := Lib.hid hx
  have HG := Lib.hid hg
  have HE := Lib.hid (Gr.betwS_eq hok hp hq hne hne2)
  have HB := Lib.hid fun k => Gr.betwS_le (gr ss) p q k
  have HS : Hid (∀ k, (gr ss).betwS p q (k + 1) = (gr ss).betwS p q k + _) := fun k => rfl
  have H0 : Hid ((gr ss).betwS p q 0 = 0) := rfl
  clear hx hg hp hok hq hne hne2
  generalize hL : (gr ss).wayI p = L at *
  generalize hM : (gr ss).wayI q = M at *
  clear hL hM
  go_enter Try.func34, Try.ntmps34
  go_wp2
  go_loopw [7, 8] (fun v5 v6 wr => ∃ k : Nat, k ≤ L.length ∧ v6 = .int .i64 k ∧ v5 = .int .i64 ((gr ss).betwS p q k : Nat) ∧ Dr w wr) (fun _ v6 _ => L.length - (intOf v6).toNat)
  case atStart => exact ⟨0, Nat.zero_le _, rfl, by rw [H0.out]; rfl, Dr.refl _⟩
  case round =>
    obtain ⟨k, hk, rfl, rfl, hdr⟩ := hrel
    have hbd := HB.out k
    have hkl : k * M.length ≤ 100 * 100 := Nat.mul_le_mul (by omega) hl2
    by_cases hlt : k < L.length
    · obtain ⟨c, hc1, hc2⟩ := HR.out k hlt
      obtain ⟨b, off, rfl, hc⟩ := hy.dr hdr k hlt
      have hs := HS.out k
      rw [hc1] at hc hs
      rw [Int.toNat_natCast] at hs
      have HC2 := Lib.hid hc2
      have hq := List.count_le_length (a := (c : Int)) (l := M)
      have HOF := Lib.hid fun W (h : CellsI W co M) => l2Often_any co cc M (c : Int) W h (by omega)
      have HCW := Lib.hid fun W (h : Dr w W) => hz.dr h
      generalize M.count (c : Int) = q at *
      clear hc1 hc2
      go_wp2_with fail
      refine (l2Cell_any ao ca ss c _ (HX.out.dr hdr) HG.out HC2.out).mono ?_
      rintro e w2 ⟨rfl, hd2⟩
      have hdr2 := hdr.trans hd2
      by_cases hsig : (gr ss).sig c = 46
      · rw [if_pos hsig] at hs
        have hsig2 : ((gr ss).sig c == 46) = true := by simp [hsig]
        have hc' : w2.cell? ⟨b, off + k, none⟩ = some (.int .i64 (c : Int)) := by
          obtain ⟨n, rfl⟩ := hd2
          exact hc
        have HS2 := Lib.hid hs
        clear hsig hs
        go_wp2_with fail
        refine (HOF.out _ (HCW.out _ hdr2)).mono ?_
        rintro e w3 ⟨rfl, rfl⟩
        go_wp2
        go_roundw
        case rel => exact ⟨k + 1, by omega, by go_num, by rw [HS2.out]; go_num, hdr2⟩
        case measure => simp [intOf]; omega
      · rw [if_neg hsig] at hs
        have hsig2 : ((gr ss).sig c == 46) = false := by simp [hsig]
        have HS2 := Lib.hid hs
        clear hsig hs
        go_wp2
        go_roundw
        case rel => exact ⟨k + 1, by omega, by go_num, by rw [HS2.out]; go_num, hdr2⟩
        case measure => simp [intOf]; omega
    · obtain rfl : k = L.length := by omega
      go_wp2
      go_ret
      exact ⟨by rw [← HE.out]; rfl, hdr⟩

/-- Two different ports that are not the ends of one beam. -/
noncomputable def betwB (ss : List ByteArray) (p q : Int) : Bool := wayB ss p && wayB ss q && !(p == q) && !(((gr ss).endOf p.toNat : Int) == q)
noncomputable def betwL (ss : List ByteArray) (p q : Int) : Int := if betwB ss p q = true then ((gr ss).betwN p.toNat q.toNat : Nat) else 0

end Go.Proofs.Ytcigmmafmogmkaa
