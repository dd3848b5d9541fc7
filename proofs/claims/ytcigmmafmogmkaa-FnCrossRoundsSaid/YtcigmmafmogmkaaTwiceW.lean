/- Contracts: the cells that a beam goes twice through; the mirrors of a grid (BeamTwice, GridCount). -/
import Derived.Test.YtcigmmafmogmkaaSelfW
namespace Go.Proofs.Ytcigmmafmogmkaa
open Go.RowKit
set_option linter.unusedVariables false
set_option linter.unusedSimpArgs false

/-- Through how many cells a beam goes twice. -/
noncomputable def Gr.twiceN (g : Gr) (p : Nat) : Nat := cntN (fun c => (g.wayI p).count (c : Int) == 2) (g.n * g.m)
noncomputable def twiceL (ss : List ByteArray) (p : Int) : Int := if wayB ss p = true then ((gr ss).twiceN p.toNat : Nat) else 0
theorem cntN_mono {p q : Nat → Bool} {n : Nat} (h : ∀ i, i < n → p i = true → q i = true) : cntN p n ≤ cntN q n := by
  refine sumN_le fun i hi => ?_
  have := h i hi
  cases hp : p i
  · simp
  · simp [this hp]
theorem Gr.self_twice (g : Gr) (p : Nat) : g.selfN p ≤ g.twiceN p := cntN_mono fun i _ h => by
  simp only [Bool.and_eq_true] at h
  exact h.1
/-- The mirrors of a grid, row by row. -/
def Gr.mirR (g : Gr) (i : Nat) : Nat := cntN (fun k => !(g.lt i k == 46)) g.m
def Gr.mirN (g : Gr) : Nat := sumN g.mirR g.n
def mirL (ss : List ByteArray) : Int := if gridB ss = true then ((gr ss).mirN : Nat) else 0
theorem sumN_le_mul {f : Nat → Nat} {a : Nat} (h : ∀ i, f i ≤ a) (n : Nat) : sumN f n ≤ n * a := sumN_bound fun i _ => h i

theorem iGridCount_any (ao : Option Addr) (cap : Nat) (ss : List ByteArray) (w : World) (hx : CellsS w ao ss) (hm : ss.length ≤ maxLen) (hsz : ∀ s ∈ ss, s.size ≤ maxLen) :
    Calls Try.prog 17 #[.slice ao ss.length cap] w fun e w' => e = .returned (.tuple #[.int .i64 (mirL ss), .bool (gridB ss)]) ∧ w = w' := by
  have HGI := Lib.hid (iGridIn_any ao cap ss w hx hm hsz)
  clear hsz
  cases hg : gridB ss
  · have HG := Lib.hid hg
    have HL := Lib.hid (show mirL ss = 0 by simp [mirL, hg])
    clear hg
    go_enter Try.func17, Try.ntmps17
    go_wp2_with fail
    refine HGI.out.mono ?_
    rintro e w2 ⟨rfl, rfl⟩
    rw [HG.out]
    go_wp2
    go_ret2
    exact ⟨by rw [HL.out]; rfl, rfl⟩
  · have hok := gr_ok hg
    have HG := Lib.hid hg
    have HL := Lib.hid (show mirL ss = ((gr ss).mirN : Nat) by simp [mirL, hg])
    have hn5 : ss.length ≤ 5 := hok.n5
    have hm5 : (gr ss).m ≤ 5 := hok.m5
    have HRW := Lib.hid fun i (hi : i < ss.length) => gr_row hg hi
    have HN : Hid ((gr ss).mirN = sumN (gr ss).mirR ss.length) := rfl
    have HMB := Lib.hid fun i => sumN_le_mul (f := (gr ss).mirR) (a := (gr ss).m) (fun j => cntN_le _ _) i
    have HMR : Hid (∀ i, (gr ss).mirR i = cntN (fun k => !(sgn (rowOf ss i) k == 46)) (gr ss).m) := fun i => rfl
    clear hg hok
    generalize (gr ss).m = m at *
    go_enter Try.func17, Try.ntmps17
    go_wp2_with fail
    refine HGI.out.mono ?_
    rintro e w2 ⟨rfl, rfl⟩
    rw [HG.out]
    go_wp2_with fail
    go_loop [4, 13] (fun v4 v13 => ∃ i : Nat, i ≤ ss.length ∧ v13 = .int .i64 i ∧ v4 = .int .i64 (sumN (gr ss).mirR i : Nat)) (fun _ v13 => ss.length - (intOf v13).toNat)
    case atStart => exact ⟨0, Nat.zero_le _, rfl, rfl⟩
    case round =>
      obtain ⟨i, hi, rfl, rfl⟩ := hrel
      have hmb := HMB.out i
      have hmb2 : i * m ≤ 5 * 5 := Nat.mul_le_mul (by omega) hm5
      have HSU : Hid (sumN (gr ss).mirR (i + 1) = sumN (gr ss).mirR i + (gr ss).mirR i) := rfl
      by_cases hlt : i < ss.length
      · obtain ⟨b, off, rfl, hc⟩ := hx i hlt
        have hrs := HRW.out i hlt
        have hmr := HMR.out i
        obtain ⟨P, hP⟩ : ∃ P : Nat → Bool, P = (fun k : Nat => !(sgn (rowOf ss i) k == 46)) := ⟨_, rfl⟩
        rw [← hP] at hmr
        have HPK := Lib.hid (congrFun hP)
        have HMI := Lib.hid hmr
        have HSG := Lib.hid fun k (h : k < (rowOf ss i).size) => sgn_eq (rowOf ss i) k h
        have HLE := Lib.hid (cntN_le P)
        clear hP hmr
        have hrs2 : ((rowOf ss i).size : Int) = m := by omega
        generalize hS : rowOf ss i = s at *
        have HRS := Lib.hid hrs
        clear hS hx hrs hrs2
        generalize sumN (gr ss).mirR i = M at *
        go_wp2_with fail
        go_loop [4, 19] (fun v4 v19 => ∃ k : Nat, k ≤ s.size ∧ v19 = .int .i64 k ∧ v4 = .int .i64 ((M + cntN P k : Nat) : Int)) (fun _ v19 => s.size - (intOf v19).toNat)
        case atStart => exact ⟨0, Nat.zero_le _, rfl, rfl⟩
        case round =>
          obtain ⟨k, hk, rfl, rfl⟩ := hrel
          have hle := HLE.out k
          have hsu := cntN_succ P k
          rw [HPK.out k] at hsu
          have hm9 : s.size ≤ 5 := by
            have := HRS.out
            omega
          by_cases hlt2 : k < s.size
          · have hsg := HSG.out k hlt2
            rw [← hsg] at hsu
            by_cases e : ((s[k]'hlt2).toNat : Int) = 46
            · have e1 : (((s[k]'hlt2).toNat : Int) != 46) = false := by simp [e]
              have e2 : (((s[k]'hlt2).toNat : Int) == 46) = true := by simp [e]
              rw [e2] at hsu
              simp only [Bool.not_true, Bool.false_eq_true, if_false, Nat.add_zero] at hsu
              have HSU2 := Lib.hid hsu
              clear e e2 hsu hsg
              go_wp2
              go_round
              case rel => exact ⟨k + 1, by omega, by go_num, by rw [HSU2.out]⟩
              case measure => simp [intOf]; omega
            · have e1 : (((s[k]'hlt2).toNat : Int) != 46) = true := by simp [e]
              have e2 : (((s[k]'hlt2).toNat : Int) == 46) = false := by simp [e]
              rw [e2] at hsu
              simp only [Bool.not_false, if_true] at hsu
              have HSU2 := Lib.hid hsu
              clear e e2 hsu hsg
              go_wp2
              go_round
              case rel => exact ⟨k + 1, by omega, by go_num, by rw [HSU2.out]; go_num⟩
              case measure => simp [intOf]; omega
          · obtain rfl : k = s.size := by omega
            have HE : Hid (M + cntN P s.size = sumN (gr ss).mirR (i + 1)) := by
              show _ = _
              rw [HSU.out, HMI.out, HRS.out]
            clear hsu
            go_wp2
            go_round
            case rel => exact ⟨i + 1, by omega, by go_num, by rw [← HE.out]⟩
            case measure => simp [intOf]; omega
      · obtain rfl : i = ss.length := by omega
        go_wp2
        go_ret2
        exact ⟨by rw [HL.out, HN.out]; rfl, rfl⟩
end Go.Proofs.Ytcigmmafmogmkaa
