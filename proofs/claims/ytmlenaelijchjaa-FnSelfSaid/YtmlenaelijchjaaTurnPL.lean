/- The pairs of a grid turned or flipped: plain facts. -/
import Derived.Test.YtmlenaelijchjaaIsoL
import Derived.Test.YtmlenaelijchjaaRen
import Derived.Test.YtmlenaelijchjaaTurnGW
namespace Go.Proofs.Ytmlenaelijchjaa
open Go.RowKit
set_option linter.unusedVariables false
set_option linter.unusedSimpArgs false

theorem turnS_eq {ss : List ByteArray} (hg : gridB ss = true) : turnS ss = gridT (gr ss).m (gr ss).n (turnF ss) := by simp [turnS, hg]
theorem flipS_eq {ss : List ByteArray} (hg : gridB ss = true) : flipS ss = gridT (gr ss).n (gr ss).m (flipF ss) := by simp [flipS, hg]
theorem turnF_let {ss : List ByteArray} (hg : gridB ss = true) {r c : Nat} (hr : r < (gr ss).m) (hc : c < (gr ss).n) : letB (turnF ss r c) = true := by
  have hok := gr_ok hg
  exact exch_let (hok.let' _ _ (by omega) hr)
theorem flipF_let {ss : List ByteArray} (hg : gridB ss = true) {r c : Nat} (hr : r < (gr ss).n) (hc : c < (gr ss).m) : letB (flipF ss r c) = true := by
  have hok := gr_ok hg
  exact exch_let (hok.let' _ _ hr (by omega))
theorem turnS_ok {ss : List ByteArray} (hg : gridB ss = true) : gridB (turnS ss) = true := by
  have hok := gr_ok hg
  rw [turnS_eq hg]
  exact gridT_ok hok.m1 hok.m5 hok.n1 hok.n5 fun i k hi hk => turnF_let hg hi hk
theorem flipS_ok {ss : List ByteArray} (hg : gridB ss = true) : gridB (flipS ss) = true := by
  have hok := gr_ok hg
  rw [flipS_eq hg]
  exact gridT_ok hok.n1 hok.n5 hok.m1 hok.m5 fun i k hi hk => flipF_let hg hi hk
theorem turnS_turned {ss : List ByteArray} (hg : gridB ss = true) : (gr ss).Turned (gr (turnS ss)) := by
  have hok := gr_ok hg
  have h := gridT_gr (n := (gr ss).m) (m := (gr ss).n) (f := turnF ss) hok.m1 fun i k hi hk => turnF_let hg hi hk
  rw [turnS_eq hg]
  have hn1 := hok.n1
  refine ⟨h.n, h.m, fun i k hi hk => ?_⟩
  rw [h.lt k _ (by rw [h.n]; exact hk) (by rw [h.m]; show (gr ss).n - 1 - i < (gr ss).n; omega)]
  show exch ((gr ss).lt ((gr ss).n - 1 - ((gr ss).n - 1 - i)) k) = _
  rw [show (gr ss).n - 1 - ((gr ss).n - 1 - i) = i by omega]
theorem flipS_flipped {ss : List ByteArray} (hg : gridB ss = true) : (gr ss).Flipped (gr (flipS ss)) := by
  have hok := gr_ok hg
  have h := gridT_gr (n := (gr ss).n) (m := (gr ss).m) (f := flipF ss) hok.n1 fun i k hi hk => flipF_let hg hi hk
  rw [flipS_eq hg]
  have hm1 := hok.m1
  refine ⟨h.n, h.m, fun i k hi hk => ?_⟩
  rw [h.lt i _ (by rw [h.n]; exact hi) (by rw [h.m]; show (gr ss).m - 1 - k < (gr ss).m; omega)]
  show exch ((gr ss).lt i ((gr ss).m - 1 - ((gr ss).m - 1 - k))) = _
  rw [show (gr ss).m - 1 - ((gr ss).m - 1 - k) = k by omega]
theorem beams_eq {ss : List ByteArray} (hg : gridB ss = true) : beamsB ss = (gr ss).endsTo (gr ss).ports := by simp [beamsB, hg]
theorem beams_len {ss : List ByteArray} (hg : gridB ss = true) : (beamsB ss).length = (gr ss).ports := by rw [beams_eq hg, Gr.endsTo_length]
theorem beams_of {ss : List ByteArray} (hg : gridB ss = true) : ofB (gr ss).n (gr ss).m (beamsB ss) = true := by
  have hok := gr_ok hg
  rw [ofB_iff]
  have h1 := hok.n1
  have h2 := hok.n5
  have h3 := hok.m1
  have h4 := hok.m5
  refine ⟨by omega, by omega, by omega, by omega, ?_, ?_⟩
  · rw [beams_len hg]; unfold Gr.ports; omega
  · rw [beams_eq hg]; exact Gr.ends_pairs hok
/-- Beams under other names. -/
theorem beams_map {ss ss' : List ByteArray} (hg : gridB ss = true) (hg' : gridB ss' = true) {T : Stt → Stt} {f g : Nat → Nat} (h : (gr ss).Iso (gr ss') T f) (hr : Ren f g (gr ss).ports) (hp : (gr ss').ports = (gr ss).ports) :
    mapTo f (beamsB ss) (beamsB ss).length = beamsB ss' := by
  have hok := gr_ok hg
  have hok' := gr_ok hg'
  have hl := beams_len hg
  refine list_ext_getD (by rw [mapTo_length, hl, beams_len hg', hp]) fun q hq => ?_
  rw [mapTo_length, hl] at hq
  have hb := hr.back q hq
  rw [mapTo_at (by rw [hl]; exact hr) (by rw [hl]; exact hq)]
  have e1 : (beamsB ss).getD (g q) 0 = ((gr ss).endOf (g q) : Nat) := by rw [beams_eq hg]; exact Gr.endsTo_getD hok hb
  have e2 : (beamsB ss').getD q 0 = ((gr ss').endOf q : Nat) := by rw [beams_eq hg']; exact Gr.endsTo_getD hok' (by rw [hp]; exact hq)
  rw [e1, e2, Int.toNat_natCast, ← Gr.Iso.endOf hok hok' h hb, hr.fg q hq]
theorem beams_turn {ss : List ByteArray} (hg : gridB ss = true) : jturnL (gr ss).n (gr ss).m (beamsB ss) = beamsB (turnS ss) := by
  have hok := gr_ok hg
  have hok' := gr_ok (turnS_ok hg)
  have ht := turnS_turned hg
  have hp : (gr (turnS ss)).ports = (gr ss).ports := by unfold Gr.ports; rw [ht.n, ht.m]; omega
  have hb := Gr.ports_bd hok
  have e := beams_map hg (turnS_ok hg) (Gr.Turned.iso hok hok' ht) (ren_turn (gr ss).ports (gr ss).n (by omega)) hp
  unfold jturnL
  rw [if_pos (beams_of hg)]
  rw [← e]
  refine mapTo_same (pairsB_iff.1 (ofB_iff.1 (beams_of hg)).2.2.2.2.2).1 (fun p hp => ?_) _ (Nat.le_refl _)
  show (p + ((gr ss).n : Int).toNat) % (beamsB ss).length = (p + (gr ss).n) % (gr ss).ports
  rw [beams_len hg, Int.toNat_natCast]
theorem beams_flip {ss : List ByteArray} (hg : gridB ss = true) : jflipL (gr ss).n (gr ss).m (beamsB ss) = beamsB (flipS ss) := by
  have hok := gr_ok hg
  have hok' := gr_ok (flipS_ok hg)
  have ht := flipS_flipped hg
  have hp : (gr (flipS ss)).ports = (gr ss).ports := by unfold Gr.ports; rw [ht.n, ht.m]
  have hb := Gr.ports_bd hok
  have hr := ren_flip (n := (gr ss).n) (m := (gr ss).m) (N := (gr ss).ports) hok.n1 hok.m1 rfl
  have e := beams_map hg (flipS_ok hg) (Gr.Flipped.iso hok hok' ht) hr hp
  unfold jflipL
  rw [if_pos (beams_of hg)]
  rw [← e]
  refine mapTo_same (pairsB_iff.1 (ofB_iff.1 (beams_of hg)).2.2.2.2.2).1 (fun p hp => ?_) _ (Nat.le_refl _)
  show ((((gr ss).m : Int).toNat + (beamsB ss).length - 1 - p) % (beamsB ss).length) = ((gr ss).m + (gr ss).ports - 1 - p) % (gr ss).ports
  rw [beams_len hg, Int.toNat_natCast]
end Go.Proofs.Ytmlenaelijchjaa
