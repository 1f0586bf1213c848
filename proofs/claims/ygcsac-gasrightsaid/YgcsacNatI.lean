/- nat.Sub (of no more than there is), yp.less, nat.Pow2(9): contracts. -/
import Derived.Test.YgcsacNatF
namespace Go.Proofs.Ygcsac
open Go.RowKit

theorem cmpZ_ge {x y : Int} (h : y ≤ x) : ¬ cmpZ x y < 0 := by
  by_cases e : x = y
  · rw [cmpZ_eq e]; omega
  · rw [cmpZ_gt (by omega)]; omega

set_option maxHeartbeats 600000 in
theorem sub_any (w : World) (ao bo : Option Addr) (n m : Nat) (za zb : List Int) (hn : n ≤ 100000) (hm : m ≤ 100000) (ha : NatAt w ao n za) (hb : NatAt w bo m zb) (hle : Hid (val zb ≤ val za)) :
    Calls Sacg.prog 30 #[.slice ao n n, .slice bo m m] w fun e w' => ∃ co k zs, e = .returned (.tuple #[.slice co k k, .bool true]) ∧ NatAt w' co k zs ∧ val zs = val za - val zb ∧ k ≤ n ∧ Kp w w' := by
  have hc := cmpZ_ge hle.out
  go_enter Sacg.func30, Sacg.ntmps30
  go_wp2_with fail
  refine (cmp_k _ _ _ _ _ za zb hn hm ha hb).mono ?_
  rintro e w1 ⟨rfl, k1⟩
  replace ha := ha.keep k1
  replace hb := hb.keep k1
  go_wp2_with fail
  refine (norm_any _ _ _ za hn ha).mono ?_
  rintro e w2 ⟨ys, hv, hN, hD, hl, ⟨rfl, rfl, rfl⟩ | ⟨hpos, rfl, hr, hk2, hs2⟩⟩
  · have hz : val za = 0 := hv.symm
    have HZ : Hid (val za = 0) := hz
    clear hz hv hN hD hl
    go_wp2_with fail
    refine (trim_any _ _ _ zb hm hb).mono ?_
    rintro e w3 ⟨l, rfl, rfl, hl, g1, g2, g3⟩
    have HB : Hid (0 ≤ val zb) := val_nonneg hb.dig
    clear g2 g3 ha hb
    go_wp2_with fail
    refine (take_nil _ _ _).mono ?_
    rintro e w4 ⟨rfl, rfl⟩
    go_wp2_with fail
    refine (clip_any _ _ 0 [] (by omega) (NatAt.zero _)).mono ?_
    intro e w5 hG
    obtain ⟨co, k, zs, rfl, r1, r2, r3, r4⟩ := hG.parts
    have HV : Hid (val zs = val za - val zb) := by
      have h1 := hle.out
      have h2 := HZ.out
      have h3 := HB.out
      show val zs = val za - val zb
      rw [r2]; simp only [val]; omega
    clear r2 hG
    go_wp2
    go_ret2
    exact ⟨co, k, zs, rfl, r1, HV.out, by omega, k1.trans r4⟩
  · obtain ⟨yn, eyn⟩ : ∃ yn, yn = ys.length := ⟨_, rfl⟩
    rw [← eyn]
    rw [← eyn] at hpos hl
    have EYN : Hid (ys.length = yn) := eyn.symm
    clear eyn
    have hbw := hb
    replace hb := hb.keep hk2
    go_wp2_with fail
    refine (trim_any _ _ _ zb hm hb).mono ?_
    rintro e w3 ⟨l, rfl, rfl, hl', g1, g2, g3⟩
    have f1 := hbw.front l hl'
    have hlen : l ≤ yn := by
      have := nrm_len_le f1.dig hD g3 (by rw [g2, hv]; exact hle.out)
      rw [f1.len, EYN.out] at this
      exact this
    have HLE : Hid (val (zb.take l) ≤ val ys) := by show _ ≤ _; rw [g2, hv]; exact hle.out
    have HV : Hid (val ys - val (zb.take l) = val za - val zb) := by show _ = _; rw [g2, hv]
    clear g1 g2 g3 hv hb
    go_wp2_with fail
    refine (take_any w1 _ w1.heap.size yn l bo ys (zb.take l) (by omega) hlen hr EYN.out hD f1 (Nat.le_refl _) hk2 HLE.out).mono ?_
    rintro e w4 ⟨rfl, os, o1, o2, o3, o4, o5⟩
    have hN4 := NatAt.ofRow (n := yn) o1 o3 o2
    have hB4 : Kp w w4 := k1.trans (Below.trans hk2 (o5.below (Nat.le_refl _)))
    have HO : Hid (val os = val za - val zb) := o4.trans HV.out
    clear o1 o2 o3 o4 o5 HV HLE hr hD hN f1 hbw EYN
    go_wp2_with fail
    refine (clip_any _ _ yn os (by omega) hN4).mono ?_
    intro e w5 hG
    obtain ⟨co, k, zs, rfl, r1, r2, r3, r4⟩ := hG.parts
    have HV : Hid (val zs = val za - val zb) := r2.trans HO.out
    clear r2 hG
    go_wp2
    go_ret2
    exact ⟨co, k, zs, rfl, r1, HV.out, by omega, hB4.trans r4⟩
end Go.Proofs.Ygcsac
