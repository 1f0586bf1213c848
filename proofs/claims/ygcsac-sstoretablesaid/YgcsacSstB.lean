/- yp.Sstore: what it gives, way by way (the other ways). -/
import Derived.Test.YgcsacNatE
namespace Go.Proofs.Ygcsac
open Go.RowKit

set_option maxHeartbeats 2000000 in
theorem sstore_oz_no_warm (w : World) (oo vo no : Option Addr) (on vn nn : Nat) (zo zv zn : List Int) (bo : on ≤ 1000) (bv : vn ≤ 1000) (bn : nn ≤ 1000) (ho : NatAt w oo on zo) (hv : NatAt w vo vn zv) (hn : NatAt w no nn zn) (t_same : (cmpZ (val zn) (val zv) == 0) = false) (t_first : (cmpZ (val zv) (val zo) == 0) = false) (t_oz : (val zo == 0) = true) (t_no : (cmpZ (val zn) (val zo) == 0) = true) :
    Calls Sacg.prog 15 #[.slice oo on on, .slice vo vn vn, .slice no nn nn, .bool false] w fun e w' => Sst3 w 100 19900 0 e w' := by
  have hB : Kp w w := Kp.refl w
  go_enter Sacg.func15, Sacg.ntmps15
  go_wp2_with fail
  refine (cmp_k w no vo nn vn zn zv (by omega) (by omega) hn hv).mono ?_
  rintro e w1 ⟨rfl, k1⟩
  replace hB := hB.trans k1
  replace ho := ho.keep k1
  replace hv := hv.keep k1
  replace hn := hn.keep k1
  clear k1
  go_wp2_with fail
  refine (cmp_k w1 vo oo vn on zv zo (by omega) (by omega) hv ho).mono ?_
  rintro e w2 ⟨rfl, k2⟩
  replace hB := hB.trans k2
  replace ho := ho.keep k2
  replace hv := hv.keep k2
  replace hn := hn.keep k2
  clear k2
  go_wp2_with fail
  refine (num_any w2 100 (by omega) (by omega)).mono ?_
  intro e w3 hG
  obtain ⟨co3, cn3, zc3, rfl, hc', ec3, bc3, k3⟩ := hG.parts
  have Ec3 : Hid (val zc3 = 100) := ec3
  replace hB := hB.trans k3
  replace ho := ho.keep k3
  replace hv := hv.keep k3
  replace hn := hn.keep k3
  clear k3 ec3 hG
  have hc := hc'
  clear hc'
  go_wp2_with fail
  refine (isZero_k w3 oo on zo (by omega) ho).mono ?_
  rintro e w4 ⟨rfl, k4⟩
  replace hB := hB.trans k4
  replace ho := ho.keep k4
  replace hv := hv.keep k4
  replace hn := hn.keep k4
  replace hc := hc.keep k4
  clear k4
  go_wp2_with fail
  refine (cmp_k w4 no oo nn on zn zo (by omega) (by omega) hn ho).mono ?_
  rintro e w5 ⟨rfl, k5⟩
  replace hB := hB.trans k5
  replace ho := ho.keep k5
  replace hv := hv.keep k5
  replace hn := hn.keep k5
  replace hc := hc.keep k5
  clear k5
  go_wp2_with fail
  refine (num_any w5 19900 (by omega) (by omega)).mono ?_
  intro e w6 hG
  obtain ⟨bo6, bn6, zb6, rfl, hb', eb6, bb6, k6⟩ := hG.parts
  have Eb6 : Hid (val zb6 = 19900) := eb6
  replace hB := hB.trans k6
  replace ho := ho.keep k6
  replace hv := hv.keep k6
  replace hn := hn.keep k6
  replace hc := hc.keep k6
  clear k6 eb6 hG
  have hb := hb'
  clear hb'
  go_wp2_with fail
  refine (isZero_k w6 oo on zo (by omega) ho).mono ?_
  rintro e w7 ⟨rfl, k7⟩
  replace hB := hB.trans k7
  replace ho := ho.keep k7
  replace hv := hv.keep k7
  replace hn := hn.keep k7
  replace hc := hc.keep k7
  replace hb := hb.keep k7
  clear k7
  go_wp2_with fail
  refine (add_any w7 none bo6 0 bn6 [] zb6 (by omega) (by omega) (NatAt.zero w7) hb).mono ?_
  intro e w8 hG
  obtain ⟨po8, pn8, zp8, rfl, hp', ep8, bp8, k8⟩ := hG.parts
  have Ep8 : Hid (val zp8 = 19900) := by show _ = _; rw [ep8, Eb6.out]; rfl
  clear hb
  replace hB := hB.trans k8
  replace ho := ho.keep k8
  replace hv := hv.keep k8
  replace hn := hn.keep k8
  replace hc := hc.keep k8
  clear k8 ep8 hG
  have hp := hp'
  clear hp'
  go_wp2
  go_ret3
  exact ⟨co3, cn3, zc3, po8, pn8, zp8, none, 0, [], rfl, hc, Ec3.out, by omega, hp, Ep8.out, by omega, NatAt.zero w8, rfl, by omega, hB⟩

set_option maxHeartbeats 2000000 in
theorem sstore_oz_no_cold (w : World) (oo vo no : Option Addr) (on vn nn : Nat) (zo zv zn : List Int) (bo : on ≤ 1000) (bv : vn ≤ 1000) (bn : nn ≤ 1000) (ho : NatAt w oo on zo) (hv : NatAt w vo vn zv) (hn : NatAt w no nn zn) (t_same : (cmpZ (val zn) (val zv) == 0) = false) (t_first : (cmpZ (val zv) (val zo) == 0) = false) (t_oz : (val zo == 0) = true) (t_no : (cmpZ (val zn) (val zo) == 0) = true) :
    Calls Sacg.prog 15 #[.slice oo on on, .slice vo vn vn, .slice no nn nn, .bool true] w fun e w' => Sst3 w 2200 19900 0 e w' := by
  have hB : Kp w w := Kp.refl w
  go_enter Sacg.func15, Sacg.ntmps15
  go_wp2_with fail
  refine (cmp_k w no vo nn vn zn zv (by omega) (by omega) hn hv).mono ?_
  rintro e w1 ⟨rfl, k1⟩
  replace hB := hB.trans k1
  replace ho := ho.keep k1
  replace hv := hv.keep k1
  replace hn := hn.keep k1
  clear k1
  go_wp2_with fail
  refine (cmp_k w1 vo oo vn on zv zo (by omega) (by omega) hv ho).mono ?_
  rintro e w2 ⟨rfl, k2⟩
  replace hB := hB.trans k2
  replace ho := ho.keep k2
  replace hv := hv.keep k2
  replace hn := hn.keep k2
  clear k2
  go_wp2_with fail
  refine (num_any w2 100 (by omega) (by omega)).mono ?_
  intro e w3 hG
  obtain ⟨co3, cn3, zc3, rfl, hc', ec3, bc3, k3⟩ := hG.parts
  have Ec3 : Hid (val zc3 = 100) := ec3
  replace hB := hB.trans k3
  replace ho := ho.keep k3
  replace hv := hv.keep k3
  replace hn := hn.keep k3
  clear k3 ec3 hG
  have hc := hc'
  clear hc'
  go_wp2_with fail
  refine (num_any w3 2100 (by omega) (by omega)).mono ?_
  intro e w4 hG
  obtain ⟨to4, tn4, zt4, rfl, ht', et4, bt4, k4⟩ := hG.parts
  have Et4 : Hid (val zt4 = 2100) := et4
  replace hB := hB.trans k4
  replace ho := ho.keep k4
  replace hv := hv.keep k4
  replace hn := hn.keep k4
  replace hc := hc.keep k4
  clear k4 et4 hG
  have ht := ht'
  clear ht'
  go_wp2_with fail
  refine (add_any w4 co3 to4 cn3 tn4 zc3 zt4 (by omega) (by omega) hc ht).mono ?_
  intro e w5 hG
  obtain ⟨co5, cn5, zc5, rfl, hc', ec5, bc5, k5⟩ := hG.parts
  have Ec5 : Hid (val zc5 = 2200) := by show _ = _; rw [ec5, Ec3.out, Et4.out]; rfl
  clear hc
  clear ht
  replace hB := hB.trans k5
  replace ho := ho.keep k5
  replace hv := hv.keep k5
  replace hn := hn.keep k5
  clear k5 ec5 hG
  have hc := hc'
  clear hc'
  go_wp2_with fail
  refine (isZero_k w5 oo on zo (by omega) ho).mono ?_
  rintro e w6 ⟨rfl, k6⟩
  replace hB := hB.trans k6
  replace ho := ho.keep k6
  replace hv := hv.keep k6
  replace hn := hn.keep k6
  replace hc := hc.keep k6
  clear k6
  go_wp2_with fail
  refine (cmp_k w6 no oo nn on zn zo (by omega) (by omega) hn ho).mono ?_
  rintro e w7 ⟨rfl, k7⟩
  replace hB := hB.trans k7
  replace ho := ho.keep k7
  replace hv := hv.keep k7
  replace hn := hn.keep k7
  replace hc := hc.keep k7
  clear k7
  go_wp2_with fail
  refine (num_any w7 19900 (by omega) (by omega)).mono ?_
  intro e w8 hG
  obtain ⟨bo8, bn8, zb8, rfl, hb', eb8, bb8, k8⟩ := hG.parts
  have Eb8 : Hid (val zb8 = 19900) := eb8
  replace hB := hB.trans k8
  replace ho := ho.keep k8
  replace hv := hv.keep k8
  replace hn := hn.keep k8
  replace hc := hc.keep k8
  clear k8 eb8 hG
  have hb := hb'
  clear hb'
  go_wp2_with fail
  refine (isZero_k w8 oo on zo (by omega) ho).mono ?_
  rintro e w9 ⟨rfl, k9⟩
  replace hB := hB.trans k9
  replace ho := ho.keep k9
  replace hv := hv.keep k9
  replace hn := hn.keep k9
  replace hc := hc.keep k9
  replace hb := hb.keep k9
  clear k9
  go_wp2_with fail
  refine (add_any w9 none bo8 0 bn8 [] zb8 (by omega) (by omega) (NatAt.zero w9) hb).mono ?_
  intro e w10 hG
  obtain ⟨po10, pn10, zp10, rfl, hp', ep10, bp10, k10⟩ := hG.parts
  have Ep10 : Hid (val zp10 = 19900) := by show _ = _; rw [ep10, Eb8.out]; rfl
  clear hb
  replace hB := hB.trans k10
  replace ho := ho.keep k10
  replace hv := hv.keep k10
  replace hn := hn.keep k10
  replace hc := hc.keep k10
  clear k10 ep10 hG
  have hp := hp'
  clear hp'
  go_wp2
  go_ret3
  exact ⟨co5, cn5, zc5, po10, pn10, zp10, none, 0, [], rfl, hc, Ec5.out, by omega, hp, Ep10.out, by omega, NatAt.zero w10, rfl, by omega, hB⟩

set_option maxHeartbeats 2000000 in
theorem sstore_oz_else_warm (w : World) (oo vo no : Option Addr) (on vn nn : Nat) (zo zv zn : List Int) (bo : on ≤ 1000) (bv : vn ≤ 1000) (bn : nn ≤ 1000) (ho : NatAt w oo on zo) (hv : NatAt w vo vn zv) (hn : NatAt w no nn zn) (t_same : (cmpZ (val zn) (val zv) == 0) = false) (t_first : (cmpZ (val zv) (val zo) == 0) = false) (t_oz : (val zo == 0) = true) (t_no : (cmpZ (val zn) (val zo) == 0) = false) :
    Calls Sacg.prog 15 #[.slice oo on on, .slice vo vn vn, .slice no nn nn, .bool false] w fun e w' => Sst3 w 100 0 0 e w' := by
  have hB : Kp w w := Kp.refl w
  go_enter Sacg.func15, Sacg.ntmps15
  go_wp2_with fail
  refine (cmp_k w no vo nn vn zn zv (by omega) (by omega) hn hv).mono ?_
  rintro e w1 ⟨rfl, k1⟩
  replace hB := hB.trans k1
  replace ho := ho.keep k1
  replace hv := hv.keep k1
  replace hn := hn.keep k1
  clear k1
  go_wp2_with fail
  refine (cmp_k w1 vo oo vn on zv zo (by omega) (by omega) hv ho).mono ?_
  rintro e w2 ⟨rfl, k2⟩
  replace hB := hB.trans k2
  replace ho := ho.keep k2
  replace hv := hv.keep k2
  replace hn := hn.keep k2
  clear k2
  go_wp2_with fail
  refine (num_any w2 100 (by omega) (by omega)).mono ?_
  intro e w3 hG
  obtain ⟨co3, cn3, zc3, rfl, hc', ec3, bc3, k3⟩ := hG.parts
  have Ec3 : Hid (val zc3 = 100) := ec3
  replace hB := hB.trans k3
  replace ho := ho.keep k3
  replace hv := hv.keep k3
  replace hn := hn.keep k3
  clear k3 ec3 hG
  have hc := hc'
  clear hc'
  go_wp2_with fail
  refine (isZero_k w3 oo on zo (by omega) ho).mono ?_
  rintro e w4 ⟨rfl, k4⟩
  replace hB := hB.trans k4
  replace ho := ho.keep k4
  replace hv := hv.keep k4
  replace hn := hn.keep k4
  replace hc := hc.keep k4
  clear k4
  go_wp2_with fail
  refine (cmp_k w4 no oo nn on zn zo (by omega) (by omega) hn ho).mono ?_
  rintro e w5 ⟨rfl, k5⟩
  replace hB := hB.trans k5
  replace ho := ho.keep k5
  replace hv := hv.keep k5
  replace hn := hn.keep k5
  replace hc := hc.keep k5
  clear k5
  go_wp2
  go_ret3
  exact ⟨co3, cn3, zc3, none, 0, [], none, 0, [], rfl, hc, Ec3.out, by omega, NatAt.zero w5, rfl, by omega, NatAt.zero w5, rfl, by omega, hB⟩

set_option maxHeartbeats 2000000 in
theorem sstore_oz_else_cold (w : World) (oo vo no : Option Addr) (on vn nn : Nat) (zo zv zn : List Int) (bo : on ≤ 1000) (bv : vn ≤ 1000) (bn : nn ≤ 1000) (ho : NatAt w oo on zo) (hv : NatAt w vo vn zv) (hn : NatAt w no nn zn) (t_same : (cmpZ (val zn) (val zv) == 0) = false) (t_first : (cmpZ (val zv) (val zo) == 0) = false) (t_oz : (val zo == 0) = true) (t_no : (cmpZ (val zn) (val zo) == 0) = false) :
    Calls Sacg.prog 15 #[.slice oo on on, .slice vo vn vn, .slice no nn nn, .bool true] w fun e w' => Sst3 w 2200 0 0 e w' := by
  have hB : Kp w w := Kp.refl w
  go_enter Sacg.func15, Sacg.ntmps15
  go_wp2_with fail
  refine (cmp_k w no vo nn vn zn zv (by omega) (by omega) hn hv).mono ?_
  rintro e w1 ⟨rfl, k1⟩
  replace hB := hB.trans k1
  replace ho := ho.keep k1
  replace hv := hv.keep k1
  replace hn := hn.keep k1
  clear k1
  go_wp2_with fail
  refine (cmp_k w1 vo oo vn on zv zo (by omega) (by omega) hv ho).mono ?_
  rintro e w2 ⟨rfl, k2⟩
  replace hB := hB.trans k2
  replace ho := ho.keep k2
  replace hv := hv.keep k2
  replace hn := hn.keep k2
  clear k2
  go_wp2_with fail
  refine (num_any w2 100 (by omega) (by omega)).mono ?_
  intro e w3 hG
  obtain ⟨co3, cn3, zc3, rfl, hc', ec3, bc3, k3⟩ := hG.parts
  have Ec3 : Hid (val zc3 = 100) := ec3
  replace hB := hB.trans k3
  replace ho := ho.keep k3
  replace hv := hv.keep k3
  replace hn := hn.keep k3
  clear k3 ec3 hG
  have hc := hc'
  clear hc'
  go_wp2_with fail
  refine (num_any w3 2100 (by omega) (by omega)).mono ?_
  intro e w4 hG
  obtain ⟨to4, tn4, zt4, rfl, ht', et4, bt4, k4⟩ := hG.parts
  have Et4 : Hid (val zt4 = 2100) := et4
  replace hB := hB.trans k4
  replace ho := ho.keep k4
  replace hv := hv.keep k4
  replace hn := hn.keep k4
  replace hc := hc.keep k4
  clear k4 et4 hG
  have ht := ht'
  clear ht'
  go_wp2_with fail
  refine (add_any w4 co3 to4 cn3 tn4 zc3 zt4 (by omega) (by omega) hc ht).mono ?_
  intro e w5 hG
  obtain ⟨co5, cn5, zc5, rfl, hc', ec5, bc5, k5⟩ := hG.parts
  have Ec5 : Hid (val zc5 = 2200) := by show _ = _; rw [ec5, Ec3.out, Et4.out]; rfl
  clear hc
  clear ht
  replace hB := hB.trans k5
  replace ho := ho.keep k5
  replace hv := hv.keep k5
  replace hn := hn.keep k5
  clear k5 ec5 hG
  have hc := hc'
  clear hc'
  go_wp2_with fail
  refine (isZero_k w5 oo on zo (by omega) ho).mono ?_
  rintro e w6 ⟨rfl, k6⟩
  replace hB := hB.trans k6
  replace ho := ho.keep k6
  replace hv := hv.keep k6
  replace hn := hn.keep k6
  replace hc := hc.keep k6
  clear k6
  go_wp2_with fail
  refine (cmp_k w6 no oo nn on zn zo (by omega) (by omega) hn ho).mono ?_
  rintro e w7 ⟨rfl, k7⟩
  replace hB := hB.trans k7
  replace ho := ho.keep k7
  replace hv := hv.keep k7
  replace hn := hn.keep k7
  replace hc := hc.keep k7
  clear k7
  go_wp2
  go_ret3
  exact ⟨co5, cn5, zc5, none, 0, [], none, 0, [], rfl, hc, Ec5.out, by omega, NatAt.zero w7, rfl, by omega, NatAt.zero w7, rfl, by omega, hB⟩

set_option maxHeartbeats 2000000 in
theorem sstore_vz_no_warm (w : World) (oo vo no : Option Addr) (on vn nn : Nat) (zo zv zn : List Int) (bo : on ≤ 1000) (bv : vn ≤ 1000) (bn : nn ≤ 1000) (ho : NatAt w oo on zo) (hv : NatAt w vo vn zv) (hn : NatAt w no nn zn) (t_same : (cmpZ (val zn) (val zv) == 0) = false) (t_first : (cmpZ (val zv) (val zo) == 0) = false) (t_oz : (val zo == 0) = false) (t_vz : (val zv == 0) = true) (t_no : (cmpZ (val zn) (val zo) == 0) = true) :
    Calls Sacg.prog 15 #[.slice oo on on, .slice vo vn vn, .slice no nn nn, .bool false] w fun e w' => Sst3 w 100 2800 4800 e w' := by
  have hB : Kp w w := Kp.refl w
  go_enter Sacg.func15, Sacg.ntmps15
  go_wp2_with fail
  refine (cmp_k w no vo nn vn zn zv (by omega) (by omega) hn hv).mono ?_
  rintro e w1 ⟨rfl, k1⟩
  replace hB := hB.trans k1
  replace ho := ho.keep k1
  replace hv := hv.keep k1
  replace hn := hn.keep k1
  clear k1
  go_wp2_with fail
  refine (cmp_k w1 vo oo vn on zv zo (by omega) (by omega) hv ho).mono ?_
  rintro e w2 ⟨rfl, k2⟩
  replace hB := hB.trans k2
  replace ho := ho.keep k2
  replace hv := hv.keep k2
  replace hn := hn.keep k2
  clear k2
  go_wp2_with fail
  refine (num_any w2 100 (by omega) (by omega)).mono ?_
  intro e w3 hG
  obtain ⟨co3, cn3, zc3, rfl, hc', ec3, bc3, k3⟩ := hG.parts
  have Ec3 : Hid (val zc3 = 100) := ec3
  replace hB := hB.trans k3
  replace ho := ho.keep k3
  replace hv := hv.keep k3
  replace hn := hn.keep k3
  clear k3 ec3 hG
  have hc := hc'
  clear hc'
  go_wp2_with fail
  refine (isZero_k w3 oo on zo (by omega) ho).mono ?_
  rintro e w4 ⟨rfl, k4⟩
  replace hB := hB.trans k4
  replace ho := ho.keep k4
  replace hv := hv.keep k4
  replace hn := hn.keep k4
  replace hc := hc.keep k4
  clear k4
  go_wp2_with fail
  refine (isZero_k w4 vo vn zv (by omega) hv).mono ?_
  rintro e w5 ⟨rfl, k5⟩
  replace hB := hB.trans k5
  replace ho := ho.keep k5
  replace hv := hv.keep k5
  replace hn := hn.keep k5
  replace hc := hc.keep k5
  clear k5
  go_wp2_with fail
  refine (num_any w5 4800 (by omega) (by omega)).mono ?_
  intro e w6 hG
  obtain ⟨mo6, mn6, zm6, rfl, hm', em6, bm6, k6⟩ := hG.parts
  have Em6 : Hid (val zm6 = 4800) := em6
  replace hB := hB.trans k6
  replace ho := ho.keep k6
  replace hv := hv.keep k6
  replace hn := hn.keep k6
  replace hc := hc.keep k6
  clear k6 em6 hG
  have hm := hm'
  clear hm'
  go_wp2_with fail
  refine (cmp_k w6 no oo nn on zn zo (by omega) (by omega) hn ho).mono ?_
  rintro e w7 ⟨rfl, k7⟩
  replace hB := hB.trans k7
  replace ho := ho.keep k7
  replace hv := hv.keep k7
  replace hn := hn.keep k7
  replace hc := hc.keep k7
  replace hm := hm.keep k7
  clear k7
  go_wp2_with fail
  refine (num_any w7 19900 (by omega) (by omega)).mono ?_
  intro e w8 hG
  obtain ⟨bo8, bn8, zb8, rfl, hb', eb8, bb8, k8⟩ := hG.parts
  have Eb8 : Hid (val zb8 = 19900) := eb8
  replace hB := hB.trans k8
  replace ho := ho.keep k8
  replace hv := hv.keep k8
  replace hn := hn.keep k8
  replace hc := hc.keep k8
  replace hm := hm.keep k8
  clear k8 eb8 hG
  have hb := hb'
  clear hb'
  go_wp2_with fail
  refine (isZero_k w8 oo on zo (by omega) ho).mono ?_
  rintro e w9 ⟨rfl, k9⟩
  replace hB := hB.trans k9
  replace ho := ho.keep k9
  replace hv := hv.keep k9
  replace hn := hn.keep k9
  replace hc := hc.keep k9
  replace hm := hm.keep k9
  replace hb := hb.keep k9
  clear k9
  go_wp2_with fail
  refine (num_any w9 2800 (by omega) (by omega)).mono ?_
  intro e w10 hG
  obtain ⟨bo10, bn10, zb10, rfl, hb', eb10, bb10, k10⟩ := hG.parts
  have Eb10 : Hid (val zb10 = 2800) := eb10
  clear hb
  replace hB := hB.trans k10
  replace ho := ho.keep k10
  replace hv := hv.keep k10
  replace hn := hn.keep k10
  replace hc := hc.keep k10
  replace hm := hm.keep k10
  clear k10 eb10 hG
  have hb := hb'
  clear hb'
  go_wp2_with fail
  refine (add_any w10 none bo10 0 bn10 [] zb10 (by omega) (by omega) (NatAt.zero w10) hb).mono ?_
  intro e w11 hG
  obtain ⟨po11, pn11, zp11, rfl, hp', ep11, bp11, k11⟩ := hG.parts
  have Ep11 : Hid (val zp11 = 2800) := by show _ = _; rw [ep11, Eb10.out]; rfl
  clear hb
  replace hB := hB.trans k11
  replace ho := ho.keep k11
  replace hv := hv.keep k11
  replace hn := hn.keep k11
  replace hc := hc.keep k11
  replace hm := hm.keep k11
  clear k11 ep11 hG
  have hp := hp'
  clear hp'
  go_wp2
  go_ret3
  exact ⟨co3, cn3, zc3, po11, pn11, zp11, mo6, mn6, zm6, rfl, hc, Ec3.out, by omega, hp, Ep11.out, by omega, hm, Em6.out, by omega, hB⟩

set_option maxHeartbeats 2000000 in
theorem sstore_vz_no_cold (w : World) (oo vo no : Option Addr) (on vn nn : Nat) (zo zv zn : List Int) (bo : on ≤ 1000) (bv : vn ≤ 1000) (bn : nn ≤ 1000) (ho : NatAt w oo on zo) (hv : NatAt w vo vn zv) (hn : NatAt w no nn zn) (t_same : (cmpZ (val zn) (val zv) == 0) = false) (t_first : (cmpZ (val zv) (val zo) == 0) = false) (t_oz : (val zo == 0) = false) (t_vz : (val zv == 0) = true) (t_no : (cmpZ (val zn) (val zo) == 0) = true) :
    Calls Sacg.prog 15 #[.slice oo on on, .slice vo vn vn, .slice no nn nn, .bool true] w fun e w' => Sst3 w 2200 2800 4800 e w' := by
  have hB : Kp w w := Kp.refl w
  go_enter Sacg.func15, Sacg.ntmps15
  go_wp2_with fail
  refine (cmp_k w no vo nn vn zn zv (by omega) (by omega) hn hv).mono ?_
  rintro e w1 ⟨rfl, k1⟩
  replace hB := hB.trans k1
  replace ho := ho.keep k1
  replace hv := hv.keep k1
  replace hn := hn.keep k1
  clear k1
  go_wp2_with fail
  refine (cmp_k w1 vo oo vn on zv zo (by omega) (by omega) hv ho).mono ?_
  rintro e w2 ⟨rfl, k2⟩
  replace hB := hB.trans k2
  replace ho := ho.keep k2
  replace hv := hv.keep k2
  replace hn := hn.keep k2
  clear k2
  go_wp2_with fail
  refine (num_any w2 100 (by omega) (by omega)).mono ?_
  intro e w3 hG
  obtain ⟨co3, cn3, zc3, rfl, hc', ec3, bc3, k3⟩ := hG.parts
  have Ec3 : Hid (val zc3 = 100) := ec3
  replace hB := hB.trans k3
  replace ho := ho.keep k3
  replace hv := hv.keep k3
  replace hn := hn.keep k3
  clear k3 ec3 hG
  have hc := hc'
  clear hc'
  go_wp2_with fail
  refine (num_any w3 2100 (by omega) (by omega)).mono ?_
  intro e w4 hG
  obtain ⟨to4, tn4, zt4, rfl, ht', et4, bt4, k4⟩ := hG.parts
  have Et4 : Hid (val zt4 = 2100) := et4
  replace hB := hB.trans k4
  replace ho := ho.keep k4
  replace hv := hv.keep k4
  replace hn := hn.keep k4
  replace hc := hc.keep k4
  clear k4 et4 hG
  have ht := ht'
  clear ht'
  go_wp2_with fail
  refine (add_any w4 co3 to4 cn3 tn4 zc3 zt4 (by omega) (by omega) hc ht).mono ?_
  intro e w5 hG
  obtain ⟨co5, cn5, zc5, rfl, hc', ec5, bc5, k5⟩ := hG.parts
  have Ec5 : Hid (val zc5 = 2200) := by show _ = _; rw [ec5, Ec3.out, Et4.out]; rfl
  clear hc
  clear ht
  replace hB := hB.trans k5
  replace ho := ho.keep k5
  replace hv := hv.keep k5
  replace hn := hn.keep k5
  clear k5 ec5 hG
  have hc := hc'
  clear hc'
  go_wp2_with fail
  refine (isZero_k w5 oo on zo (by omega) ho).mono ?_
  rintro e w6 ⟨rfl, k6⟩
  replace hB := hB.trans k6
  replace ho := ho.keep k6
  replace hv := hv.keep k6
  replace hn := hn.keep k6
  replace hc := hc.keep k6
  clear k6
  go_wp2_with fail
  refine (isZero_k w6 vo vn zv (by omega) hv).mono ?_
  rintro e w7 ⟨rfl, k7⟩
  replace hB := hB.trans k7
  replace ho := ho.keep k7
  replace hv := hv.keep k7
  replace hn := hn.keep k7
  replace hc := hc.keep k7
  clear k7
  go_wp2_with fail
  refine (num_any w7 4800 (by omega) (by omega)).mono ?_
  intro e w8 hG
  obtain ⟨mo8, mn8, zm8, rfl, hm', em8, bm8, k8⟩ := hG.parts
  have Em8 : Hid (val zm8 = 4800) := em8
  replace hB := hB.trans k8
  replace ho := ho.keep k8
  replace hv := hv.keep k8
  replace hn := hn.keep k8
  replace hc := hc.keep k8
  clear k8 em8 hG
  have hm := hm'
  clear hm'
  go_wp2_with fail
  refine (cmp_k w8 no oo nn on zn zo (by omega) (by omega) hn ho).mono ?_
  rintro e w9 ⟨rfl, k9⟩
  replace hB := hB.trans k9
  replace ho := ho.keep k9
  replace hv := hv.keep k9
  replace hn := hn.keep k9
  replace hc := hc.keep k9
  replace hm := hm.keep k9
  clear k9
  go_wp2_with fail
  refine (num_any w9 19900 (by omega) (by omega)).mono ?_
  intro e w10 hG
  obtain ⟨bo10, bn10, zb10, rfl, hb', eb10, bb10, k10⟩ := hG.parts
  have Eb10 : Hid (val zb10 = 19900) := eb10
  replace hB := hB.trans k10
  replace ho := ho.keep k10
  replace hv := hv.keep k10
  replace hn := hn.keep k10
  replace hc := hc.keep k10
  replace hm := hm.keep k10
  clear k10 eb10 hG
  have hb := hb'
  clear hb'
  go_wp2_with fail
  refine (isZero_k w10 oo on zo (by omega) ho).mono ?_
  rintro e w11 ⟨rfl, k11⟩
  replace hB := hB.trans k11
  replace ho := ho.keep k11
  replace hv := hv.keep k11
  replace hn := hn.keep k11
  replace hc := hc.keep k11
  replace hm := hm.keep k11
  replace hb := hb.keep k11
  clear k11
  go_wp2_with fail
  refine (num_any w11 2800 (by omega) (by omega)).mono ?_
  intro e w12 hG
  obtain ⟨bo12, bn12, zb12, rfl, hb', eb12, bb12, k12⟩ := hG.parts
  have Eb12 : Hid (val zb12 = 2800) := eb12
  clear hb
  replace hB := hB.trans k12
  replace ho := ho.keep k12
  replace hv := hv.keep k12
  replace hn := hn.keep k12
  replace hc := hc.keep k12
  replace hm := hm.keep k12
  clear k12 eb12 hG
  have hb := hb'
  clear hb'
  go_wp2_with fail
  refine (add_any w12 none bo12 0 bn12 [] zb12 (by omega) (by omega) (NatAt.zero w12) hb).mono ?_
  intro e w13 hG
  obtain ⟨po13, pn13, zp13, rfl, hp', ep13, bp13, k13⟩ := hG.parts
  have Ep13 : Hid (val zp13 = 2800) := by show _ = _; rw [ep13, Eb12.out]; rfl
  clear hb
  replace hB := hB.trans k13
  replace ho := ho.keep k13
  replace hv := hv.keep k13
  replace hn := hn.keep k13
  replace hc := hc.keep k13
  replace hm := hm.keep k13
  clear k13 ep13 hG
  have hp := hp'
  clear hp'
  go_wp2
  go_ret3
  exact ⟨co5, cn5, zc5, po13, pn13, zp13, mo8, mn8, zm8, rfl, hc, Ec5.out, by omega, hp, Ep13.out, by omega, hm, Em8.out, by omega, hB⟩

set_option maxHeartbeats 2000000 in
theorem sstore_vz_else_warm (w : World) (oo vo no : Option Addr) (on vn nn : Nat) (zo zv zn : List Int) (bo : on ≤ 1000) (bv : vn ≤ 1000) (bn : nn ≤ 1000) (ho : NatAt w oo on zo) (hv : NatAt w vo vn zv) (hn : NatAt w no nn zn) (t_same : (cmpZ (val zn) (val zv) == 0) = false) (t_first : (cmpZ (val zv) (val zo) == 0) = false) (t_oz : (val zo == 0) = false) (t_vz : (val zv == 0) = true) (t_no : (cmpZ (val zn) (val zo) == 0) = false) :
    Calls Sacg.prog 15 #[.slice oo on on, .slice vo vn vn, .slice no nn nn, .bool false] w fun e w' => Sst3 w 100 0 4800 e w' := by
  have hB : Kp w w := Kp.refl w
  go_enter Sacg.func15, Sacg.ntmps15
  go_wp2_with fail
  refine (cmp_k w no vo nn vn zn zv (by omega) (by omega) hn hv).mono ?_
  rintro e w1 ⟨rfl, k1⟩
  replace hB := hB.trans k1
  replace ho := ho.keep k1
  replace hv := hv.keep k1
  replace hn := hn.keep k1
  clear k1
  go_wp2_with fail
  refine (cmp_k w1 vo oo vn on zv zo (by omega) (by omega) hv ho).mono ?_
  rintro e w2 ⟨rfl, k2⟩
  replace hB := hB.trans k2
  replace ho := ho.keep k2
  replace hv := hv.keep k2
  replace hn := hn.keep k2
  clear k2
  go_wp2_with fail
  refine (num_any w2 100 (by omega) (by omega)).mono ?_
  intro e w3 hG
  obtain ⟨co3, cn3, zc3, rfl, hc', ec3, bc3, k3⟩ := hG.parts
  have Ec3 : Hid (val zc3 = 100) := ec3
  replace hB := hB.trans k3
  replace ho := ho.keep k3
  replace hv := hv.keep k3
  replace hn := hn.keep k3
  clear k3 ec3 hG
  have hc := hc'
  clear hc'
  go_wp2_with fail
  refine (isZero_k w3 oo on zo (by omega) ho).mono ?_
  rintro e w4 ⟨rfl, k4⟩
  replace hB := hB.trans k4
  replace ho := ho.keep k4
  replace hv := hv.keep k4
  replace hn := hn.keep k4
  replace hc := hc.keep k4
  clear k4
  go_wp2_with fail
  refine (isZero_k w4 vo vn zv (by omega) hv).mono ?_
  rintro e w5 ⟨rfl, k5⟩
  replace hB := hB.trans k5
  replace ho := ho.keep k5
  replace hv := hv.keep k5
  replace hn := hn.keep k5
  replace hc := hc.keep k5
  clear k5
  go_wp2_with fail
  refine (num_any w5 4800 (by omega) (by omega)).mono ?_
  intro e w6 hG
  obtain ⟨mo6, mn6, zm6, rfl, hm', em6, bm6, k6⟩ := hG.parts
  have Em6 : Hid (val zm6 = 4800) := em6
  replace hB := hB.trans k6
  replace ho := ho.keep k6
  replace hv := hv.keep k6
  replace hn := hn.keep k6
  replace hc := hc.keep k6
  clear k6 em6 hG
  have hm := hm'
  clear hm'
  go_wp2_with fail
  refine (cmp_k w6 no oo nn on zn zo (by omega) (by omega) hn ho).mono ?_
  rintro e w7 ⟨rfl, k7⟩
  replace hB := hB.trans k7
  replace ho := ho.keep k7
  replace hv := hv.keep k7
  replace hn := hn.keep k7
  replace hc := hc.keep k7
  replace hm := hm.keep k7
  clear k7
  go_wp2
  go_ret3
  exact ⟨co3, cn3, zc3, none, 0, [], mo6, mn6, zm6, rfl, hc, Ec3.out, by omega, NatAt.zero w7, rfl, by omega, hm, Em6.out, by omega, hB⟩

set_option maxHeartbeats 2000000 in
theorem sstore_vz_else_cold (w : World) (oo vo no : Option Addr) (on vn nn : Nat) (zo zv zn : List Int) (bo : on ≤ 1000) (bv : vn ≤ 1000) (bn : nn ≤ 1000) (ho : NatAt w oo on zo) (hv : NatAt w vo vn zv) (hn : NatAt w no nn zn) (t_same : (cmpZ (val zn) (val zv) == 0) = false) (t_first : (cmpZ (val zv) (val zo) == 0) = false) (t_oz : (val zo == 0) = false) (t_vz : (val zv == 0) = true) (t_no : (cmpZ (val zn) (val zo) == 0) = false) :
    Calls Sacg.prog 15 #[.slice oo on on, .slice vo vn vn, .slice no nn nn, .bool true] w fun e w' => Sst3 w 2200 0 4800 e w' := by
  have hB : Kp w w := Kp.refl w
  go_enter Sacg.func15, Sacg.ntmps15
  go_wp2_with fail
  refine (cmp_k w no vo nn vn zn zv (by omega) (by omega) hn hv).mono ?_
  rintro e w1 ⟨rfl, k1⟩
  replace hB := hB.trans k1
  replace ho := ho.keep k1
  replace hv := hv.keep k1
  replace hn := hn.keep k1
  clear k1
  go_wp2_with fail
  refine (cmp_k w1 vo oo vn on zv zo (by omega) (by omega) hv ho).mono ?_
  rintro e w2 ⟨rfl, k2⟩
  replace hB := hB.trans k2
  replace ho := ho.keep k2
  replace hv := hv.keep k2
  replace hn := hn.keep k2
  clear k2
  go_wp2_with fail
  refine (num_any w2 100 (by omega) (by omega)).mono ?_
  intro e w3 hG
  obtain ⟨co3, cn3, zc3, rfl, hc', ec3, bc3, k3⟩ := hG.parts
  have Ec3 : Hid (val zc3 = 100) := ec3
  replace hB := hB.trans k3
  replace ho := ho.keep k3
  replace hv := hv.keep k3
  replace hn := hn.keep k3
  clear k3 ec3 hG
  have hc := hc'
  clear hc'
  go_wp2_with fail
  refine (num_any w3 2100 (by omega) (by omega)).mono ?_
  intro e w4 hG
  obtain ⟨to4, tn4, zt4, rfl, ht', et4, bt4, k4⟩ := hG.parts
  have Et4 : Hid (val zt4 = 2100) := et4
  replace hB := hB.trans k4
  replace ho := ho.keep k4
  replace hv := hv.keep k4
  replace hn := hn.keep k4
  replace hc := hc.keep k4
  clear k4 et4 hG
  have ht := ht'
  clear ht'
  go_wp2_with fail
  refine (add_any w4 co3 to4 cn3 tn4 zc3 zt4 (by omega) (by omega) hc ht).mono ?_
  intro e w5 hG
  obtain ⟨co5, cn5, zc5, rfl, hc', ec5, bc5, k5⟩ := hG.parts
  have Ec5 : Hid (val zc5 = 2200) := by show _ = _; rw [ec5, Ec3.out, Et4.out]; rfl
  clear hc
  clear ht
  replace hB := hB.trans k5
  replace ho := ho.keep k5
  replace hv := hv.keep k5
  replace hn := hn.keep k5
  clear k5 ec5 hG
  have hc := hc'
  clear hc'
  go_wp2_with fail
  refine (isZero_k w5 oo on zo (by omega) ho).mono ?_
  rintro e w6 ⟨rfl, k6⟩
  replace hB := hB.trans k6
  replace ho := ho.keep k6
  replace hv := hv.keep k6
  replace hn := hn.keep k6
  replace hc := hc.keep k6
  clear k6
  go_wp2_with fail
  refine (isZero_k w6 vo vn zv (by omega) hv).mono ?_
  rintro e w7 ⟨rfl, k7⟩
  replace hB := hB.trans k7
  replace ho := ho.keep k7
  replace hv := hv.keep k7
  replace hn := hn.keep k7
  replace hc := hc.keep k7
  clear k7
  go_wp2_with fail
  refine (num_any w7 4800 (by omega) (by omega)).mono ?_
  intro e w8 hG
  obtain ⟨mo8, mn8, zm8, rfl, hm', em8, bm8, k8⟩ := hG.parts
  have Em8 : Hid (val zm8 = 4800) := em8
  replace hB := hB.trans k8
  replace ho := ho.keep k8
  replace hv := hv.keep k8
  replace hn := hn.keep k8
  replace hc := hc.keep k8
  clear k8 em8 hG
  have hm := hm'
  clear hm'
  go_wp2_with fail
  refine (cmp_k w8 no oo nn on zn zo (by omega) (by omega) hn ho).mono ?_
  rintro e w9 ⟨rfl, k9⟩
  replace hB := hB.trans k9
  replace ho := ho.keep k9
  replace hv := hv.keep k9
  replace hn := hn.keep k9
  replace hc := hc.keep k9
  replace hm := hm.keep k9
  clear k9
  go_wp2
  go_ret3
  exact ⟨co5, cn5, zc5, none, 0, [], mo8, mn8, zm8, rfl, hc, Ec5.out, by omega, NatAt.zero w9, rfl, by omega, hm, Em8.out, by omega, hB⟩

set_option maxHeartbeats 2000000 in
theorem sstore_nz_warm (w : World) (oo vo no : Option Addr) (on vn nn : Nat) (zo zv zn : List Int) (bo : on ≤ 1000) (bv : vn ≤ 1000) (bn : nn ≤ 1000) (ho : NatAt w oo on zo) (hv : NatAt w vo vn zv) (hn : NatAt w no nn zn) (t_same : (cmpZ (val zn) (val zv) == 0) = false) (t_first : (cmpZ (val zv) (val zo) == 0) = false) (t_oz : (val zo == 0) = false) (t_vz : (val zv == 0) = false) (t_nz : (val zn == 0) = true) (t_no : (cmpZ (val zn) (val zo) == 0) = false) :
    Calls Sacg.prog 15 #[.slice oo on on, .slice vo vn vn, .slice no nn nn, .bool false] w fun e w' => Sst3 w 100 4800 0 e w' := by
  have hB : Kp w w := Kp.refl w
  go_enter Sacg.func15, Sacg.ntmps15
  go_wp2_with fail
  refine (cmp_k w no vo nn vn zn zv (by omega) (by omega) hn hv).mono ?_
  rintro e w1 ⟨rfl, k1⟩
  replace hB := hB.trans k1
  replace ho := ho.keep k1
  replace hv := hv.keep k1
  replace hn := hn.keep k1
  clear k1
  go_wp2_with fail
  refine (cmp_k w1 vo oo vn on zv zo (by omega) (by omega) hv ho).mono ?_
  rintro e w2 ⟨rfl, k2⟩
  replace hB := hB.trans k2
  replace ho := ho.keep k2
  replace hv := hv.keep k2
  replace hn := hn.keep k2
  clear k2
  go_wp2_with fail
  refine (num_any w2 100 (by omega) (by omega)).mono ?_
  intro e w3 hG
  obtain ⟨co3, cn3, zc3, rfl, hc', ec3, bc3, k3⟩ := hG.parts
  have Ec3 : Hid (val zc3 = 100) := ec3
  replace hB := hB.trans k3
  replace ho := ho.keep k3
  replace hv := hv.keep k3
  replace hn := hn.keep k3
  clear k3 ec3 hG
  have hc := hc'
  clear hc'
  go_wp2_with fail
  refine (isZero_k w3 oo on zo (by omega) ho).mono ?_
  rintro e w4 ⟨rfl, k4⟩
  replace hB := hB.trans k4
  replace ho := ho.keep k4
  replace hv := hv.keep k4
  replace hn := hn.keep k4
  replace hc := hc.keep k4
  clear k4
  go_wp2_with fail
  refine (isZero_k w4 vo vn zv (by omega) hv).mono ?_
  rintro e w5 ⟨rfl, k5⟩
  replace hB := hB.trans k5
  replace ho := ho.keep k5
  replace hv := hv.keep k5
  replace hn := hn.keep k5
  replace hc := hc.keep k5
  clear k5
  go_wp2_with fail
  refine (isZero_k w5 no nn zn (by omega) hn).mono ?_
  rintro e w6 ⟨rfl, k6⟩
  replace hB := hB.trans k6
  replace ho := ho.keep k6
  replace hv := hv.keep k6
  replace hn := hn.keep k6
  replace hc := hc.keep k6
  clear k6
  go_wp2_with fail
  refine (num_any w6 4800 (by omega) (by omega)).mono ?_
  intro e w7 hG
  obtain ⟨po7, pn7, zp7, rfl, hp', ep7, bp7, k7⟩ := hG.parts
  have Ep7 : Hid (val zp7 = 4800) := ep7
  replace hB := hB.trans k7
  replace ho := ho.keep k7
  replace hv := hv.keep k7
  replace hn := hn.keep k7
  replace hc := hc.keep k7
  clear k7 ep7 hG
  have hp := hp'
  clear hp'
  go_wp2_with fail
  refine (cmp_k w7 no oo nn on zn zo (by omega) (by omega) hn ho).mono ?_
  rintro e w8 ⟨rfl, k8⟩
  replace hB := hB.trans k8
  replace ho := ho.keep k8
  replace hv := hv.keep k8
  replace hn := hn.keep k8
  replace hc := hc.keep k8
  replace hp := hp.keep k8
  clear k8
  go_wp2
  go_ret3
  exact ⟨co3, cn3, zc3, po7, pn7, zp7, none, 0, [], rfl, hc, Ec3.out, by omega, hp, Ep7.out, by omega, NatAt.zero w8, rfl, by omega, hB⟩

set_option maxHeartbeats 2000000 in
theorem sstore_nz_cold (w : World) (oo vo no : Option Addr) (on vn nn : Nat) (zo zv zn : List Int) (bo : on ≤ 1000) (bv : vn ≤ 1000) (bn : nn ≤ 1000) (ho : NatAt w oo on zo) (hv : NatAt w vo vn zv) (hn : NatAt w no nn zn) (t_same : (cmpZ (val zn) (val zv) == 0) = false) (t_first : (cmpZ (val zv) (val zo) == 0) = false) (t_oz : (val zo == 0) = false) (t_vz : (val zv == 0) = false) (t_nz : (val zn == 0) = true) (t_no : (cmpZ (val zn) (val zo) == 0) = false) :
    Calls Sacg.prog 15 #[.slice oo on on, .slice vo vn vn, .slice no nn nn, .bool true] w fun e w' => Sst3 w 2200 4800 0 e w' := by
  have hB : Kp w w := Kp.refl w
  go_enter Sacg.func15, Sacg.ntmps15
  go_wp2_with fail
  refine (cmp_k w no vo nn vn zn zv (by omega) (by omega) hn hv).mono ?_
  rintro e w1 ⟨rfl, k1⟩
  replace hB := hB.trans k1
  replace ho := ho.keep k1
  replace hv := hv.keep k1
  replace hn := hn.keep k1
  clear k1
  go_wp2_with fail
  refine (cmp_k w1 vo oo vn on zv zo (by omega) (by omega) hv ho).mono ?_
  rintro e w2 ⟨rfl, k2⟩
  replace hB := hB.trans k2
  replace ho := ho.keep k2
  replace hv := hv.keep k2
  replace hn := hn.keep k2
  clear k2
  go_wp2_with fail
  refine (num_any w2 100 (by omega) (by omega)).mono ?_
  intro e w3 hG
  obtain ⟨co3, cn3, zc3, rfl, hc', ec3, bc3, k3⟩ := hG.parts
  have Ec3 : Hid (val zc3 = 100) := ec3
  replace hB := hB.trans k3
  replace ho := ho.keep k3
  replace hv := hv.keep k3
  replace hn := hn.keep k3
  clear k3 ec3 hG
  have hc := hc'
  clear hc'
  go_wp2_with fail
  refine (num_any w3 2100 (by omega) (by omega)).mono ?_
  intro e w4 hG
  obtain ⟨to4, tn4, zt4, rfl, ht', et4, bt4, k4⟩ := hG.parts
  have Et4 : Hid (val zt4 = 2100) := et4
  replace hB := hB.trans k4
  replace ho := ho.keep k4
  replace hv := hv.keep k4
  replace hn := hn.keep k4
  replace hc := hc.keep k4
  clear k4 et4 hG
  have ht := ht'
  clear ht'
  go_wp2_with fail
  refine (add_any w4 co3 to4 cn3 tn4 zc3 zt4 (by omega) (by omega) hc ht).mono ?_
  intro e w5 hG
  obtain ⟨co5, cn5, zc5, rfl, hc', ec5, bc5, k5⟩ := hG.parts
  have Ec5 : Hid (val zc5 = 2200) := by show _ = _; rw [ec5, Ec3.out, Et4.out]; rfl
  clear hc
  clear ht
  replace hB := hB.trans k5
  replace ho := ho.keep k5
  replace hv := hv.keep k5
  replace hn := hn.keep k5
  clear k5 ec5 hG
  have hc := hc'
  clear hc'
  go_wp2_with fail
  refine (isZero_k w5 oo on zo (by omega) ho).mono ?_
  rintro e w6 ⟨rfl, k6⟩
  replace hB := hB.trans k6
  replace ho := ho.keep k6
  replace hv := hv.keep k6
  replace hn := hn.keep k6
  replace hc := hc.keep k6
  clear k6
  go_wp2_with fail
  refine (isZero_k w6 vo vn zv (by omega) hv).mono ?_
  rintro e w7 ⟨rfl, k7⟩
  replace hB := hB.trans k7
  replace ho := ho.keep k7
  replace hv := hv.keep k7
  replace hn := hn.keep k7
  replace hc := hc.keep k7
  clear k7
  go_wp2_with fail
  refine (isZero_k w7 no nn zn (by omega) hn).mono ?_
  rintro e w8 ⟨rfl, k8⟩
  replace hB := hB.trans k8
  replace ho := ho.keep k8
  replace hv := hv.keep k8
  replace hn := hn.keep k8
  replace hc := hc.keep k8
  clear k8
  go_wp2_with fail
  refine (num_any w8 4800 (by omega) (by omega)).mono ?_
  intro e w9 hG
  obtain ⟨po9, pn9, zp9, rfl, hp', ep9, bp9, k9⟩ := hG.parts
  have Ep9 : Hid (val zp9 = 4800) := ep9
  replace hB := hB.trans k9
  replace ho := ho.keep k9
  replace hv := hv.keep k9
  replace hn := hn.keep k9
  replace hc := hc.keep k9
  clear k9 ep9 hG
  have hp := hp'
  clear hp'
  go_wp2_with fail
  refine (cmp_k w9 no oo nn on zn zo (by omega) (by omega) hn ho).mono ?_
  rintro e w10 ⟨rfl, k10⟩
  replace hB := hB.trans k10
  replace ho := ho.keep k10
  replace hv := hv.keep k10
  replace hn := hn.keep k10
  replace hc := hc.keep k10
  replace hp := hp.keep k10
  clear k10
  go_wp2
  go_ret3
  exact ⟨co5, cn5, zc5, po9, pn9, zp9, none, 0, [], rfl, hc, Ec5.out, by omega, hp, Ep9.out, by omega, NatAt.zero w10, rfl, by omega, hB⟩

set_option maxHeartbeats 2000000 in
theorem sstore_else_no_warm (w : World) (oo vo no : Option Addr) (on vn nn : Nat) (zo zv zn : List Int) (bo : on ≤ 1000) (bv : vn ≤ 1000) (bn : nn ≤ 1000) (ho : NatAt w oo on zo) (hv : NatAt w vo vn zv) (hn : NatAt w no nn zn) (t_same : (cmpZ (val zn) (val zv) == 0) = false) (t_first : (cmpZ (val zv) (val zo) == 0) = false) (t_oz : (val zo == 0) = false) (t_vz : (val zv == 0) = false) (t_nz : (val zn == 0) = false) (t_no : (cmpZ (val zn) (val zo) == 0) = true) :
    Calls Sacg.prog 15 #[.slice oo on on, .slice vo vn vn, .slice no nn nn, .bool false] w fun e w' => Sst3 w 100 2800 0 e w' := by
  have hB : Kp w w := Kp.refl w
  go_enter Sacg.func15, Sacg.ntmps15
  go_wp2_with fail
  refine (cmp_k w no vo nn vn zn zv (by omega) (by omega) hn hv).mono ?_
  rintro e w1 ⟨rfl, k1⟩
  replace hB := hB.trans k1
  replace ho := ho.keep k1
  replace hv := hv.keep k1
  replace hn := hn.keep k1
  clear k1
  go_wp2_with fail
  refine (cmp_k w1 vo oo vn on zv zo (by omega) (by omega) hv ho).mono ?_
  rintro e w2 ⟨rfl, k2⟩
  replace hB := hB.trans k2
  replace ho := ho.keep k2
  replace hv := hv.keep k2
  replace hn := hn.keep k2
  clear k2
  go_wp2_with fail
  refine (num_any w2 100 (by omega) (by omega)).mono ?_
  intro e w3 hG
  obtain ⟨co3, cn3, zc3, rfl, hc', ec3, bc3, k3⟩ := hG.parts
  have Ec3 : Hid (val zc3 = 100) := ec3
  replace hB := hB.trans k3
  replace ho := ho.keep k3
  replace hv := hv.keep k3
  replace hn := hn.keep k3
  clear k3 ec3 hG
  have hc := hc'
  clear hc'
  go_wp2_with fail
  refine (isZero_k w3 oo on zo (by omega) ho).mono ?_
  rintro e w4 ⟨rfl, k4⟩
  replace hB := hB.trans k4
  replace ho := ho.keep k4
  replace hv := hv.keep k4
  replace hn := hn.keep k4
  replace hc := hc.keep k4
  clear k4
  go_wp2_with fail
  refine (isZero_k w4 vo vn zv (by omega) hv).mono ?_
  rintro e w5 ⟨rfl, k5⟩
  replace hB := hB.trans k5
  replace ho := ho.keep k5
  replace hv := hv.keep k5
  replace hn := hn.keep k5
  replace hc := hc.keep k5
  clear k5
  go_wp2_with fail
  refine (isZero_k w5 no nn zn (by omega) hn).mono ?_
  rintro e w6 ⟨rfl, k6⟩
  replace hB := hB.trans k6
  replace ho := ho.keep k6
  replace hv := hv.keep k6
  replace hn := hn.keep k6
  replace hc := hc.keep k6
  clear k6
  go_wp2_with fail
  refine (cmp_k w6 no oo nn on zn zo (by omega) (by omega) hn ho).mono ?_
  rintro e w7 ⟨rfl, k7⟩
  replace hB := hB.trans k7
  replace ho := ho.keep k7
  replace hv := hv.keep k7
  replace hn := hn.keep k7
  replace hc := hc.keep k7
  clear k7
  go_wp2_with fail
  refine (num_any w7 19900 (by omega) (by omega)).mono ?_
  intro e w8 hG
  obtain ⟨bo8, bn8, zb8, rfl, hb', eb8, bb8, k8⟩ := hG.parts
  have Eb8 : Hid (val zb8 = 19900) := eb8
  replace hB := hB.trans k8
  replace ho := ho.keep k8
  replace hv := hv.keep k8
  replace hn := hn.keep k8
  replace hc := hc.keep k8
  clear k8 eb8 hG
  have hb := hb'
  clear hb'
  go_wp2_with fail
  refine (isZero_k w8 oo on zo (by omega) ho).mono ?_
  rintro e w9 ⟨rfl, k9⟩
  replace hB := hB.trans k9
  replace ho := ho.keep k9
  replace hv := hv.keep k9
  replace hn := hn.keep k9
  replace hc := hc.keep k9
  replace hb := hb.keep k9
  clear k9
  go_wp2_with fail
  refine (num_any w9 2800 (by omega) (by omega)).mono ?_
  intro e w10 hG
  obtain ⟨bo10, bn10, zb10, rfl, hb', eb10, bb10, k10⟩ := hG.parts
  have Eb10 : Hid (val zb10 = 2800) := eb10
  clear hb
  replace hB := hB.trans k10
  replace ho := ho.keep k10
  replace hv := hv.keep k10
  replace hn := hn.keep k10
  replace hc := hc.keep k10
  clear k10 eb10 hG
  have hb := hb'
  clear hb'
  go_wp2_with fail
  refine (add_any w10 none bo10 0 bn10 [] zb10 (by omega) (by omega) (NatAt.zero w10) hb).mono ?_
  intro e w11 hG
  obtain ⟨po11, pn11, zp11, rfl, hp', ep11, bp11, k11⟩ := hG.parts
  have Ep11 : Hid (val zp11 = 2800) := by show _ = _; rw [ep11, Eb10.out]; rfl
  clear hb
  replace hB := hB.trans k11
  replace ho := ho.keep k11
  replace hv := hv.keep k11
  replace hn := hn.keep k11
  replace hc := hc.keep k11
  clear k11 ep11 hG
  have hp := hp'
  clear hp'
  go_wp2
  go_ret3
  exact ⟨co3, cn3, zc3, po11, pn11, zp11, none, 0, [], rfl, hc, Ec3.out, by omega, hp, Ep11.out, by omega, NatAt.zero w11, rfl, by omega, hB⟩

set_option maxHeartbeats 2000000 in
theorem sstore_else_no_cold (w : World) (oo vo no : Option Addr) (on vn nn : Nat) (zo zv zn : List Int) (bo : on ≤ 1000) (bv : vn ≤ 1000) (bn : nn ≤ 1000) (ho : NatAt w oo on zo) (hv : NatAt w vo vn zv) (hn : NatAt w no nn zn) (t_same : (cmpZ (val zn) (val zv) == 0) = false) (t_first : (cmpZ (val zv) (val zo) == 0) = false) (t_oz : (val zo == 0) = false) (t_vz : (val zv == 0) = false) (t_nz : (val zn == 0) = false) (t_no : (cmpZ (val zn) (val zo) == 0) = true) :
    Calls Sacg.prog 15 #[.slice oo on on, .slice vo vn vn, .slice no nn nn, .bool true] w fun e w' => Sst3 w 2200 2800 0 e w' := by
  have hB : Kp w w := Kp.refl w
  go_enter Sacg.func15, Sacg.ntmps15
  go_wp2_with fail
  refine (cmp_k w no vo nn vn zn zv (by omega) (by omega) hn hv).mono ?_
  rintro e w1 ⟨rfl, k1⟩
  replace hB := hB.trans k1
  replace ho := ho.keep k1
  replace hv := hv.keep k1
  replace hn := hn.keep k1
  clear k1
  go_wp2_with fail
  refine (cmp_k w1 vo oo vn on zv zo (by omega) (by omega) hv ho).mono ?_
  rintro e w2 ⟨rfl, k2⟩
  replace hB := hB.trans k2
  replace ho := ho.keep k2
  replace hv := hv.keep k2
  replace hn := hn.keep k2
  clear k2
  go_wp2_with fail
  refine (num_any w2 100 (by omega) (by omega)).mono ?_
  intro e w3 hG
  obtain ⟨co3, cn3, zc3, rfl, hc', ec3, bc3, k3⟩ := hG.parts
  have Ec3 : Hid (val zc3 = 100) := ec3
  replace hB := hB.trans k3
  replace ho := ho.keep k3
  replace hv := hv.keep k3
  replace hn := hn.keep k3
  clear k3 ec3 hG
  have hc := hc'
  clear hc'
  go_wp2_with fail
  refine (num_any w3 2100 (by omega) (by omega)).mono ?_
  intro e w4 hG
  obtain ⟨to4, tn4, zt4, rfl, ht', et4, bt4, k4⟩ := hG.parts
  have Et4 : Hid (val zt4 = 2100) := et4
  replace hB := hB.trans k4
  replace ho := ho.keep k4
  replace hv := hv.keep k4
  replace hn := hn.keep k4
  replace hc := hc.keep k4
  clear k4 et4 hG
  have ht := ht'
  clear ht'
  go_wp2_with fail
  refine (add_any w4 co3 to4 cn3 tn4 zc3 zt4 (by omega) (by omega) hc ht).mono ?_
  intro e w5 hG
  obtain ⟨co5, cn5, zc5, rfl, hc', ec5, bc5, k5⟩ := hG.parts
  have Ec5 : Hid (val zc5 = 2200) := by show _ = _; rw [ec5, Ec3.out, Et4.out]; rfl
  clear hc
  clear ht
  replace hB := hB.trans k5
  replace ho := ho.keep k5
  replace hv := hv.keep k5
  replace hn := hn.keep k5
  clear k5 ec5 hG
  have hc := hc'
  clear hc'
  go_wp2_with fail
  refine (isZero_k w5 oo on zo (by omega) ho).mono ?_
  rintro e w6 ⟨rfl, k6⟩
  replace hB := hB.trans k6
  replace ho := ho.keep k6
  replace hv := hv.keep k6
  replace hn := hn.keep k6
  replace hc := hc.keep k6
  clear k6
  go_wp2_with fail
  refine (isZero_k w6 vo vn zv (by omega) hv).mono ?_
  rintro e w7 ⟨rfl, k7⟩
  replace hB := hB.trans k7
  replace ho := ho.keep k7
  replace hv := hv.keep k7
  replace hn := hn.keep k7
  replace hc := hc.keep k7
  clear k7
  go_wp2_with fail
  refine (isZero_k w7 no nn zn (by omega) hn).mono ?_
  rintro e w8 ⟨rfl, k8⟩
  replace hB := hB.trans k8
  replace ho := ho.keep k8
  replace hv := hv.keep k8
  replace hn := hn.keep k8
  replace hc := hc.keep k8
  clear k8
  go_wp2_with fail
  refine (cmp_k w8 no oo nn on zn zo (by omega) (by omega) hn ho).mono ?_
  rintro e w9 ⟨rfl, k9⟩
  replace hB := hB.trans k9
  replace ho := ho.keep k9
  replace hv := hv.keep k9
  replace hn := hn.keep k9
  replace hc := hc.keep k9
  clear k9
  go_wp2_with fail
  refine (num_any w9 19900 (by omega) (by omega)).mono ?_
  intro e w10 hG
  obtain ⟨bo10, bn10, zb10, rfl, hb', eb10, bb10, k10⟩ := hG.parts
  have Eb10 : Hid (val zb10 = 19900) := eb10
  replace hB := hB.trans k10
  replace ho := ho.keep k10
  replace hv := hv.keep k10
  replace hn := hn.keep k10
  replace hc := hc.keep k10
  clear k10 eb10 hG
  have hb := hb'
  clear hb'
  go_wp2_with fail
  refine (isZero_k w10 oo on zo (by omega) ho).mono ?_
  rintro e w11 ⟨rfl, k11⟩
  replace hB := hB.trans k11
  replace ho := ho.keep k11
  replace hv := hv.keep k11
  replace hn := hn.keep k11
  replace hc := hc.keep k11
  replace hb := hb.keep k11
  clear k11
  go_wp2_with fail
  refine (num_any w11 2800 (by omega) (by omega)).mono ?_
  intro e w12 hG
  obtain ⟨bo12, bn12, zb12, rfl, hb', eb12, bb12, k12⟩ := hG.parts
  have Eb12 : Hid (val zb12 = 2800) := eb12
  clear hb
  replace hB := hB.trans k12
  replace ho := ho.keep k12
  replace hv := hv.keep k12
  replace hn := hn.keep k12
  replace hc := hc.keep k12
  clear k12 eb12 hG
  have hb := hb'
  clear hb'
  go_wp2_with fail
  refine (add_any w12 none bo12 0 bn12 [] zb12 (by omega) (by omega) (NatAt.zero w12) hb).mono ?_
  intro e w13 hG
  obtain ⟨po13, pn13, zp13, rfl, hp', ep13, bp13, k13⟩ := hG.parts
  have Ep13 : Hid (val zp13 = 2800) := by show _ = _; rw [ep13, Eb12.out]; rfl
  clear hb
  replace hB := hB.trans k13
  replace ho := ho.keep k13
  replace hv := hv.keep k13
  replace hn := hn.keep k13
  replace hc := hc.keep k13
  clear k13 ep13 hG
  have hp := hp'
  clear hp'
  go_wp2
  go_ret3
  exact ⟨co5, cn5, zc5, po13, pn13, zp13, none, 0, [], rfl, hc, Ec5.out, by omega, hp, Ep13.out, by omega, NatAt.zero w13, rfl, by omega, hB⟩

set_option maxHeartbeats 2000000 in
theorem sstore_else_else_warm (w : World) (oo vo no : Option Addr) (on vn nn : Nat) (zo zv zn : List Int) (bo : on ≤ 1000) (bv : vn ≤ 1000) (bn : nn ≤ 1000) (ho : NatAt w oo on zo) (hv : NatAt w vo vn zv) (hn : NatAt w no nn zn) (t_same : (cmpZ (val zn) (val zv) == 0) = false) (t_first : (cmpZ (val zv) (val zo) == 0) = false) (t_oz : (val zo == 0) = false) (t_vz : (val zv == 0) = false) (t_nz : (val zn == 0) = false) (t_no : (cmpZ (val zn) (val zo) == 0) = false) :
    Calls Sacg.prog 15 #[.slice oo on on, .slice vo vn vn, .slice no nn nn, .bool false] w fun e w' => Sst3 w 100 0 0 e w' := by
  have hB : Kp w w := Kp.refl w
  go_enter Sacg.func15, Sacg.ntmps15
  go_wp2_with fail
  refine (cmp_k w no vo nn vn zn zv (by omega) (by omega) hn hv).mono ?_
  rintro e w1 ⟨rfl, k1⟩
  replace hB := hB.trans k1
  replace ho := ho.keep k1
  replace hv := hv.keep k1
  replace hn := hn.keep k1
  clear k1
  go_wp2_with fail
  refine (cmp_k w1 vo oo vn on zv zo (by omega) (by omega) hv ho).mono ?_
  rintro e w2 ⟨rfl, k2⟩
  replace hB := hB.trans k2
  replace ho := ho.keep k2
  replace hv := hv.keep k2
  replace hn := hn.keep k2
  clear k2
  go_wp2_with fail
  refine (num_any w2 100 (by omega) (by omega)).mono ?_
  intro e w3 hG
  obtain ⟨co3, cn3, zc3, rfl, hc', ec3, bc3, k3⟩ := hG.parts
  have Ec3 : Hid (val zc3 = 100) := ec3
  replace hB := hB.trans k3
  replace ho := ho.keep k3
  replace hv := hv.keep k3
  replace hn := hn.keep k3
  clear k3 ec3 hG
  have hc := hc'
  clear hc'
  go_wp2_with fail
  refine (isZero_k w3 oo on zo (by omega) ho).mono ?_
  rintro e w4 ⟨rfl, k4⟩
  replace hB := hB.trans k4
  replace ho := ho.keep k4
  replace hv := hv.keep k4
  replace hn := hn.keep k4
  replace hc := hc.keep k4
  clear k4
  go_wp2_with fail
  refine (isZero_k w4 vo vn zv (by omega) hv).mono ?_
  rintro e w5 ⟨rfl, k5⟩
  replace hB := hB.trans k5
  replace ho := ho.keep k5
  replace hv := hv.keep k5
  replace hn := hn.keep k5
  replace hc := hc.keep k5
  clear k5
  go_wp2_with fail
  refine (isZero_k w5 no nn zn (by omega) hn).mono ?_
  rintro e w6 ⟨rfl, k6⟩
  replace hB := hB.trans k6
  replace ho := ho.keep k6
  replace hv := hv.keep k6
  replace hn := hn.keep k6
  replace hc := hc.keep k6
  clear k6
  go_wp2_with fail
  refine (cmp_k w6 no oo nn on zn zo (by omega) (by omega) hn ho).mono ?_
  rintro e w7 ⟨rfl, k7⟩
  replace hB := hB.trans k7
  replace ho := ho.keep k7
  replace hv := hv.keep k7
  replace hn := hn.keep k7
  replace hc := hc.keep k7
  clear k7
  go_wp2
  go_ret3
  exact ⟨co3, cn3, zc3, none, 0, [], none, 0, [], rfl, hc, Ec3.out, by omega, NatAt.zero w7, rfl, by omega, NatAt.zero w7, rfl, by omega, hB⟩

set_option maxHeartbeats 2000000 in
theorem sstore_else_else_cold (w : World) (oo vo no : Option Addr) (on vn nn : Nat) (zo zv zn : List Int) (bo : on ≤ 1000) (bv : vn ≤ 1000) (bn : nn ≤ 1000) (ho : NatAt w oo on zo) (hv : NatAt w vo vn zv) (hn : NatAt w no nn zn) (t_same : (cmpZ (val zn) (val zv) == 0) = false) (t_first : (cmpZ (val zv) (val zo) == 0) = false) (t_oz : (val zo == 0) = false) (t_vz : (val zv == 0) = false) (t_nz : (val zn == 0) = false) (t_no : (cmpZ (val zn) (val zo) == 0) = false) :
    Calls Sacg.prog 15 #[.slice oo on on, .slice vo vn vn, .slice no nn nn, .bool true] w fun e w' => Sst3 w 2200 0 0 e w' := by
  have hB : Kp w w := Kp.refl w
  go_enter Sacg.func15, Sacg.ntmps15
  go_wp2_with fail
  refine (cmp_k w no vo nn vn zn zv (by omega) (by omega) hn hv).mono ?_
  rintro e w1 ⟨rfl, k1⟩
  replace hB := hB.trans k1
  replace ho := ho.keep k1
  replace hv := hv.keep k1
  replace hn := hn.keep k1
  clear k1
  go_wp2_with fail
  refine (cmp_k w1 vo oo vn on zv zo (by omega) (by omega) hv ho).mono ?_
  rintro e w2 ⟨rfl, k2⟩
  replace hB := hB.trans k2
  replace ho := ho.keep k2
  replace hv := hv.keep k2
  replace hn := hn.keep k2
  clear k2
  go_wp2_with fail
  refine (num_any w2 100 (by omega) (by omega)).mono ?_
  intro e w3 hG
  obtain ⟨co3, cn3, zc3, rfl, hc', ec3, bc3, k3⟩ := hG.parts
  have Ec3 : Hid (val zc3 = 100) := ec3
  replace hB := hB.trans k3
  replace ho := ho.keep k3
  replace hv := hv.keep k3
  replace hn := hn.keep k3
  clear k3 ec3 hG
  have hc := hc'
  clear hc'
  go_wp2_with fail
  refine (num_any w3 2100 (by omega) (by omega)).mono ?_
  intro e w4 hG
  obtain ⟨to4, tn4, zt4, rfl, ht', et4, bt4, k4⟩ := hG.parts
  have Et4 : Hid (val zt4 = 2100) := et4
  replace hB := hB.trans k4
  replace ho := ho.keep k4
  replace hv := hv.keep k4
  replace hn := hn.keep k4
  replace hc := hc.keep k4
  clear k4 et4 hG
  have ht := ht'
  clear ht'
  go_wp2_with fail
  refine (add_any w4 co3 to4 cn3 tn4 zc3 zt4 (by omega) (by omega) hc ht).mono ?_
  intro e w5 hG
  obtain ⟨co5, cn5, zc5, rfl, hc', ec5, bc5, k5⟩ := hG.parts
  have Ec5 : Hid (val zc5 = 2200) := by show _ = _; rw [ec5, Ec3.out, Et4.out]; rfl
  clear hc
  clear ht
  replace hB := hB.trans k5
  replace ho := ho.keep k5
  replace hv := hv.keep k5
  replace hn := hn.keep k5
  clear k5 ec5 hG
  have hc := hc'
  clear hc'
  go_wp2_with fail
  refine (isZero_k w5 oo on zo (by omega) ho).mono ?_
  rintro e w6 ⟨rfl, k6⟩
  replace hB := hB.trans k6
  replace ho := ho.keep k6
  replace hv := hv.keep k6
  replace hn := hn.keep k6
  replace hc := hc.keep k6
  clear k6
  go_wp2_with fail
  refine (isZero_k w6 vo vn zv (by omega) hv).mono ?_
  rintro e w7 ⟨rfl, k7⟩
  replace hB := hB.trans k7
  replace ho := ho.keep k7
  replace hv := hv.keep k7
  replace hn := hn.keep k7
  replace hc := hc.keep k7
  clear k7
  go_wp2_with fail
  refine (isZero_k w7 no nn zn (by omega) hn).mono ?_
  rintro e w8 ⟨rfl, k8⟩
  replace hB := hB.trans k8
  replace ho := ho.keep k8
  replace hv := hv.keep k8
  replace hn := hn.keep k8
  replace hc := hc.keep k8
  clear k8
  go_wp2_with fail
  refine (cmp_k w8 no oo nn on zn zo (by omega) (by omega) hn ho).mono ?_
  rintro e w9 ⟨rfl, k9⟩
  replace hB := hB.trans k9
  replace ho := ho.keep k9
  replace hv := hv.keep k9
  replace hn := hn.keep k9
  replace hc := hc.keep k9
  clear k9
  go_wp2
  go_ret3
  exact ⟨co5, cn5, zc5, none, 0, [], none, 0, [], rfl, hc, Ec5.out, by omega, NatAt.zero w9, rfl, by omega, NatAt.zero w9, rfl, by omega, hB⟩

end Go.Proofs.Ygcsac
