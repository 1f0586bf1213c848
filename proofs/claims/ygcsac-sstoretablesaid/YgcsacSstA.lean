/- yp.Sstore: what it gives, way by way (the first ways). -/
import Derived.Test.YgcsacNatE
namespace Go.Proofs.Ygcsac
open Go.RowKit

set_option maxHeartbeats 2000000 in
theorem sstore_same_first_warm (w : World) (oo vo no : Option Addr) (on vn nn : Nat) (zo zv zn : List Int) (bo : on ≤ 1000) (bv : vn ≤ 1000) (bn : nn ≤ 1000) (ho : NatAt w oo on zo) (hv : NatAt w vo vn zv) (hn : NatAt w no nn zn) (t_same : (cmpZ (val zn) (val zv) == 0) = true) (t_first : (cmpZ (val zv) (val zo) == 0) = true) :
    Calls Sacg.prog 15 #[.slice oo on on, .slice vo vn vn, .slice no nn nn, .bool false] w fun e w' => Sst3 w 100 0 0 e w' := by
  have hB : Kp w w := Kp.refl w
  go_enter Sacg.func15, Sacg.ntmps15
  go_wp2_with fail
  refine (cmp_k w no vo nn vn zn zv (by omega) (by omega) hn hv).mono ?_
  rintro e w1 ⟨rfl, k1⟩
  replace hB := hB.trans k1
  replace ho := ho.keep k1
  replace hv := hv.keep k1
  replace hn := hn.keep k1
  clear k1
  go_wp2_with fail
  refine (cmp_k w1 vo oo vn on zv zo (by omega) (by omega) hv ho).mono ?_
  rintro e w2 ⟨rfl, k2⟩
  replace hB := hB.trans k2
  replace ho := ho.keep k2
  replace hv := hv.keep k2
  replace hn := hn.keep k2
  clear k2
  go_wp2_with fail
  refine (num_any w2 100 (by omega) (by omega)).mono ?_
  intro e w3 hG
  obtain ⟨co3, cn3, zc3, rfl, hc', ec3, bc3, k3⟩ := hG.parts
  have Ec3 : Hid (val zc3 = 100) := ec3
  replace hB := hB.trans k3
  replace ho := ho.keep k3
  replace hv := hv.keep k3
  replace hn := hn.keep k3
  clear k3 ec3 hG
  have hc := hc'
  clear hc'
  go_wp2
  go_ret3
  exact ⟨co3, cn3, zc3, none, 0, [], none, 0, [], rfl, hc, Ec3.out, by omega, NatAt.zero w3, rfl, by omega, NatAt.zero w3, rfl, by omega, hB⟩

set_option maxHeartbeats 2000000 in
theorem sstore_same_first_cold (w : World) (oo vo no : Option Addr) (on vn nn : Nat) (zo zv zn : List Int) (bo : on ≤ 1000) (bv : vn ≤ 1000) (bn : nn ≤ 1000) (ho : NatAt w oo on zo) (hv : NatAt w vo vn zv) (hn : NatAt w no nn zn) (t_same : (cmpZ (val zn) (val zv) == 0) = true) (t_first : (cmpZ (val zv) (val zo) == 0) = true) :
    Calls Sacg.prog 15 #[.slice oo on on, .slice vo vn vn, .slice no nn nn, .bool true] w fun e w' => Sst3 w 2200 0 0 e w' := by
  have hB : Kp w w := Kp.refl w
  go_enter Sacg.func15, Sacg.ntmps15
  go_wp2_with fail
  refine (cmp_k w no vo nn vn zn zv (by omega) (by omega) hn hv).mono ?_
  rintro e w1 ⟨rfl, k1⟩
  replace hB := hB.trans k1
  replace ho := ho.keep k1
  replace hv := hv.keep k1
  replace hn := hn.keep k1
  clear k1
  go_wp2_with fail
  refine (cmp_k w1 vo oo vn on zv zo (by omega) (by omega) hv ho).mono ?_
  rintro e w2 ⟨rfl, k2⟩
  replace hB := hB.trans k2
  replace ho := ho.keep k2
  replace hv := hv.keep k2
  replace hn := hn.keep k2
  clear k2
  go_wp2_with fail
  refine (num_any w2 100 (by omega) (by omega)).mono ?_
  intro e w3 hG
  obtain ⟨co3, cn3, zc3, rfl, hc', ec3, bc3, k3⟩ := hG.parts
  have Ec3 : Hid (val zc3 = 100) := ec3
  replace hB := hB.trans k3
  replace ho := ho.keep k3
  replace hv := hv.keep k3
  replace hn := hn.keep k3
  clear k3 ec3 hG
  have hc := hc'
  clear hc'
  go_wp2_with fail
  refine (num_any w3 2100 (by omega) (by omega)).mono ?_
  intro e w4 hG
  obtain ⟨to4, tn4, zt4, rfl, ht', et4, bt4, k4⟩ := hG.parts
  have Et4 : Hid (val zt4 = 2100) := et4
  replace hB := hB.trans k4
  replace ho := ho.keep k4
  replace hv := hv.keep k4
  replace hn := hn.keep k4
  replace hc := hc.keep k4
  clear k4 et4 hG
  have ht := ht'
  clear ht'
  go_wp2_with fail
  refine (add_any w4 co3 to4 cn3 tn4 zc3 zt4 (by omega) (by omega) hc ht).mono ?_
  intro e w5 hG
  obtain ⟨co5, cn5, zc5, rfl, hc', ec5, bc5, k5⟩ := hG.parts
  have Ec5 : Hid (val zc5 = 2200) := by show _ = _; rw [ec5, Ec3.out, Et4.out]; rfl
  clear hc
  clear ht
  replace hB := hB.trans k5
  replace ho := ho.keep k5
  replace hv := hv.keep k5
  replace hn := hn.keep k5
  clear k5 ec5 hG
  have hc := hc'
  clear hc'
  go_wp2
  go_ret3
  exact ⟨co5, cn5, zc5, none, 0, [], none, 0, [], rfl, hc, Ec5.out, by omega, NatAt.zero w5, rfl, by omega, NatAt.zero w5, rfl, by omega, hB⟩

set_option maxHeartbeats 2000000 in
theorem sstore_same_not_warm (w : World) (oo vo no : Option Addr) (on vn nn : Nat) (zo zv zn : List Int) (bo : on ≤ 1000) (bv : vn ≤ 1000) (bn : nn ≤ 1000) (ho : NatAt w oo on zo) (hv : NatAt w vo vn zv) (hn : NatAt w no nn zn) (t_same : (cmpZ (val zn) (val zv) == 0) = true) (t_first : (cmpZ (val zv) (val zo) == 0) = false) :
    Calls Sacg.prog 15 #[.slice oo on on, .slice vo vn vn, .slice no nn nn, .bool false] w fun e w' => Sst3 w 100 0 0 e w' := by
  have hB : Kp w w := Kp.refl w
  go_enter Sacg.func15, Sacg.ntmps15
  go_wp2_with fail
  refine (cmp_k w no vo nn vn zn zv (by omega) (by omega) hn hv).mono ?_
  rintro e w1 ⟨rfl, k1⟩
  replace hB := hB.trans k1
  replace ho := ho.keep k1
  replace hv := hv.keep k1
  replace hn := hn.keep k1
  clear k1
  go_wp2_with fail
  refine (cmp_k w1 vo oo vn on zv zo (by omega) (by omega) hv ho).mono ?_
  rintro e w2 ⟨rfl, k2⟩
  replace hB := hB.trans k2
  replace ho := ho.keep k2
  replace hv := hv.keep k2
  replace hn := hn.keep k2
  clear k2
  go_wp2_with fail
  refine (num_any w2 100 (by omega) (by omega)).mono ?_
  intro e w3 hG
  obtain ⟨co3, cn3, zc3, rfl, hc', ec3, bc3, k3⟩ := hG.parts
  have Ec3 : Hid (val zc3 = 100) := ec3
  replace hB := hB.trans k3
  replace ho := ho.keep k3
  replace hv := hv.keep k3
  replace hn := hn.keep k3
  clear k3 ec3 hG
  have hc := hc'
  clear hc'
  go_wp2
  go_ret3
  exact ⟨co3, cn3, zc3, none, 0, [], none, 0, [], rfl, hc, Ec3.out, by omega, NatAt.zero w3, rfl, by omega, NatAt.zero w3, rfl, by omega, hB⟩

set_option maxHeartbeats 2000000 in
theorem sstore_same_not_cold (w : World) (oo vo no : Option Addr) (on vn nn : Nat) (zo zv zn : List Int) (bo : on ≤ 1000) (bv : vn ≤ 1000) (bn : nn ≤ 1000) (ho : NatAt w oo on zo) (hv : NatAt w vo vn zv) (hn : NatAt w no nn zn) (t_same : (cmpZ (val zn) (val zv) == 0) = true) (t_first : (cmpZ (val zv) (val zo) == 0) = false) :
    Calls Sacg.prog 15 #[.slice oo on on, .slice vo vn vn, .slice no nn nn, .bool true] w fun e w' => Sst3 w 2200 0 0 e w' := by
  have hB : Kp w w := Kp.refl w
  go_enter Sacg.func15, Sacg.ntmps15
  go_wp2_with fail
  refine (cmp_k w no vo nn vn zn zv (by omega) (by omega) hn hv).mono ?_
  rintro e w1 ⟨rfl, k1⟩
  replace hB := hB.trans k1
  replace ho := ho.keep k1
  replace hv := hv.keep k1
  replace hn := hn.keep k1
  clear k1
  go_wp2_with fail
  refine (cmp_k w1 vo oo vn on zv zo (by omega) (by omega) hv ho).mono ?_
  rintro e w2 ⟨rfl, k2⟩
  replace hB := hB.trans k2
  replace ho := ho.keep k2
  replace hv := hv.keep k2
  replace hn := hn.keep k2
  clear k2
  go_wp2_with fail
  refine (num_any w2 100 (by omega) (by omega)).mono ?_
  intro e w3 hG
  obtain ⟨co3, cn3, zc3, rfl, hc', ec3, bc3, k3⟩ := hG.parts
  have Ec3 : Hid (val zc3 = 100) := ec3
  replace hB := hB.trans k3
  replace ho := ho.keep k3
  replace hv := hv.keep k3
  replace hn := hn.keep k3
  clear k3 ec3 hG
  have hc := hc'
  clear hc'
  go_wp2_with fail
  refine (num_any w3 2100 (by omega) (by omega)).mono ?_
  intro e w4 hG
  obtain ⟨to4, tn4, zt4, rfl, ht', et4, bt4, k4⟩ := hG.parts
  have Et4 : Hid (val zt4 = 2100) := et4
  replace hB := hB.trans k4
  replace ho := ho.keep k4
  replace hv := hv.keep k4
  replace hn := hn.keep k4
  replace hc := hc.keep k4
  clear k4 et4 hG
  have ht := ht'
  clear ht'
  go_wp2_with fail
  refine (add_any w4 co3 to4 cn3 tn4 zc3 zt4 (by omega) (by omega) hc ht).mono ?_
  intro e w5 hG
  obtain ⟨co5, cn5, zc5, rfl, hc', ec5, bc5, k5⟩ := hG.parts
  have Ec5 : Hid (val zc5 = 2200) := by show _ = _; rw [ec5, Ec3.out, Et4.out]; rfl
  clear hc
  clear ht
  replace hB := hB.trans k5
  replace ho := ho.keep k5
  replace hv := hv.keep k5
  replace hn := hn.keep k5
  clear k5 ec5 hG
  have hc := hc'
  clear hc'
  go_wp2
  go_ret3
  exact ⟨co5, cn5, zc5, none, 0, [], none, 0, [], rfl, hc, Ec5.out, by omega, NatAt.zero w5, rfl, by omega, NatAt.zero w5, rfl, by omega, hB⟩

set_option maxHeartbeats 2000000 in
theorem sstore_first_oz_warm (w : World) (oo vo no : Option Addr) (on vn nn : Nat) (zo zv zn : List Int) (bo : on ≤ 1000) (bv : vn ≤ 1000) (bn : nn ≤ 1000) (ho : NatAt w oo on zo) (hv : NatAt w vo vn zv) (hn : NatAt w no nn zn) (t_same : (cmpZ (val zn) (val zv) == 0) = false) (t_first : (cmpZ (val zv) (val zo) == 0) = true) (t_oz : (val zo == 0) = true) :
    Calls Sacg.prog 15 #[.slice oo on on, .slice vo vn vn, .slice no nn nn, .bool false] w fun e w' => Sst3 w 20000 0 0 e w' := by
  have hB : Kp w w := Kp.refl w
  go_enter Sacg.func15, Sacg.ntmps15
  go_wp2_with fail
  refine (cmp_k w no vo nn vn zn zv (by omega) (by omega) hn hv).mono ?_
  rintro e w1 ⟨rfl, k1⟩
  replace hB := hB.trans k1
  replace ho := ho.keep k1
  replace hv := hv.keep k1
  replace hn := hn.keep k1
  clear k1
  go_wp2_with fail
  refine (cmp_k w1 vo oo vn on zv zo (by omega) (by omega) hv ho).mono ?_
  rintro e w2 ⟨rfl, k2⟩
  replace hB := hB.trans k2
  replace ho := ho.keep k2
  replace hv := hv.keep k2
  replace hn := hn.keep k2
  clear k2
  go_wp2_with fail
  refine (isZero_k w2 oo on zo (by omega) ho).mono ?_
  rintro e w3 ⟨rfl, k3⟩
  replace hB := hB.trans k3
  replace ho := ho.keep k3
  replace hv := hv.keep k3
  replace hn := hn.keep k3
  clear k3
  go_wp2_with fail
  refine (num_any w3 20000 (by omega) (by omega)).mono ?_
  intro e w4 hG
  obtain ⟨co4, cn4, zc4, rfl, hc', ec4, bc4, k4⟩ := hG.parts
  have Ec4 : Hid (val zc4 = 20000) := ec4
  replace hB := hB.trans k4
  replace ho := ho.keep k4
  replace hv := hv.keep k4
  replace hn := hn.keep k4
  clear k4 ec4 hG
  have hc := hc'
  clear hc'
  go_wp2_with fail
  refine (isZero_k w4 oo on zo (by omega) ho).mono ?_
  rintro e w5 ⟨rfl, k5⟩
  replace hB := hB.trans k5
  replace ho := ho.keep k5
  replace hv := hv.keep k5
  replace hn := hn.keep k5
  replace hc := hc.keep k5
  clear k5
  go_wp2
  go_ret3
  exact ⟨co4, cn4, zc4, none, 0, [], none, 0, [], rfl, hc, Ec4.out, by omega, NatAt.zero w5, rfl, by omega, NatAt.zero w5, rfl, by omega, hB⟩

set_option maxHeartbeats 2000000 in
theorem sstore_first_oz_cold (w : World) (oo vo no : Option Addr) (on vn nn : Nat) (zo zv zn : List Int) (bo : on ≤ 1000) (bv : vn ≤ 1000) (bn : nn ≤ 1000) (ho : NatAt w oo on zo) (hv : NatAt w vo vn zv) (hn : NatAt w no nn zn) (t_same : (cmpZ (val zn) (val zv) == 0) = false) (t_first : (cmpZ (val zv) (val zo) == 0) = true) (t_oz : (val zo == 0) = true) :
    Calls Sacg.prog 15 #[.slice oo on on, .slice vo vn vn, .slice no nn nn, .bool true] w fun e w' => Sst3 w 22100 0 0 e w' := by
  have hB : Kp w w := Kp.refl w
  go_enter Sacg.func15, Sacg.ntmps15
  go_wp2_with fail
  refine (cmp_k w no vo nn vn zn zv (by omega) (by omega) hn hv).mono ?_
  rintro e w1 ⟨rfl, k1⟩
  replace hB := hB.trans k1
  replace ho := ho.keep k1
  replace hv := hv.keep k1
  replace hn := hn.keep k1
  clear k1
  go_wp2_with fail
  refine (cmp_k w1 vo oo vn on zv zo (by omega) (by omega) hv ho).mono ?_
  rintro e w2 ⟨rfl, k2⟩
  replace hB := hB.trans k2
  replace ho := ho.keep k2
  replace hv := hv.keep k2
  replace hn := hn.keep k2
  clear k2
  go_wp2_with fail
  refine (isZero_k w2 oo on zo (by omega) ho).mono ?_
  rintro e w3 ⟨rfl, k3⟩
  replace hB := hB.trans k3
  replace ho := ho.keep k3
  replace hv := hv.keep k3
  replace hn := hn.keep k3
  clear k3
  go_wp2_with fail
  refine (num_any w3 20000 (by omega) (by omega)).mono ?_
  intro e w4 hG
  obtain ⟨co4, cn4, zc4, rfl, hc', ec4, bc4, k4⟩ := hG.parts
  have Ec4 : Hid (val zc4 = 20000) := ec4
  replace hB := hB.trans k4
  replace ho := ho.keep k4
  replace hv := hv.keep k4
  replace hn := hn.keep k4
  clear k4 ec4 hG
  have hc := hc'
  clear hc'
  go_wp2_with fail
  refine (num_any w4 2100 (by omega) (by omega)).mono ?_
  intro e w5 hG
  obtain ⟨to5, tn5, zt5, rfl, ht', et5, bt5, k5⟩ := hG.parts
  have Et5 : Hid (val zt5 = 2100) := et5
  replace hB := hB.trans k5
  replace ho := ho.keep k5
  replace hv := hv.keep k5
  replace hn := hn.keep k5
  replace hc := hc.keep k5
  clear k5 et5 hG
  have ht := ht'
  clear ht'
  go_wp2_with fail
  refine (add_any w5 co4 to5 cn4 tn5 zc4 zt5 (by omega) (by omega) hc ht).mono ?_
  intro e w6 hG
  obtain ⟨co6, cn6, zc6, rfl, hc', ec6, bc6, k6⟩ := hG.parts
  have Ec6 : Hid (val zc6 = 22100) := by show _ = _; rw [ec6, Ec4.out, Et5.out]; rfl
  clear hc
  clear ht
  replace hB := hB.trans k6
  replace ho := ho.keep k6
  replace hv := hv.keep k6
  replace hn := hn.keep k6
  clear k6 ec6 hG
  have hc := hc'
  clear hc'
  go_wp2_with fail
  refine (isZero_k w6 oo on zo (by omega) ho).mono ?_
  rintro e w7 ⟨rfl, k7⟩
  replace hB := hB.trans k7
  replace ho := ho.keep k7
  replace hv := hv.keep k7
  replace hn := hn.keep k7
  replace hc := hc.keep k7
  clear k7
  go_wp2
  go_ret3
  exact ⟨co6, cn6, zc6, none, 0, [], none, 0, [], rfl, hc, Ec6.out, by omega, NatAt.zero w7, rfl, by omega, NatAt.zero w7, rfl, by omega, hB⟩

set_option maxHeartbeats 2000000 in
theorem sstore_first_nz_warm (w : World) (oo vo no : Option Addr) (on vn nn : Nat) (zo zv zn : List Int) (bo : on ≤ 1000) (bv : vn ≤ 1000) (bn : nn ≤ 1000) (ho : NatAt w oo on zo) (hv : NatAt w vo vn zv) (hn : NatAt w no nn zn) (t_same : (cmpZ (val zn) (val zv) == 0) = false) (t_first : (cmpZ (val zv) (val zo) == 0) = true) (t_oz : (val zo == 0) = false) (t_nz : (val zn == 0) = true) :
    Calls Sacg.prog 15 #[.slice oo on on, .slice vo vn vn, .slice no nn nn, .bool false] w fun e w' => Sst3 w 2900 4800 0 e w' := by
  have hB : Kp w w := Kp.refl w
  go_enter Sacg.func15, Sacg.ntmps15
  go_wp2_with fail
  refine (cmp_k w no vo nn vn zn zv (by omega) (by omega) hn hv).mono ?_
  rintro e w1 ⟨rfl, k1⟩
  replace hB := hB.trans k1
  replace ho := ho.keep k1
  replace hv := hv.keep k1
  replace hn := hn.keep k1
  clear k1
  go_wp2_with fail
  refine (cmp_k w1 vo oo vn on zv zo (by omega) (by omega) hv ho).mono ?_
  rintro e w2 ⟨rfl, k2⟩
  replace hB := hB.trans k2
  replace ho := ho.keep k2
  replace hv := hv.keep k2
  replace hn := hn.keep k2
  clear k2
  go_wp2_with fail
  refine (isZero_k w2 oo on zo (by omega) ho).mono ?_
  rintro e w3 ⟨rfl, k3⟩
  replace hB := hB.trans k3
  replace ho := ho.keep k3
  replace hv := hv.keep k3
  replace hn := hn.keep k3
  clear k3
  go_wp2_with fail
  refine (num_any w3 2900 (by omega) (by omega)).mono ?_
  intro e w4 hG
  obtain ⟨co4, cn4, zc4, rfl, hc', ec4, bc4, k4⟩ := hG.parts
  have Ec4 : Hid (val zc4 = 2900) := ec4
  replace hB := hB.trans k4
  replace ho := ho.keep k4
  replace hv := hv.keep k4
  replace hn := hn.keep k4
  clear k4 ec4 hG
  have hc := hc'
  clear hc'
  go_wp2_with fail
  refine (isZero_k w4 oo on zo (by omega) ho).mono ?_
  rintro e w5 ⟨rfl, k5⟩
  replace hB := hB.trans k5
  replace ho := ho.keep k5
  replace hv := hv.keep k5
  replace hn := hn.keep k5
  replace hc := hc.keep k5
  clear k5
  go_wp2_with fail
  refine (isZero_k w5 no nn zn (by omega) hn).mono ?_
  rintro e w6 ⟨rfl, k6⟩
  replace hB := hB.trans k6
  replace ho := ho.keep k6
  replace hv := hv.keep k6
  replace hn := hn.keep k6
  replace hc := hc.keep k6
  clear k6
  go_wp2_with fail
  refine (num_any w6 4800 (by omega) (by omega)).mono ?_
  intro e w7 hG
  obtain ⟨po7, pn7, zp7, rfl, hp', ep7, bp7, k7⟩ := hG.parts
  have Ep7 : Hid (val zp7 = 4800) := ep7
  replace hB := hB.trans k7
  replace ho := ho.keep k7
  replace hv := hv.keep k7
  replace hn := hn.keep k7
  replace hc := hc.keep k7
  clear k7 ep7 hG
  have hp := hp'
  clear hp'
  go_wp2
  go_ret3
  exact ⟨co4, cn4, zc4, po7, pn7, zp7, none, 0, [], rfl, hc, Ec4.out, by omega, hp, Ep7.out, by omega, NatAt.zero w7, rfl, by omega, hB⟩

set_option maxHeartbeats 2000000 in
theorem sstore_first_nz_cold (w : World) (oo vo no : Option Addr) (on vn nn : Nat) (zo zv zn : List Int) (bo : on ≤ 1000) (bv : vn ≤ 1000) (bn : nn ≤ 1000) (ho : NatAt w oo on zo) (hv : NatAt w vo vn zv) (hn : NatAt w no nn zn) (t_same : (cmpZ (val zn) (val zv) == 0) = false) (t_first : (cmpZ (val zv) (val zo) == 0) = true) (t_oz : (val zo == 0) = false) (t_nz : (val zn == 0) = true) :
    Calls Sacg.prog 15 #[.slice oo on on, .slice vo vn vn, .slice no nn nn, .bool true] w fun e w' => Sst3 w 5000 4800 0 e w' := by
  have hB : Kp w w := Kp.refl w
  go_enter Sacg.func15, Sacg.ntmps15
  go_wp2_with fail
  refine (cmp_k w no vo nn vn zn zv (by omega) (by omega) hn hv).mono ?_
  rintro e w1 ⟨rfl, k1⟩
  replace hB := hB.trans k1
  replace ho := ho.keep k1
  replace hv := hv.keep k1
  replace hn := hn.keep k1
  clear k1
  go_wp2_with fail
  refine (cmp_k w1 vo oo vn on zv zo (by omega) (by omega) hv ho).mono ?_
  rintro e w2 ⟨rfl, k2⟩
  replace hB := hB.trans k2
  replace ho := ho.keep k2
  replace hv := hv.keep k2
  replace hn := hn.keep k2
  clear k2
  go_wp2_with fail
  refine (isZero_k w2 oo on zo (by omega) ho).mono ?_
  rintro e w3 ⟨rfl, k3⟩
  replace hB := hB.trans k3
  replace ho := ho.keep k3
  replace hv := hv.keep k3
  replace hn := hn.keep k3
  clear k3
  go_wp2_with fail
  refine (num_any w3 2900 (by omega) (by omega)).mono ?_
  intro e w4 hG
  obtain ⟨co4, cn4, zc4, rfl, hc', ec4, bc4, k4⟩ := hG.parts
  have Ec4 : Hid (val zc4 = 2900) := ec4
  replace hB := hB.trans k4
  replace ho := ho.keep k4
  replace hv := hv.keep k4
  replace hn := hn.keep k4
  clear k4 ec4 hG
  have hc := hc'
  clear hc'
  go_wp2_with fail
  refine (num_any w4 2100 (by omega) (by omega)).mono ?_
  intro e w5 hG
  obtain ⟨to5, tn5, zt5, rfl, ht', et5, bt5, k5⟩ := hG.parts
  have Et5 : Hid (val zt5 = 2100) := et5
  replace hB := hB.trans k5
  replace ho := ho.keep k5
  replace hv := hv.keep k5
  replace hn := hn.keep k5
  replace hc := hc.keep k5
  clear k5 et5 hG
  have ht := ht'
  clear ht'
  go_wp2_with fail
  refine (add_any w5 co4 to5 cn4 tn5 zc4 zt5 (by omega) (by omega) hc ht).mono ?_
  intro e w6 hG
  obtain ⟨co6, cn6, zc6, rfl, hc', ec6, bc6, k6⟩ := hG.parts
  have Ec6 : Hid (val zc6 = 5000) := by show _ = _; rw [ec6, Ec4.out, Et5.out]; rfl
  clear hc
  clear ht
  replace hB := hB.trans k6
  replace ho := ho.keep k6
  replace hv := hv.keep k6
  replace hn := hn.keep k6
  clear k6 ec6 hG
  have hc := hc'
  clear hc'
  go_wp2_with fail
  refine (isZero_k w6 oo on zo (by omega) ho).mono ?_
  rintro e w7 ⟨rfl, k7⟩
  replace hB := hB.trans k7
  replace ho := ho.keep k7
  replace hv := hv.keep k7
  replace hn := hn.keep k7
  replace hc := hc.keep k7
  clear k7
  go_wp2_with fail
  refine (isZero_k w7 no nn zn (by omega) hn).mono ?_
  rintro e w8 ⟨rfl, k8⟩
  replace hB := hB.trans k8
  replace ho := ho.keep k8
  replace hv := hv.keep k8
  replace hn := hn.keep k8
  replace hc := hc.keep k8
  clear k8
  go_wp2_with fail
  refine (num_any w8 4800 (by omega) (by omega)).mono ?_
  intro e w9 hG
  obtain ⟨po9, pn9, zp9, rfl, hp', ep9, bp9, k9⟩ := hG.parts
  have Ep9 : Hid (val zp9 = 4800) := ep9
  replace hB := hB.trans k9
  replace ho := ho.keep k9
  replace hv := hv.keep k9
  replace hn := hn.keep k9
  replace hc := hc.keep k9
  clear k9 ep9 hG
  have hp := hp'
  clear hp'
  go_wp2
  go_ret3
  exact ⟨co6, cn6, zc6, po9, pn9, zp9, none, 0, [], rfl, hc, Ec6.out, by omega, hp, Ep9.out, by omega, NatAt.zero w9, rfl, by omega, hB⟩

set_option maxHeartbeats 2000000 in
theorem sstore_first_else_warm (w : World) (oo vo no : Option Addr) (on vn nn : Nat) (zo zv zn : List Int) (bo : on ≤ 1000) (bv : vn ≤ 1000) (bn : nn ≤ 1000) (ho : NatAt w oo on zo) (hv : NatAt w vo vn zv) (hn : NatAt w no nn zn) (t_same : (cmpZ (val zn) (val zv) == 0) = false) (t_first : (cmpZ (val zv) (val zo) == 0) = true) (t_oz : (val zo == 0) = false) (t_nz : (val zn == 0) = false) :
    Calls Sacg.prog 15 #[.slice oo on on, .slice vo vn vn, .slice no nn nn, .bool false] w fun e w' => Sst3 w 2900 0 0 e w' := by
  have hB : Kp w w := Kp.refl w
  go_enter Sacg.func15, Sacg.ntmps15
  go_wp2_with fail
  refine (cmp_k w no vo nn vn zn zv (by omega) (by omega) hn hv).mono ?_
  rintro e w1 ⟨rfl, k1⟩
  replace hB := hB.trans k1
  replace ho := ho.keep k1
  replace hv := hv.keep k1
  replace hn := hn.keep k1
  clear k1
  go_wp2_with fail
  refine (cmp_k w1 vo oo vn on zv zo (by omega) (by omega) hv ho).mono ?_
  rintro e w2 ⟨rfl, k2⟩
  replace hB := hB.trans k2
  replace ho := ho.keep k2
  replace hv := hv.keep k2
  replace hn := hn.keep k2
  clear k2
  go_wp2_with fail
  refine (isZero_k w2 oo on zo (by omega) ho).mono ?_
  rintro e w3 ⟨rfl, k3⟩
  replace hB := hB.trans k3
  replace ho := ho.keep k3
  replace hv := hv.keep k3
  replace hn := hn.keep k3
  clear k3
  go_wp2_with fail
  refine (num_any w3 2900 (by omega) (by omega)).mono ?_
  intro e w4 hG
  obtain ⟨co4, cn4, zc4, rfl, hc', ec4, bc4, k4⟩ := hG.parts
  have Ec4 : Hid (val zc4 = 2900) := ec4
  replace hB := hB.trans k4
  replace ho := ho.keep k4
  replace hv := hv.keep k4
  replace hn := hn.keep k4
  clear k4 ec4 hG
  have hc := hc'
  clear hc'
  go_wp2_with fail
  refine (isZero_k w4 oo on zo (by omega) ho).mono ?_
  rintro e w5 ⟨rfl, k5⟩
  replace hB := hB.trans k5
  replace ho := ho.keep k5
  replace hv := hv.keep k5
  replace hn := hn.keep k5
  replace hc := hc.keep k5
  clear k5
  go_wp2_with fail
  refine (isZero_k w5 no nn zn (by omega) hn).mono ?_
  rintro e w6 ⟨rfl, k6⟩
  replace hB := hB.trans k6
  replace ho := ho.keep k6
  replace hv := hv.keep k6
  replace hn := hn.keep k6
  replace hc := hc.keep k6
  clear k6
  go_wp2
  go_ret3
  exact ⟨co4, cn4, zc4, none, 0, [], none, 0, [], rfl, hc, Ec4.out, by omega, NatAt.zero w6, rfl, by omega, NatAt.zero w6, rfl, by omega, hB⟩

set_option maxHeartbeats 2000000 in
theorem sstore_first_else_cold (w : World) (oo vo no : Option Addr) (on vn nn : Nat) (zo zv zn : List Int) (bo : on ≤ 1000) (bv : vn ≤ 1000) (bn : nn ≤ 1000) (ho : NatAt w oo on zo) (hv : NatAt w vo vn zv) (hn : NatAt w no nn zn) (t_same : (cmpZ (val zn) (val zv) == 0) = false) (t_first : (cmpZ (val zv) (val zo) == 0) = true) (t_oz : (val zo == 0) = false) (t_nz : (val zn == 0) = false) :
    Calls Sacg.prog 15 #[.slice oo on on, .slice vo vn vn, .slice no nn nn, .bool true] w fun e w' => Sst3 w 5000 0 0 e w' := by
  have hB : Kp w w := Kp.refl w
  go_enter Sacg.func15, Sacg.ntmps15
  go_wp2_with fail
  refine (cmp_k w no vo nn vn zn zv (by omega) (by omega) hn hv).mono ?_
  rintro e w1 ⟨rfl, k1⟩
  replace hB := hB.trans k1
  replace ho := ho.keep k1
  replace hv := hv.keep k1
  replace hn := hn.keep k1
  clear k1
  go_wp2_with fail
  refine (cmp_k w1 vo oo vn on zv zo (by omega) (by omega) hv ho).mono ?_
  rintro e w2 ⟨rfl, k2⟩
  replace hB := hB.trans k2
  replace ho := ho.keep k2
  replace hv := hv.keep k2
  replace hn := hn.keep k2
  clear k2
  go_wp2_with fail
  refine (isZero_k w2 oo on zo (by omega) ho).mono ?_
  rintro e w3 ⟨rfl, k3⟩
  replace hB := hB.trans k3
  replace ho := ho.keep k3
  replace hv := hv.keep k3
  replace hn := hn.keep k3
  clear k3
  go_wp2_with fail
  refine (num_any w3 2900 (by omega) (by omega)).mono ?_
  intro e w4 hG
  obtain ⟨co4, cn4, zc4, rfl, hc', ec4, bc4, k4⟩ := hG.parts
  have Ec4 : Hid (val zc4 = 2900) := ec4
  replace hB := hB.trans k4
  replace ho := ho.keep k4
  replace hv := hv.keep k4
  replace hn := hn.keep k4
  clear k4 ec4 hG
  have hc := hc'
  clear hc'
  go_wp2_with fail
  refine (num_any w4 2100 (by omega) (by omega)).mono ?_
  intro e w5 hG
  obtain ⟨to5, tn5, zt5, rfl, ht', et5, bt5, k5⟩ := hG.parts
  have Et5 : Hid (val zt5 = 2100) := et5
  replace hB := hB.trans k5
  replace ho := ho.keep k5
  replace hv := hv.keep k5
  replace hn := hn.keep k5
  replace hc := hc.keep k5
  clear k5 et5 hG
  have ht := ht'
  clear ht'
  go_wp2_with fail
  refine (add_any w5 co4 to5 cn4 tn5 zc4 zt5 (by omega) (by omega) hc ht).mono ?_
  intro e w6 hG
  obtain ⟨co6, cn6, zc6, rfl, hc', ec6, bc6, k6⟩ := hG.parts
  have Ec6 : Hid (val zc6 = 5000) := by show _ = _; rw [ec6, Ec4.out, Et5.out]; rfl
  clear hc
  clear ht
  replace hB := hB.trans k6
  replace ho := ho.keep k6
  replace hv := hv.keep k6
  replace hn := hn.keep k6
  clear k6 ec6 hG
  have hc := hc'
  clear hc'
  go_wp2_with fail
  refine (isZero_k w6 oo on zo (by omega) ho).mono ?_
  rintro e w7 ⟨rfl, k7⟩
  replace hB := hB.trans k7
  replace ho := ho.keep k7
  replace hv := hv.keep k7
  replace hn := hn.keep k7
  replace hc := hc.keep k7
  clear k7
  go_wp2_with fail
  refine (isZero_k w7 no nn zn (by omega) hn).mono ?_
  rintro e w8 ⟨rfl, k8⟩
  replace hB := hB.trans k8
  replace ho := ho.keep k8
  replace hv := hv.keep k8
  replace hn := hn.keep k8
  replace hc := hc.keep k8
  clear k8
  go_wp2
  go_ret3
  exact ⟨co6, cn6, zc6, none, 0, [], none, 0, [], rfl, hc, Ec6.out, by omega, NatAt.zero w8, rfl, by omega, NatAt.zero w8, rfl, by omega, hB⟩

end Go.Proofs.Ygcsac
