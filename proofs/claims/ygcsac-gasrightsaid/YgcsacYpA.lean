/- yp's gas functions over naturals: contracts. -/
import Derived.Test.YgcsacNatI
import Derived.Test.YgcsacNatJ
import Derived.Test.YgcsacNatK
namespace Go.Proofs.Ygcsac
open Go.RowKit

/-- A call gives a natural of value X, of at most N digits; nothing old has turned. -/
def Nt (w : World) (X : Int) (N : Nat) (e : Ending) (w' : World) : Prop :=
  ∃ ao n zs, e = .returned (.slice ao n n) ∧ NatAt w' ao n zs ∧ val zs = X ∧ n ≤ N ∧ Kp w w'
theorem num_nt (w : World) (x : Int) (h0 : 0 ≤ x) (hx : x ≤ 18446744073709551615) : Calls Sacg.prog 31 #[.int .u64 x] w fun e w' => Nt w x 8 e w' := (num_any w x h0 hx).mono fun _ _ h => h.parts
theorem fromU64_nt (w : World) (x : Int) (h0 : 0 ≤ x) (hx : x ≤ 18446744073709551615) : Calls Sacg.prog 11 #[.int .u64 x] w fun e w' => Nt w x 8 e w' := (fromU64_any w x h0 hx).mono fun _ _ h => h.parts
theorem add_nt (w : World) (ao bo : Option Addr) (n m : Nat) (za zb : List Int) (hn : n < 100000) (hm : m < 100000) (ha : NatAt w ao n za) (hb : NatAt w bo m zb) :
    Calls Sacg.prog 29 #[.slice ao n n, .slice bo m m] w fun e w' => Nt w (val za + val zb) (n + m + 1) e w' := (add_any w ao bo n m za zb hn hm ha hb).mono fun _ _ h => h.parts
theorem mul_nt (w : World) (ao bo : Option Addr) (n m : Nat) (za zb : List Int) (hn : n ≤ 10000) (hm : m ≤ 10000) (ha : NatAt w ao n za) (hb : NatAt w bo m zb) :
    Calls Sacg.prog 26 #[.slice ao n n, .slice bo m m] w fun e w' => Nt w (val za * val zb) (n + m) e w' := (mul_any w ao bo n m za zb hn hm ha hb).mono fun _ _ h => h.parts

set_option maxHeartbeats 600000 in
theorem divided_nt (w : World) (ao : Option Addr) (n : Nat) (za : List Int) (b : Int) (hb0 : 0 < b) (hb1 : b ≤ 18446744073709551615) (hn : n ≤ 5000) (ha : NatAt w ao n za) :
    Calls Sacg.prog 32 #[.slice ao n n, .int .u64 b] w fun e w' => Nt w (val za / b) n e w' := by
  have hB := Kp.refl w
  go_enter Sacg.func32, Sacg.ntmps32
  go_wp2_with fail
  refine (num_nt w b (by omega) hb1).mono ?_
  rintro e w1 ⟨bo1, bn1, zb1, rfl, hb', eb1, bb1, k1⟩
  have Eb : Hid (val zb1 = b) := eb1
  replace hB := hB.trans k1
  replace ha := ha.keep k1
  clear k1 eb1
  have hb := hb'
  clear hb'
  go_wp2_with fail
  refine (divMod_any w1 ao bo1 n bn1 za zb1 (by rw [Eb.out]; exact hb0) (by omega) (by omega) ha hb).mono ?_
  rintro e w9 ⟨qo, qn, qz, ro, rn, rz, rfl, q1, q2, q3, _, _, _, _, k9⟩
  have EQ : Hid (val qz = val za / b) := by show _ = _; rw [q2, Eb.out]
  clear q2
  go_wp2
  go_ret
  exact ⟨qo, qn, qz, rfl, q1, EQ.out, q3, hB.trans k9⟩

set_option maxHeartbeats 600000 in
theorem words_nt (w : World) (ao : Option Addr) (n : Nat) (za : List Int) (hn : n ≤ 1000) (ha : NatAt w ao n za) :
    Calls Sacg.prog 33 #[.slice ao n n] w fun e w' => Nt w ((val za + 31) / 32) (n + 9) e w' := by
  have hB := Kp.refl w
  go_enter Sacg.func33, Sacg.ntmps33
  go_wp2_with fail
  refine (num_nt w 31 (by omega) (by omega)).mono ?_
  rintro e w1 ⟨bo1, bn1, zb1, rfl, hb', eb1, bb1, k1⟩
  have Eb : Hid (val zb1 = 31) := eb1
  replace hB := hB.trans k1
  replace ha := ha.keep k1
  clear k1 eb1
  have hb := hb'
  clear hb'
  go_wp2_with fail
  refine (add_nt w1 ao bo1 n bn1 za zb1 (by omega) (by omega) ha hb).mono ?_
  rintro e w2 ⟨co2, cn2, zc2, rfl, hc', ec2, bc2, k2⟩
  have Ec : Hid (val zc2 = val za + 31) := by show _ = _; rw [ec2, Eb.out]
  clear ha
  clear hb
  replace hB := hB.trans k2
  clear k2 ec2
  have hc := hc'
  clear hc'
  go_wp2_with fail
  refine (divided_nt w2 co2 cn2 zc2 32 (by omega) (by omega) (by omega) hc).mono ?_
  rintro e w3 ⟨do3, dn3, zd3, rfl, hd', ed3, bd3, k3⟩
  have Ed : Hid (val zd3 = (val za + 31) / 32) := by show _ = _; rw [ed3, Ec.out]
  clear hc
  replace hB := hB.trans k3
  clear k3 ed3
  have hd := hd'
  clear hd'
  go_wp2
  go_ret
  exact ⟨do3, dn3, zd3, rfl, hd, Ed.out, by omega, hB⟩

set_option maxHeartbeats 600000 in
theorem less_nt (w : World) (ao bo : Option Addr) (n m : Nat) (za zb : List Int) (hn : n ≤ 1000) (hm : m ≤ 1000) (ha : NatAt w ao n za) (hb : NatAt w bo m zb) (hle : Hid (val zb ≤ val za)) :
    Calls Sacg.prog 35 #[.slice ao n n, .slice bo m m] w fun e w' => Nt w (val za - val zb) n e w' := by
  go_enter Sacg.func35, Sacg.ntmps35
  go_wp2_with fail
  refine (sub_any w ao bo n m za zb (by omega) (by omega) ha hb hle).mono ?_
  rintro e w1 ⟨co, k, zs, rfl, h1, h2, h3, h4⟩
  have H2 : Hid (val zs = val za - val zb) := h2
  clear h2
  go_wp2
  go_ret
  exact ⟨co, k, zs, rfl, h1, H2.out, h3, h4⟩

set_option maxHeartbeats 600000 in
theorem minNat_nt (w : World) (ao bo : Option Addr) (n m : Nat) (za zb : List Int) (hn : n ≤ 1000) (hm : m ≤ 1000) (ha : NatAt w ao n za) (hb : NatAt w bo m zb) :
    Calls Sacg.prog 34 #[.slice ao n n, .slice bo m m] w fun e w' => Nt w (if val za < val zb then val za else val zb) (n + m) e w' := by
  by_cases h : val za < val zb
  · have hc : cmpZ (val za) (val zb) < 0 := by rw [cmpZ_lt h]; omega
    rw [if_pos h]
    clear h
    go_enter Sacg.func34, Sacg.ntmps34
    go_wp2_with fail
    refine (cmp_k w ao bo n m za zb (by omega) (by omega) ha hb).mono ?_
    rintro e w1 ⟨rfl, k1⟩
    go_wp2
    go_ret
    exact ⟨ao, n, za, rfl, ha.keep k1, rfl, by omega, k1⟩
  · have hc := cmpZ_ge (x := val za) (y := val zb) (by omega)
    rw [if_neg h]
    clear h
    go_enter Sacg.func34, Sacg.ntmps34
    go_wp2_with fail
    refine (cmp_k w ao bo n m za zb (by omega) (by omega) ha hb).mono ?_
    rintro e w1 ⟨rfl, k1⟩
    go_wp2
    go_ret
    exact ⟨bo, m, zb, rfl, hb.keep k1, rfl, by omega, k1⟩

set_option maxHeartbeats 600000 in
theorem memCost_nt (w : World) (ao : Option Addr) (n : Nat) (za : List Int) (hn : n ≤ 100) (ha : NatAt w ao n za) :
    Calls Sacg.prog 10 #[.slice ao n n] w fun e w' => Nt w (3 * val za + val za * val za / 512) 1000 e w' := by
  have hB := Kp.refl w
  go_enter Sacg.func10, Sacg.ntmps10
  go_wp2_with fail
  refine (num_nt w 3 (by omega) (by omega)).mono ?_
  rintro e w1 ⟨bo1, bn1, zb1, rfl, hb', eb1, bb1, k1⟩
  have Eb : Hid (val zb1 = 3) := eb1
  replace hB := hB.trans k1
  replace ha := ha.keep k1
  clear k1 eb1
  have hb := hb'
  clear hb'
  go_wp2_with fail
  refine (mul_nt w1 bo1 ao bn1 n zb1 za (by omega) (by omega) hb ha).mono ?_
  rintro e w2 ⟨co2, cn2, zc2, rfl, hc', ec2, bc2, k2⟩
  have Ec : Hid (val zc2 = 3 * val za) := by show _ = _; rw [ec2, Eb.out]
  clear hb
  replace hB := hB.trans k2
  replace ha := ha.keep k2
  clear k2 ec2
  have hc := hc'
  clear hc'
  go_wp2_with fail
  refine (mul_nt w2 ao ao n n za za (by omega) (by omega) ha ha).mono ?_
  rintro e w3 ⟨do3, dn3, zd3, rfl, hd', ed3, bd3, k3⟩
  have Ed : Hid (val zd3 = val za * val za) := ed3
  clear ha
  replace hB := hB.trans k3
  replace hc := hc.keep k3
  clear k3 ed3
  have hd := hd'
  clear hd'
  go_wp2_with fail
  refine (divided_nt w3 do3 dn3 zd3 512 (by omega) (by omega) (by omega) hd).mono ?_
  rintro e w4 ⟨fo4, fn4, zf4, rfl, hf', ef4, bf4, k4⟩
  have Ef : Hid (val zf4 = val za * val za / 512) := by show _ = _; rw [ef4, Ed.out]
  clear hd
  replace hB := hB.trans k4
  replace hc := hc.keep k4
  clear k4 ef4
  have hf := hf'
  clear hf'
  go_wp2_with fail
  refine (add_nt w4 co2 fo4 cn2 fn4 zc2 zf4 (by omega) (by omega) hc hf).mono ?_
  rintro e w5 ⟨go5, gn5, zg5, rfl, hg', eg5, bg5, k5⟩
  have Eg : Hid (val zg5 = 3 * val za + val za * val za / 512) := by show _ = _; rw [eg5, Ec.out, Ef.out]
  clear hc
  clear hf
  replace hB := hB.trans k5
  clear k5 eg5
  have hg := hg'
  clear hg'
  go_wp2
  go_ret
  exact ⟨go5, gn5, zg5, rfl, hg, Eg.out, by omega, hB⟩

set_option maxHeartbeats 600000 in
theorem copyCost_nt (w : World) (ao : Option Addr) (n : Nat) (za : List Int) (hn : n ≤ 100) (ha : NatAt w ao n za) :
    Calls Sacg.prog 12 #[.slice ao n n] w fun e w' => Nt w (3 * ((val za + 31) / 32)) 1000 e w' := by
  have hB := Kp.refl w
  go_enter Sacg.func12, Sacg.ntmps12
  go_wp2_with fail
  refine (num_nt w 3 (by omega) (by omega)).mono ?_
  rintro e w1 ⟨bo1, bn1, zb1, rfl, hb', eb1, bb1, k1⟩
  have Eb : Hid (val zb1 = 3) := eb1
  replace hB := hB.trans k1
  replace ha := ha.keep k1
  clear k1 eb1
  have hb := hb'
  clear hb'
  go_wp2_with fail
  refine (words_nt w1 ao n za (by omega) ha).mono ?_
  rintro e w2 ⟨co2, cn2, zc2, rfl, hc', ec2, bc2, k2⟩
  have Ec : Hid (val zc2 = (val za + 31) / 32) := ec2
  clear ha
  replace hB := hB.trans k2
  replace hb := hb.keep k2
  clear k2 ec2
  have hc := hc'
  clear hc'
  go_wp2_with fail
  refine (mul_nt w2 bo1 co2 bn1 cn2 zb1 zc2 (by omega) (by omega) hb hc).mono ?_
  rintro e w3 ⟨do3, dn3, zd3, rfl, hd', ed3, bd3, k3⟩
  have Ed : Hid (val zd3 = 3 * ((val za + 31) / 32)) := by show _ = _; rw [ed3, Eb.out, Ec.out]
  clear hb
  clear hc
  replace hB := hB.trans k3
  clear k3 ed3
  have hd := hd'
  clear hd'
  go_wp2
  go_ret
  exact ⟨do3, dn3, zd3, rfl, hd, Ed.out, by omega, hB⟩

/-- nat.Norm of a normal number is as long. -/
theorem norm_len (w : World) (ao : Option Addr) (n : Nat) (zs : List Int) (hn : n ≤ 100000) (h : NatAt w ao n zs) (hN : Nrm zs) :
    Calls Sacg.prog 16 #[.slice ao n n] w fun e w' => ∃ bo, e = .returned (.slice bo n n) ∧ Kp w w' := by
  refine (norm_any w ao n zs hn h).mono ?_
  rintro e w' ⟨ys, hv, hN', hD, hl, hh⟩
  have hlen : ys.length = n := (nrm_len hD h.dig hN' hN hv).trans h.len
  rcases hh with ⟨rfl, rfl, rfl⟩ | ⟨_, rfl, _, hb, _⟩
  · obtain rfl : n = 0 := by rw [← hlen]; rfl
    exact ⟨none, rfl, Kp.refl _⟩
  · exact ⟨_, by rw [hlen], hb⟩

set_option maxHeartbeats 600000 in
theorem expCost_nt (w : World) (ao : Option Addr) (n : Nat) (za : List Int) (hn : n ≤ 100) (ha : NatAt w ao n za) (hN : Nrm za) :
    Calls Sacg.prog 13 #[.slice ao n n] w fun e w' => Nt w (10 + 50 * (n : Int)) 1000 e w' := by
  have hB := Kp.refl w
  go_enter Sacg.func13, Sacg.ntmps13
  go_wp2_with fail
  refine (num_nt w 10 (by omega) (by omega)).mono ?_
  rintro e w1 ⟨bo1, bn1, zb1, rfl, hb', eb1, bb1, k1⟩
  have Eb : Hid (val zb1 = 10) := eb1
  replace hB := hB.trans k1
  replace ha := ha.keep k1
  clear k1 eb1
  have hb := hb'
  clear hb'
  go_wp2_with fail
  refine (num_nt w1 50 (by omega) (by omega)).mono ?_
  rintro e w2 ⟨co2, cn2, zc2, rfl, hc', ec2, bc2, k2⟩
  have Ec : Hid (val zc2 = 50) := ec2
  replace hB := hB.trans k2
  replace ha := ha.keep k2
  replace hb := hb.keep k2
  clear k2 ec2
  have hc := hc'
  clear hc'
  go_wp2_with fail
  refine (norm_len w2 ao n za (by omega) ha hN).mono ?_
  rintro e w8 ⟨xo, rfl, k8⟩
  replace hB := hB.trans k8
  replace ha := ha.keep k8
  replace hb := hb.keep k8
  replace hc := hc.keep k8
  clear k8
  go_wp2_with fail
  refine (num_nt w8 (n : Int) (by omega) (by omega)).mono ?_
  rintro e w3 ⟨do3, dn3, zd3, rfl, hd', ed3, bd3, k3⟩
  have Ed : Hid (val zd3 = (n : Int)) := ed3
  clear ha
  replace hB := hB.trans k3
  replace hb := hb.keep k3
  replace hc := hc.keep k3
  clear k3 ed3
  have hd := hd'
  clear hd'
  go_wp2_with fail
  refine (mul_nt w3 co2 do3 cn2 dn3 zc2 zd3 (by omega) (by omega) hc hd).mono ?_
  rintro e w4 ⟨fo4, fn4, zf4, rfl, hf', ef4, bf4, k4⟩
  have Ef : Hid (val zf4 = 50 * (n : Int)) := by show _ = _; rw [ef4, Ec.out, Ed.out]
  clear hc
  clear hd
  replace hB := hB.trans k4
  replace hb := hb.keep k4
  clear k4 ef4
  have hf := hf'
  clear hf'
  go_wp2_with fail
  refine (add_nt w4 bo1 fo4 bn1 fn4 zb1 zf4 (by omega) (by omega) hb hf).mono ?_
  rintro e w5 ⟨go5, gn5, zg5, rfl, hg', eg5, bg5, k5⟩
  have Eg : Hid (val zg5 = 10 + 50 * (n : Int)) := by show _ = _; rw [eg5, Eb.out, Ef.out]
  clear hb
  clear hf
  replace hB := hB.trans k5
  clear k5 eg5
  have hg := hg'
  clear hg'
  go_wp2
  go_ret
  exact ⟨go5, gn5, zg5, rfl, hg, Eg.out, by omega, hB⟩

/-- What a call that asks for q sends of the gas left. -/
def sentZ (left q : Int) : Int := if q < left - left / 64 then q else left - left / 64
theorem sent_le (x : Int) (h : 0 ≤ x) : x / 64 ≤ x := by omega
set_option maxHeartbeats 600000 in
theorem sentGas_nt (w : World) (ao qo : Option Addr) (n m : Nat) (za zq : List Int) (hn : n ≤ 100) (hm : m ≤ 100) (ha : NatAt w ao n za) (hq : NatAt w qo m zq) :
    Calls Sacg.prog 14 #[.slice ao n n, .slice qo m m] w fun e w' => Nt w (sentZ (val za) (val zq)) 1000 e w' := by
  have hB := Kp.refl w
  have hv : Hid (0 ≤ val za) := val_nonneg ha.dig
  go_enter Sacg.func14, Sacg.ntmps14
  go_wp2_with fail
  refine (divided_nt w ao n za 64 (by omega) (by omega) (by omega) ha).mono ?_
  rintro e w1 ⟨bo1, bn1, zb1, rfl, hb', eb1, bb1, k1⟩
  have Eb : Hid (val zb1 = val za / 64) := eb1
  replace hB := hB.trans k1
  replace ha := ha.keep k1
  replace hq := hq.keep k1
  clear k1 eb1
  have hb := hb'
  clear hb'
  go_wp2_with fail
  refine (less_nt w1 ao bo1 n bn1 za zb1 (by omega) (by omega) ha hb (by show _ ≤ _; rw [Eb.out]; exact sent_le _ hv.out)).mono ?_
  rintro e w2 ⟨co2, cn2, zc2, rfl, hc', ec2, bc2, k2⟩
  have Ec : Hid (val zc2 = val za - val za / 64) := by show _ = _; rw [ec2, Eb.out]
  clear ha
  clear hb
  replace hB := hB.trans k2
  replace hq := hq.keep k2
  clear k2 ec2
  have hc := hc'
  clear hc'
  go_wp2_with fail
  refine (minNat_nt w2 qo co2 m cn2 zq zc2 (by omega) (by omega) hq hc).mono ?_
  rintro e w3 ⟨do3, dn3, zd3, rfl, hd', ed3, bd3, k3⟩
  have Ed : Hid (val zd3 = sentZ (val za) (val zq)) := by show _ = _; rw [ed3, Ec.out]; rfl
  clear hq
  clear hc
  replace hB := hB.trans k3
  clear k3 ed3
  have hd := hd'
  clear hd'
  go_wp2
  go_ret
  exact ⟨do3, dn3, zd3, rfl, hd, Ed.out, by omega, hB⟩

end Go.Proofs.Ygcsac
