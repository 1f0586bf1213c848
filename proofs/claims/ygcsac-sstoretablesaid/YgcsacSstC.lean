/- law.sstoreHolds. -/
import Derived.Test.YgcsacSstT
import Derived.Deep.Cut
namespace Go.Proofs.Ygcsac
open Go.RowKit

set_option maxHeartbeats 2000000 in
theorem sstoreHolds_any (w : World) (o v n : Int) (cold : Bool) (co po mo : Option Addr) (cn pn mn : Nat) (cz pz mz : List Int) (o0 : 0 ≤ o) (o3 : o < 3) (v0 : 0 ≤ v) (v3 : v < 3) (n0 : 0 ≤ n) (n3 : n < 3)
    (bc : cn ≤ 100) (bp : pn ≤ 100) (bm : mn ≤ 100) (hc : NatAt w co cn cz) (hp : NatAt w po pn pz) (hm : NatAt w mo mn mz)
    (ec : Hid (val cz = tabZ (9 * o + 3 * v + n).toNat 0 + (if cold = true then 2100 else 0))) (ep : Hid (val pz = tabZ (9 * o + 3 * v + n).toNat 1)) (em : Hid (val mz = tabZ (9 * o + 3 * v + n).toNat 2)) :
    Calls Sacg.prog 17 #[.int .u8 o, .int .u8 v, .int .u8 n, .bool cold, .slice co cn cn, .slice po pn pn, .slice mo mn mn] w fun e w' => e = .returned (.bool true) ∧ Kp w w' := by
  have hi := tab_index (9 * o + 3 * v + n) (by omega) (by omega)
  have b0 := tabZ_bd (9 * o + 3 * v + n).toNat 0
  have b1 := tabZ_bd (9 * o + 3 * v + n).toNat 1
  have b2 := tabZ_bd (9 * o + 3 * v + n).toNat 2
  obtain ⟨r0, e0⟩ : ∃ r, r = tabZ (9 * o + 3 * v + n).toNat 0 := ⟨_, rfl⟩
  obtain ⟨r1, e1⟩ : ∃ r, r = tabZ (9 * o + 3 * v + n).toNat 1 := ⟨_, rfl⟩
  obtain ⟨r2, e2⟩ : ∃ r, r = tabZ (9 * o + 3 * v + n).toNat 2 := ⟨_, rfl⟩
  rw [← e0] at ec b0
  rw [← e1] at ep b1
  rw [← e2] at em b2
  simp only [← e0, ← e1, ← e2] at hi
  clear e0 e1 e2
  cases cold
  · have EC : Hid (val cz = r0) := by show _ = _; rw [ec.out]; simp
    clear ec
    go_enter Sacg.func17, Sacg.ntmps17
    go_upto_region 1 with fail
    go_step
    refine wpList_build_as rfl 56 _ rfl #[.int .u64 100, .int .u64 0, .int .u64 0] (by kernel_rfl) ?_
    refine wpList_build_as rfl 56 _ rfl #[.int .u64 20000, .int .u64 0, .int .u64 0] (by kernel_rfl) ?_
    refine wpList_build_as rfl 56 _ rfl #[.int .u64 20000, .int .u64 0, .int .u64 0] (by kernel_rfl) ?_
    refine wpList_build_as rfl 56 _ rfl #[.int .u64 100, .int .u64 19900, .int .u64 0] (by kernel_rfl) ?_
    refine wpList_build_as rfl 56 _ rfl #[.int .u64 100, .int .u64 0, .int .u64 0] (by kernel_rfl) ?_
    refine wpList_build_as rfl 56 _ rfl #[.int .u64 100, .int .u64 0, .int .u64 0] (by kernel_rfl) ?_
    refine wpList_build_as rfl 56 _ rfl #[.int .u64 100, .int .u64 19900, .int .u64 0] (by kernel_rfl) ?_
    refine wpList_build_as rfl 56 _ rfl #[.int .u64 100, .int .u64 0, .int .u64 0] (by kernel_rfl) ?_
    refine wpList_build_as rfl 56 _ rfl #[.int .u64 100, .int .u64 0, .int .u64 0] (by kernel_rfl) ?_
    refine wpList_build_as rfl 56 _ rfl #[.int .u64 100, .int .u64 0, .int .u64 0] (by kernel_rfl) ?_
    refine wpList_build_as rfl 56 _ rfl #[.int .u64 100, .int .u64 2800, .int .u64 4800] (by kernel_rfl) ?_
    refine wpList_build_as rfl 56 _ rfl #[.int .u64 100, .int .u64 0, .int .u64 4800] (by kernel_rfl) ?_
    refine wpList_build_as rfl 56 _ rfl #[.int .u64 2900, .int .u64 4800, .int .u64 0] (by kernel_rfl) ?_
    refine wpList_build_as rfl 56 _ rfl #[.int .u64 100, .int .u64 0, .int .u64 0] (by kernel_rfl) ?_
    refine wpList_build_as rfl 56 _ rfl #[.int .u64 2900, .int .u64 0, .int .u64 0] (by kernel_rfl) ?_
    refine wpList_build_as rfl 56 _ rfl #[.int .u64 100, .int .u64 4800, .int .u64 0] (by kernel_rfl) ?_
    refine wpList_build_as rfl 56 _ rfl #[.int .u64 100, .int .u64 2800, .int .u64 0] (by kernel_rfl) ?_
    refine wpList_build_as rfl 56 _ rfl #[.int .u64 100, .int .u64 0, .int .u64 0] (by kernel_rfl) ?_
    refine wpList_build_as rfl 56 _ rfl #[.int .u64 100, .int .u64 0, .int .u64 0] (by kernel_rfl) ?_
    refine wpList_build_as rfl 56 _ rfl #[.int .u64 100, .int .u64 0, .int .u64 4800] (by kernel_rfl) ?_
    refine wpList_build_as rfl 56 _ rfl #[.int .u64 100, .int .u64 2800, .int .u64 4800] (by kernel_rfl) ?_
    refine wpList_build_as rfl 56 _ rfl #[.int .u64 100, .int .u64 4800, .int .u64 0] (by kernel_rfl) ?_
    refine wpList_build_as rfl 56 _ rfl #[.int .u64 100, .int .u64 0, .int .u64 0] (by kernel_rfl) ?_
    refine wpList_build_as rfl 56 _ rfl #[.int .u64 100, .int .u64 2800, .int .u64 0] (by kernel_rfl) ?_
    refine wpList_build_as rfl 56 _ rfl #[.int .u64 2900, .int .u64 4800, .int .u64 0] (by kernel_rfl) ?_
    refine wpList_build_as rfl 56 _ rfl #[.int .u64 2900, .int .u64 0, .int .u64 0] (by kernel_rfl) ?_
    refine wpList_build_as rfl 56 _ rfl #[.int .u64 100, .int .u64 0, .int .u64 0] (by kernel_rfl) ?_
    refine wpList_build_as rfl 57 _ rfl tabA (by kernel_rfl) ?_
    have hrow : Row (w.alloc (.cells #[.int .u64 (r0), .int .u64 r1, .int .u64 r2] 56)) w.heap.size 56 [.int .u64 (r0), .int .u64 r1, .int .u64 r2] := Row.new w 56 _
    have hB : Kp w (w.alloc (.cells #[.int .u64 (r0), .int .u64 r1, .int .u64 r2] 56)) := (Below.refl _ _).alloc (Nat.le_refl _) _
    go_wp2_with fail
    clear hi
    refine (fromU64_any _ (r0) (by omega) (by omega)).mono ?_
    intro e w1 hG
    obtain ⟨xo, xn, xz, rfl, hx, ex, bx, k1⟩ := hG.parts
    replace hc := (hc.keep hB).keep k1
    replace hp := (hp.keep hB).keep k1
    replace hm := (hm.keep hB).keep k1
    replace hrow := Below.row k1 hrow hrow.lt
    replace hB := hB.trans k1
    have t1 : (cmpZ (val cz) (val xz) == 0) = true := by rw [cmpZ_eq (EC.out.trans ex.symm)]; rfl
    clear hG k1 ex
    go_wp2_with fail
    refine (cmp_k _ _ _ _ _ cz xz (by omega) (by omega) hc hx).mono ?_
    rintro e w2 ⟨rfl, k2⟩
    replace hp := hp.keep k2
    replace hm := hm.keep k2
    replace hrow := Below.row k2 hrow hrow.lt
    replace hB := hB.trans k2
    have q1 : w2.cell? ⟨w.heap.size, 1, none⟩ = some (.int .u64 r1) := hrow.cell 1
    clear k2 hc hx
    go_wp2_with fail
    refine (fromU64_any _ r1 (by omega) (by omega)).mono ?_
    intro e w3 hG
    obtain ⟨yo, yn, yz, rfl, hy, ey, by', k3⟩ := hG.parts
    replace hp := hp.keep k3
    replace hm := hm.keep k3
    replace hrow := Below.row k3 hrow hrow.lt
    replace hB := hB.trans k3
    have t2 : (cmpZ (val pz) (val yz) == 0) = true := by rw [cmpZ_eq (ep.out.trans ey.symm)]; rfl
    clear hG k3 ey q1
    go_wp2_with fail
    refine (cmp_k _ _ _ _ _ pz yz (by omega) (by omega) hp hy).mono ?_
    rintro e w4 ⟨rfl, k4⟩
    replace hm := hm.keep k4
    replace hrow := Below.row k4 hrow hrow.lt
    replace hB := hB.trans k4
    have q2 : w4.cell? ⟨w.heap.size, 2, none⟩ = some (.int .u64 r2) := hrow.cell 2
    clear k4 hp hy
    go_wp2_with fail
    refine (fromU64_any _ r2 (by omega) (by omega)).mono ?_
    intro e w5 hG
    obtain ⟨zo, zn, zz, rfl, hz, ez, bz, k5⟩ := hG.parts
    replace hm := hm.keep k5
    replace hB := hB.trans k5
    have t3 : (cmpZ (val mz) (val zz) == 0) = true := by rw [cmpZ_eq (em.out.trans ez.symm)]; rfl
    clear hG k5 ez q2 hrow
    go_wp2_with fail
    refine (cmp_k _ _ _ _ _ mz zz (by omega) (by omega) hm hz).mono ?_
    rintro e w6 ⟨rfl, k6⟩
    replace hB := hB.trans k6
    clear k6
    go_wp2
    go_ret
    exact ⟨rfl, hB⟩
  · have EC : Hid (val cz = r0 + 2100) := by show _ = _; rw [ec.out]; simp
    clear ec
    go_enter Sacg.func17, Sacg.ntmps17
    go_upto_region 1 with fail
    go_step
    refine wpList_build_as rfl 56 _ rfl #[.int .u64 100, .int .u64 0, .int .u64 0] (by kernel_rfl) ?_
    refine wpList_build_as rfl 56 _ rfl #[.int .u64 20000, .int .u64 0, .int .u64 0] (by kernel_rfl) ?_
    refine wpList_build_as rfl 56 _ rfl #[.int .u64 20000, .int .u64 0, .int .u64 0] (by kernel_rfl) ?_
    refine wpList_build_as rfl 56 _ rfl #[.int .u64 100, .int .u64 19900, .int .u64 0] (by kernel_rfl) ?_
    refine wpList_build_as rfl 56 _ rfl #[.int .u64 100, .int .u64 0, .int .u64 0] (by kernel_rfl) ?_
    refine wpList_build_as rfl 56 _ rfl #[.int .u64 100, .int .u64 0, .int .u64 0] (by kernel_rfl) ?_
    refine wpList_build_as rfl 56 _ rfl #[.int .u64 100, .int .u64 19900, .int .u64 0] (by kernel_rfl) ?_
    refine wpList_build_as rfl 56 _ rfl #[.int .u64 100, .int .u64 0, .int .u64 0] (by kernel_rfl) ?_
    refine wpList_build_as rfl 56 _ rfl #[.int .u64 100, .int .u64 0, .int .u64 0] (by kernel_rfl) ?_
    refine wpList_build_as rfl 56 _ rfl #[.int .u64 100, .int .u64 0, .int .u64 0] (by kernel_rfl) ?_
    refine wpList_build_as rfl 56 _ rfl #[.int .u64 100, .int .u64 2800, .int .u64 4800] (by kernel_rfl) ?_
    refine wpList_build_as rfl 56 _ rfl #[.int .u64 100, .int .u64 0, .int .u64 4800] (by kernel_rfl) ?_
    refine wpList_build_as rfl 56 _ rfl #[.int .u64 2900, .int .u64 4800, .int .u64 0] (by kernel_rfl) ?_
    refine wpList_build_as rfl 56 _ rfl #[.int .u64 100, .int .u64 0, .int .u64 0] (by kernel_rfl) ?_
    refine wpList_build_as rfl 56 _ rfl #[.int .u64 2900, .int .u64 0, .int .u64 0] (by kernel_rfl) ?_
    refine wpList_build_as rfl 56 _ rfl #[.int .u64 100, .int .u64 4800, .int .u64 0] (by kernel_rfl) ?_
    refine wpList_build_as rfl 56 _ rfl #[.int .u64 100, .int .u64 2800, .int .u64 0] (by kernel_rfl) ?_
    refine wpList_build_as rfl 56 _ rfl #[.int .u64 100, .int .u64 0, .int .u64 0] (by kernel_rfl) ?_
    refine wpList_build_as rfl 56 _ rfl #[.int .u64 100, .int .u64 0, .int .u64 0] (by kernel_rfl) ?_
    refine wpList_build_as rfl 56 _ rfl #[.int .u64 100, .int .u64 0, .int .u64 4800] (by kernel_rfl) ?_
    refine wpList_build_as rfl 56 _ rfl #[.int .u64 100, .int .u64 2800, .int .u64 4800] (by kernel_rfl) ?_
    refine wpList_build_as rfl 56 _ rfl #[.int .u64 100, .int .u64 4800, .int .u64 0] (by kernel_rfl) ?_
    refine wpList_build_as rfl 56 _ rfl #[.int .u64 100, .int .u64 0, .int .u64 0] (by kernel_rfl) ?_
    refine wpList_build_as rfl 56 _ rfl #[.int .u64 100, .int .u64 2800, .int .u64 0] (by kernel_rfl) ?_
    refine wpList_build_as rfl 56 _ rfl #[.int .u64 2900, .int .u64 4800, .int .u64 0] (by kernel_rfl) ?_
    refine wpList_build_as rfl 56 _ rfl #[.int .u64 2900, .int .u64 0, .int .u64 0] (by kernel_rfl) ?_
    refine wpList_build_as rfl 56 _ rfl #[.int .u64 100, .int .u64 0, .int .u64 0] (by kernel_rfl) ?_
    refine wpList_build_as rfl 57 _ rfl tabA (by kernel_rfl) ?_
    have hrow : Row (w.alloc (.cells #[.int .u64 (r0 + 2100), .int .u64 r1, .int .u64 r2] 56)) w.heap.size 56 [.int .u64 (r0 + 2100), .int .u64 r1, .int .u64 r2] := Row.new w 56 _
    have hB : Kp w (w.alloc (.cells #[.int .u64 (r0 + 2100), .int .u64 r1, .int .u64 r2] 56)) := (Below.refl _ _).alloc (Nat.le_refl _) _
    go_wp2_with fail
    clear hi
    refine (fromU64_any _ (r0 + 2100) (by omega) (by omega)).mono ?_
    intro e w1 hG
    obtain ⟨xo, xn, xz, rfl, hx, ex, bx, k1⟩ := hG.parts
    replace hc := (hc.keep hB).keep k1
    replace hp := (hp.keep hB).keep k1
    replace hm := (hm.keep hB).keep k1
    replace hrow := Below.row k1 hrow hrow.lt
    replace hB := hB.trans k1
    have t1 : (cmpZ (val cz) (val xz) == 0) = true := by rw [cmpZ_eq (EC.out.trans ex.symm)]; rfl
    clear hG k1 ex
    go_wp2_with fail
    refine (cmp_k _ _ _ _ _ cz xz (by omega) (by omega) hc hx).mono ?_
    rintro e w2 ⟨rfl, k2⟩
    replace hp := hp.keep k2
    replace hm := hm.keep k2
    replace hrow := Below.row k2 hrow hrow.lt
    replace hB := hB.trans k2
    have q1 : w2.cell? ⟨w.heap.size, 1, none⟩ = some (.int .u64 r1) := hrow.cell 1
    clear k2 hc hx
    go_wp2_with fail
    refine (fromU64_any _ r1 (by omega) (by omega)).mono ?_
    intro e w3 hG
    obtain ⟨yo, yn, yz, rfl, hy, ey, by', k3⟩ := hG.parts
    replace hp := hp.keep k3
    replace hm := hm.keep k3
    replace hrow := Below.row k3 hrow hrow.lt
    replace hB := hB.trans k3
    have t2 : (cmpZ (val pz) (val yz) == 0) = true := by rw [cmpZ_eq (ep.out.trans ey.symm)]; rfl
    clear hG k3 ey q1
    go_wp2_with fail
    refine (cmp_k _ _ _ _ _ pz yz (by omega) (by omega) hp hy).mono ?_
    rintro e w4 ⟨rfl, k4⟩
    replace hm := hm.keep k4
    replace hrow := Below.row k4 hrow hrow.lt
    replace hB := hB.trans k4
    have q2 : w4.cell? ⟨w.heap.size, 2, none⟩ = some (.int .u64 r2) := hrow.cell 2
    clear k4 hp hy
    go_wp2_with fail
    refine (fromU64_any _ r2 (by omega) (by omega)).mono ?_
    intro e w5 hG
    obtain ⟨zo, zn, zz, rfl, hz, ez, bz, k5⟩ := hG.parts
    replace hm := hm.keep k5
    replace hB := hB.trans k5
    have t3 : (cmpZ (val mz) (val zz) == 0) = true := by rw [cmpZ_eq (em.out.trans ez.symm)]; rfl
    clear hG k5 ez q2 hrow
    go_wp2_with fail
    refine (cmp_k _ _ _ _ _ mz zz (by omega) (by omega) hm hz).mono ?_
    rintro e w6 ⟨rfl, k6⟩
    replace hB := hB.trans k6
    clear k6
    go_wp2
    go_ret
    exact ⟨rfl, hB⟩
end Go.Proofs.Ygcsac
