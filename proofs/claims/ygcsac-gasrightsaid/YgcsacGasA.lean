/- law.gasHolds: it answers true of what yp's formulas give. -/
import Derived.Test.YgcsacNatL
import Derived.Deep.RegionHeld3
import Derived.Deep.Cut
namespace Go.Proofs.Ygcsac
open Go.RowKit

theorem Kp.drew {a b : World} (h : Kp a b) : Kp a b.drew := Below.drew h
theorem Kp.alloc {a b : World} (h : Kp a b) (o : Obj) : Kp a (b.alloc o) := Below.alloc h (Below.size h) o
theorem Kp.cell {a b : World} (h : Kp a b) {p : Addr} {v : Value} (hc : a.cell? p = some v) : b.cell? p = some v := (Below.cell h (World.block_lt_of_cell? a p hc)).trans hc
theorem NatAt.drew {w : World} {ao : Option Addr} {n : Nat} {zs : List Int} (h : NatAt w ao n zs) : NatAt w.drew ao n zs := ⟨h.len, h.dig, h.nil, h.here⟩
theorem one_lit (w : World) (d : Int) (h0 : 0 ≤ d) (h : d ≤ 255) : NatAt (w.alloc (.cells #[.int .u8 d] 5)) (some ⟨w.heap.size, 0, none⟩) 1 [d] :=
  NatAt.ofRow (T := 5) (Row.new w 5 [.int .u8 d]) (fun z hz => by rw [List.mem_singleton.1 hz]; exact ⟨h0, h⟩) rfl
theorem Row.keep {a b : World} {g : Nat} {T : TypeId} {xs : List Value} (h : Row a g T xs) (k : Kp a b) : Row b g T xs := Below.row k h h.lt
/-- How many bytes of the exponent count, when p of them are seen and f is the first that is not 0. -/
def byt (f p : Nat) : Int := if p ≤ f then 0 else ((32 - f : Nat) : Int)
theorem byt_lo {f p : Nat} (h : p ≤ f) : byt f p = 0 := by unfold byt; rw [if_pos h]
theorem byt_hi {f p : Nat} (h : f < p) : byt f p = ((32 - f : Nat) : Int) := by unfold byt; rw [if_neg (by omega)]
theorem byt_end (f : Nat) (h : f ≤ 32) : byt f 32 = ((32 - f : Nat) : Int) := by
  by_cases e : f = 32
  · subst e; rw [byt_lo (Nat.le_refl _)]; rfl
  · exact byt_hi (by omega)
theorem byt_bd (f p : Nat) : 0 ≤ byt f p ∧ byt f p ≤ 32 := by unfold byt; split <;> omega
theorem fromU64_exp (w : World) (bb : Int) (h0 : 0 ≤ bb) (h1 : bb ≤ 32) : Calls Sacg.prog 11 #[.int .u64 (IntKind.u64.wrap (IntKind.i64.wrap (10 + IntKind.i64.wrap (50 * bb))))] w fun e w' => Nt w (10 + 50 * bb) 8 e w' := by
  have e1 : IntKind.i64.wrap (50 * bb) = 50 * bb := by rw [IntKind.wrap_i64]; omega
  have e2 : IntKind.i64.wrap (10 + 50 * bb) = 10 + 50 * bb := by rw [IntKind.wrap_i64]; omega
  have e3 : IntKind.u64.wrap (10 + 50 * bb) = 10 + 50 * bb := by rw [IntKind.wrap_u64]; omega
  rw [e1, e2, e3]
  exact fromU64_nt w _ (by omega) (by omega)
theorem val_one (d : Int) : val [d] = d := by simp [val]

set_option maxHeartbeats 2000000 in
theorem gasHolds_any (w : World) (W N L : Int) (qo mo co xo so : Option Addr) (qn mn cn xn sn f : Nat) (zq zm zc zx zs ez : List Int)
    (W0 : 0 ≤ W) (W1 : W ≤ 18446744073709551615) (N0 : 0 ≤ N) (N1 : N ≤ 18446744073709551615) (L0 : 0 ≤ L) (L1 : L ≤ 18446744073709551615)
    (bq : qn ≤ 100) (bm : mn ≤ 1000) (bc : cn ≤ 1000) (bx : xn ≤ 1000) (bs : sn ≤ 1000)
    (hq : NatAt w qo qn zq) (hm : NatAt w mo mn zm) (hc : NatAt w co cn zc) (hx : NatAt w xo xn zx) (hs : NatAt w so sn zs)
    (hel : ez.length = 32) (hf : f ≤ 32) (hf0 : Hid (∀ j, j < f → ez.getD j 0 = 0)) (hf1 : Hid (f < 32 → ez.getD f 0 ≠ 0))
    (em : Hid (val zm = 3 * W + W * W / 512)) (ec : Hid (val zc = 3 * ((N + 31) / 32))) (ex : Hid (val zx = 10 + 50 * ((32 - f : Nat) : Int))) (es : Hid (val zs = sentZ L (val zq))) :
    Calls Sacg.prog 9 #[.int .u64 W, .int .u64 N, .int .u64 L, .slice qo qn qn, .agg (bytesOf ez).toArray, .agg #[.slice mo mn mn, .slice co cn cn, .slice xo xn xn, .slice so sn sn]] w fun e w' => e = .returned (.bool true) ∧ Kp w w' := by
  have hB : Kp w ((w.alloc (.cells (bytesOf ez).toArray 23)).alloc (.cells #[.slice mo mn mn, .slice co cn cn, .slice xo xn xn, .slice so sn sn] 32)) := ((Kp.refl w).alloc _).alloc _
  have hE : Row ((w.alloc (.cells (bytesOf ez).toArray 23)).alloc (.cells #[.slice mo mn mn, .slice co cn cn, .slice xo xn xn, .slice so sn sn] 32)) w.heap.size 23 (bytesOf ez) := (Row.new w 23 _).alloc _
  have hG : Row ((w.alloc (.cells (bytesOf ez).toArray 23)).alloc (.cells #[.slice mo mn mn, .slice co cn cn, .slice xo xn xn, .slice so sn sn] 32)) (w.heap.size + 1) 32 [.slice mo mn mn, .slice co cn cn, .slice xo xn xn, .slice so sn sn] := by
    have := Row.new (w.alloc (.cells (bytesOf ez).toArray 23)) 32 [.slice mo mn mn, .slice co cn cn, .slice xo xn xn, .slice so sn sn]
    rw [World.size_alloc] at this
    exact this
  replace hq := hq.keep hB
  replace hm := hm.keep hB
  replace hc := hc.keep hB
  replace hx := hx.keep hB
  replace hs := hs.keep hB
  go_enter Sacg.func9, Sacg.ntmps9
  go_wp2_with fail
  refine (fromU64_nt _ W W0 W1).mono ?_
  rintro e w1 ⟨ao1, an1, za1, rfl, ha', ea1, ba1, k1⟩
  have Ea : Hid (val za1 = W) := ea1
  replace hB := hB.trans k1
  replace hq := hq.keep k1
  replace hm := hm.keep k1
  replace hc := hc.keep k1
  replace hx := hx.keep k1
  replace hs := hs.keep k1
  replace hE := hE.keep k1
  replace hG := hG.keep k1
  clear k1 ea1
  have ha := ha'
  clear ha'
  go_wp2_with fail
  refine (mul_nt w1 ao1 ao1 an1 an1 za1 za1 (by omega) (by omega) ha ha).mono ?_
  rintro e w2 ⟨do2, dn2, zd2, rfl, hd', ed2, bd2, k2⟩
  have Ed : Hid (val zd2 = W * W) := by show _ = _; rw [ed2, Ea.out]
  replace hB := hB.trans k2
  replace hq := hq.keep k2
  replace hm := hm.keep k2
  replace hc := hc.keep k2
  replace hx := hx.keep k2
  replace hs := hs.keep k2
  replace ha := ha.keep k2
  replace hE := hE.keep k2
  replace hG := hG.keep k2
  clear k2 ed2
  have hd := hd'
  clear hd'
  go_wp2_with fail
  refine (pow2_nine w2).mono ?_
  rintro e w3 ⟨po3, pn3, zp3, rfl, hp', ep3, bp3, k3⟩
  have Ep : Hid (val zp3 = 512) := ep3
  replace hB := hB.trans k3
  replace hq := hq.keep k3
  replace hm := hm.keep k3
  replace hc := hc.keep k3
  replace hx := hx.keep k3
  replace hs := hs.keep k3
  replace ha := ha.keep k3
  replace hd := hd.keep k3
  replace hE := hE.keep k3
  replace hG := hG.keep k3
  clear k3 ep3
  have hp := hp'
  clear hp'
  go_wp2_with fail
  refine (divMod_any _ do2 po3 dn2 pn3 zd2 zp3 (by rw [Ep.out]; omega) (by omega) (by omega) hd hp).mono ?_
  rintro e w4 ⟨uo4, un4, zu4, ro4, rn4, zr4, rfl, hu', eu4, bu4, hr', er4, Nr, br4, k4⟩
  have Eu : Hid (val zu4 = W * W / 512) := by show _ = _; rw [eu4, Ed.out, Ep.out]
  have Er : Hid (val zr4 = W * W % 512) := by show _ = _; rw [er4, Ed.out, Ep.out]
  clear hd
  clear hp
  replace hB := hB.trans k4
  replace hq := hq.keep k4
  replace hm := hm.keep k4
  replace hc := hc.keep k4
  replace hx := hx.keep k4
  replace hs := hs.keep k4
  replace ha := ha.keep k4
  replace hE := hE.keep k4
  replace hG := hG.keep k4
  clear k4 eu4 er4
  have hu := hu'
  have hr := hr'
  clear hu' hr'
  clear hr Er Nr
  go_wp2_with fail
  have hcell : w4.cell? ⟨w.heap.size + 1, 0, none⟩ = some (.slice mo mn mn) := hG.cell 0
  go_region_held3 (fun w' => w'.cell? ⟨w.heap.size + 1, 0, none⟩ = some (.slice mo mn mn)) (first | exact Kp.cell (by assumption) (by assumption) | go_keep) (first | (go_at_call 26; refine (mul_nt _ ao1 _ an1 1 za1 [3] (by omega) (by omega) ?_ ?_).mono ?_; exact ha.keep (by repeat (first | exact Kp.refl _ | apply Kp.drew | apply Kp.alloc)); exact (one_lit w4 3 (by omega) (by omega)).drew; rintro e v1 ⟨fo, fn, zf, rfl, hf1', ef1, bf1, kv1⟩; have Ef1 : Hid (val zf = W * 3) := (by show _ = _; rw [ef1, Ea.out, val_one]); clear ef1; have hK := Kp.trans (show Kp w4 _ from (by repeat (first | exact Kp.refl _ | apply Kp.drew | apply Kp.alloc))) kv1; clear kv1) | (go_at_call 29; refine (add_nt _ fo uo4 fn un4 zf zu4 (by omega) (by omega) hf1' (hu.keep hK)).mono ?_; rintro e v2 ⟨go, gn, zg, rfl, hg1, eg1, bg1, kv2⟩; have Eg1 : Hid (val zg = 3 * W + W * W / 512) := (by show _ = _; rw [eg1, Ef1.out, Eu.out, Int.mul_comm W 3]); clear eg1; replace hK := hK.trans kv2; clear kv2) | (go_at_call 28; refine (cmp_k _ mo go mn gn zm zg (by omega) (by omega) (hm.keep hK) hg1).mono ?_; rintro e v3 ⟨rfl, kv3⟩; have t1 : (cmpZ (val zm) (val zg) != 0) = false := (by rw [cmpZ_eq (em.out.trans Eg1.out.symm)]; rfl); replace hK := hK.trans kv3; clear kv3))
  clear hm
  clear ha
  clear hu
  replace hB := hB.trans hK
  replace hq := hq.keep hK
  replace hc := hc.keep hK
  replace hx := hx.keep hK
  replace hs := hs.keep hK
  replace hE := hE.keep hK
  replace hG := hG.keep hK
  clear hK hcell hf1' hg1 Ef1 Eg1 Ea Ed Ep Eu em
  go_wp2_with fail
  refine (fromU64_nt _ N N0 N1).mono ?_
  rintro e w5 ⟨no5, nn5, zn5, rfl, hn', en5, bn5, k5⟩
  have En : Hid (val zn5 = N) := en5
  replace hB := hB.trans k5
  replace hq := hq.keep k5
  replace hc := hc.keep k5
  replace hx := hx.keep k5
  replace hs := hs.keep k5
  replace hE := hE.keep k5
  replace hG := hG.keep k5
  clear k5 en5
  have hn := hn'
  clear hn'
  have hl := one_lit w5 32 (by omega) (by omega)
  have kk := (Kp.refl w5).alloc (.cells #[.int .u8 32] 5)
  replace hB := hB.trans kk
  replace hq := hq.keep kk
  replace hc := hc.keep kk
  replace hx := hx.keep kk
  replace hs := hs.keep kk
  replace hn := hn.keep kk
  replace hE := hE.keep kk
  replace hG := hG.keep kk
  clear kk
  go_wp2_with fail
  refine (divMod_any _ no5 (some ⟨w5.heap.size, 0, none⟩) nn5 1 zn5 [32] (by rw [val_one]; omega) (by omega) (by omega) hn hl).mono ?_
  rintro e w6 ⟨do6, dn6, zd6, ro6, rn6, zr6, rfl, hd', ed6, bd6, hr', er6, Nr, br6, k6⟩
  have Ed : Hid (val zd6 = N / 32) := by show _ = _; rw [ed6, En.out, val_one]
  have Er : Hid (val zr6 = N % 32) := by show _ = _; rw [er6, En.out, val_one]
  clear hn
  clear hl
  replace hB := hB.trans k6
  replace hq := hq.keep k6
  replace hc := hc.keep k6
  replace hx := hx.keep k6
  replace hs := hs.keep k6
  replace hE := hE.keep k6
  replace hG := hG.keep k6
  clear k6 ed6 er6
  have hd := hd'
  have hr := hr'
  clear hd' hr'
  have hr0 : (rn6 = 0 ∧ (N + 31) / 32 = N / 32) ∨ (0 < rn6 ∧ (N + 31) / 32 = N / 32 + 1) := by
    by_cases h : rn6 = 0
    · left; have h1 := Er.out; rw [hr.bare _ _ _ _ h] at h1; simp only [val] at h1; exact ⟨h, by omega⟩
    · right; have h1 := val_lt_of_len (a := []) (fun z hz => (by cases hz)) hr.dig Nr (by rw [hr.len]; simp; omega); rw [Er.out] at h1; simp only [val] at h1; exact ⟨by omega, by omega⟩
  clear hr Er Nr
  have branch : True := trivial
  clear branch
  rcases hr0 with ⟨hr0, hw⟩ | ⟨hr0, hw⟩
  · have Ey : Hid (val zd6 = (N + 31) / 32) := Ed.out.trans hw.symm
    clear hw Ed
    go_upto_region 8 with fail
    obtain ⟨yo, rfl⟩ : ∃ v, v = do6 := ⟨_, rfl⟩
    obtain ⟨yn, rfl⟩ : ∃ v, v = dn6 := ⟨_, rfl⟩
    obtain ⟨zy, rfl⟩ : ∃ v, v = zd6 := ⟨_, rfl⟩
    obtain ⟨vw, rfl⟩ : ∃ v, v = w6 := ⟨_, rfl⟩
    have hy := hd
    clear hd
    have hcell : vw.cell? ⟨w.heap.size + 1, 1, none⟩ = some (.slice co cn cn) := hG.cell 1
    go_region_held3 (fun w' => w'.cell? ⟨w.heap.size + 1, 1, none⟩ = some (.slice co cn cn)) (first | exact Kp.cell (by assumption) (by assumption) | go_keep) (first | (go_at_call 26; refine (mul_nt _ yo _ yn 1 zy [3] (by omega) (by omega) ?_ ?_).mono ?_; exact hy.keep (by repeat (first | exact Kp.refl _ | apply Kp.drew | apply Kp.alloc)); exact (one_lit vw 3 (by omega) (by omega)).drew; rintro e x1 ⟨fo, fn, zf, rfl, hf1', ef1, bf1, kv1⟩; have Ef1 : Hid (val zf = 3 * ((N + 31) / 32)) := (by show _ = _; rw [ef1, Ey.out, val_one, Int.mul_comm]); clear ef1; have hK := Kp.trans (show Kp vw _ from (by repeat (first | exact Kp.refl _ | apply Kp.drew | apply Kp.alloc))) kv1; clear kv1) | (go_at_call 28; refine (cmp_k _ co fo cn fn zc zf (by omega) (by omega) (hc.keep hK) hf1').mono ?_; rintro e x2 ⟨rfl, kv3⟩; have t2 : (cmpZ (val zc) (val zf) != 0) = false := (by rw [cmpZ_eq (ec.out.trans Ef1.out.symm)]; rfl); replace hK := hK.trans kv3; clear kv3))
    clear hc
    clear hy
    replace hB := hB.trans hK
    replace hq := hq.keep hK
    replace hx := hx.keep hK
    replace hs := hs.keep hK
    replace hE := hE.keep hK
    replace hG := hG.keep hK
    clear hK hcell hf1' Ef1 Ey ec
    go_upto_region 11 with fail
    go_step
    refine wpList_load_row rfl 23 _ rfl w.heap.size rfl 23 _ _ _ hE Sacg.underlying23 rfl (by rw [List.size_toArray, bytesOf_length, hel]; kernel_rfl) ?_
    go_wp2
    go_loop [20, 70] (fun bv i => ∃ p : Nat, p ≤ 32 ∧ i = .int .i64 p ∧ bv = .int .i64 (byt f p)) (fun _ i => 32 - (intOf i).toNat)
    case atStart => exact ⟨0, Nat.zero_le _, rfl, by rw [byt_lo (Nat.zero_le _)]⟩
    case round =>
      obtain ⟨p, hp, rfl, rfl⟩ := hrel
      have hbb := byt_bd f p
      obtain ⟨bb, ebb⟩ : ∃ bb, bb = byt f p := ⟨_, rfl⟩
      rw [← ebb] at hbb ⊢
      have EB : Hid (bb = byt f p) := ebb
      clear ebb
      by_cases hlt : p < 32
      · obtain ⟨c, ecc⟩ : ∃ c, c = ez.getD p 0 := ⟨_, rfl⟩
        have hi := fun w => run_index_int (P := Sacg.prog) w 23 5 32 .u8 .i64 (bytesOf ez).toArray (p : Int) Sacg.underlying23 Sacg.underlying5 (by kernel_rfl) (by omega) (by omega) (.int .u8 c) (by rw [Int.toNat_natCast, List.getElem?_toArray, bytesOf_at ez p (by omega), ecc])
        rcases Nat.lt_trichotomy p f with hpf | hpf | hpf
        · have hc0 : (c != 0) = false := by rw [ecc, hf0.out p hpf]; rfl
          have HB : Hid (bb = byt f (p + 1)) := by show _ = _; rw [EB.out, byt_lo (by omega), byt_lo (by omega)]
          clear ecc
          go_wp2
          go_round
          case rel => exact ⟨p + 1, by omega, by go_num, by rw [HB.out]⟩
          case measure => simp [intOf]; omega
        · have HPF : Hid (p = f) := hpf
          have hc0 : (c != 0) = true := by rw [ecc, bne_iff_ne, hpf]; exact hf1.out (by omega)
          have hb0 : (bb == 0) = true := by rw [EB.out, byt_lo (by omega)]; rfl
          have HB : Hid ((32 : Int) - (p : Int) = byt f (p + 1)) := by show _ = _; rw [byt_hi (by omega)]; omega
          clear ecc hpf
          go_wp2
          go_round
          case rel => exact ⟨p + 1, by omega, by go_num, by rw [HB.out]⟩
          case measure => simp [intOf]; omega
        · have hb0 : (bb == 0) = false := by rw [EB.out, byt_hi hpf]; simp; omega
          have HB : Hid (bb = byt f (p + 1)) := by show _ = _; rw [EB.out, byt_hi hpf, byt_hi (by omega)]
          clear ecc
          go_wp2
          all_goals
            go_round
            case rel => exact ⟨p + 1, by omega, by go_num, by rw [HB.out]⟩
            case measure => simp [intOf]; omega
      · obtain rfl : p = 32 := by omega
        have HB : Hid (bb = ((32 - f : Nat) : Int)) := EB.out.trans (byt_end f hf)
        clear EB
        have hcell : x2.cell? ⟨w.heap.size + 1, 2, none⟩ = some (.slice xo xn xn) := hG.cell 2
        go_upto_region 17 with fail
        go_region_held3 (fun w' => w'.cell? ⟨w.heap.size + 1, 2, none⟩ = some (.slice xo xn xn)) (first | exact Kp.cell (by assumption) (by assumption) | go_keep) (first | (go_at_call 11; refine (fromU64_exp _ bb hbb.1 hbb.2).mono ?_; rintro e y1 ⟨fo', fn', zf', rfl, hf1', ef1, bf1, kv1⟩; have Ef1 : Hid (val zf' = 10 + 50 * ((32 - f : Nat) : Int)) := (by show _ = _; rw [ef1, HB.out]); clear ef1; have hK := Kp.trans (show Kp x2 _ from (by repeat (first | exact Kp.refl _ | apply Kp.drew | apply Kp.alloc))) kv1; clear kv1) | (go_at_call 28; refine (cmp_k _ xo fo' xn fn' zx zf' (by omega) (by omega) (hx.keep hK) hf1').mono ?_; rintro e y2 ⟨rfl, kv3⟩; have t3 : (cmpZ (val zx) (val zf') != 0) = false := (by rw [cmpZ_eq (ex.out.trans Ef1.out.symm)]; rfl); replace hK := hK.trans kv3; clear kv3))
        clear hx
        replace hB := hB.trans hK
        replace hq := hq.keep hK
        replace hs := hs.keep hK
        replace hG := hG.keep hK
        clear hK hcell hf1' Ef1 HB ex hE
        go_wp2_with fail
        refine (fromU64_nt _ L L0 L1).mono ?_
        rintro e w21 ⟨ao21, an21, za21, rfl, ha', ea21, ba21, k21⟩
        have Ea : Hid (val za21 = L) := ea21
        replace hB := hB.trans k21
        replace hq := hq.keep k21
        replace hs := hs.keep k21
        replace hG := hG.keep k21
        clear k21 ea21
        have ha := ha'
        clear ha'
        have hl := one_lit w21 64 (by omega) (by omega)
        have kk := (Kp.refl w21).alloc (.cells #[.int .u8 64] 5)
        replace hB := hB.trans kk
        replace hq := hq.keep kk
        replace hs := hs.keep kk
        replace ha := ha.keep kk
        replace hG := hG.keep kk
        clear kk
        go_wp2_with fail
        refine (divMod_any _ ao21 (some ⟨w21.heap.size, 0, none⟩) an21 1 za21 [64] (by rw [val_one]; omega) (by omega) (by omega) ha hl).mono ?_
        rintro e w22 ⟨do22, dn22, zd22, ro22, rn22, zr22, rfl, hd', ed22, bd22, hr', er22, Nr, br22, k22⟩
        have Ed : Hid (val zd22 = L / 64) := by show _ = _; rw [ed22, Ea.out, val_one]
        have Er : Hid (val zr22 = L % 64) := by show _ = _; rw [er22, Ea.out, val_one]
        clear ha
        clear hl
        replace hB := hB.trans k22
        replace hq := hq.keep k22
        replace hs := hs.keep k22
        replace hG := hG.keep k22
        clear k22 ed22 er22
        have hd := hd'
        have hr := hr'
        clear hd' hr'
        clear hr Er Nr Ea
        go_wp2_with fail
        refine (fromU64_nt _ L L0 L1).mono ?_
        rintro e w23 ⟨ao23, an23, za23, rfl, ha', ea23, ba23, k23⟩
        have Ea : Hid (val za23 = L) := ea23
        replace hB := hB.trans k23
        replace hq := hq.keep k23
        replace hs := hs.keep k23
        replace hd := hd.keep k23
        replace hG := hG.keep k23
        clear k23 ea23
        have ha := ha'
        clear ha'
        go_wp2_with fail
        refine (sub_any _ ao23 do22 an23 dn22 za23 zd22 (by omega) (by omega) ha hd (by show _ ≤ _; rw [Ea.out, Ed.out]; omega)).mono ?_
        rintro e y9 ⟨uo, un, zu, rfl, hu', eu, bu, k9⟩
        have Eu : Hid (val zu = L - L / 64) := by show _ = _; rw [eu, Ea.out, Ed.out]
        clear ha
        clear hd
        replace hB := hB.trans k9
        replace hq := hq.keep k9
        replace hs := hs.keep k9
        replace hG := hG.keep k9
        clear k9 eu Ea Ed
        have hu := hu'
        clear hu'
        by_cases hqm : val zq < L - L / 64
        · have hcm : cmpZ (val zq) (val zu) < 0 := by rw [Eu.out, cmpZ_lt hqm]; omega
          have ES : Hid (val zs = val zq) := by show _ = _; rw [es.out]; unfold sentZ; rw [if_pos hqm]
          clear hqm es Eu
          go_wp2_with fail
          refine (cmp_k _ qo uo qn un zq zu (by omega) (by omega) hq hu).mono ?_
          rintro e w24 ⟨rfl, k24⟩
          replace hB := hB.trans k24
          replace hq := hq.keep k24
          replace hs := hs.keep k24
          replace hu := hu.keep k24
          replace hG := hG.keep k24
          clear k24
          have hcell : w24.cell? ⟨w.heap.size + 1, 3, none⟩ = some (.slice so sn sn) := hG.cell 3
          have t4 : (cmpZ (val zs) (val zq) == 0) = true := by rw [cmpZ_eq ES.out]; rfl
          go_wp2_with fail
          refine (cmp_k _ so qo sn qn zs zq (by omega) (by omega) hs hq).mono ?_
          rintro e w25 ⟨rfl, k25⟩
          replace hB := hB.trans k25
          replace hq := hq.keep k25
          replace hs := hs.keep k25
          replace hu := hu.keep k25
          replace hG := hG.keep k25
          clear k25
          go_wp2
          go_ret
          exact ⟨rfl, hB⟩
        · have hcm := cmpZ_ge (x := val zq) (y := val zu) (by rw [Eu.out]; omega)
          have ES : Hid (val zs = val zu) := by show _ = _; rw [es.out, Eu.out]; unfold sentZ; rw [if_neg hqm]
          clear hqm es Eu
          go_wp2_with fail
          refine (cmp_k _ qo uo qn un zq zu (by omega) (by omega) hq hu).mono ?_
          rintro e w24 ⟨rfl, k24⟩
          replace hB := hB.trans k24
          replace hq := hq.keep k24
          replace hs := hs.keep k24
          replace hu := hu.keep k24
          replace hG := hG.keep k24
          clear k24
          have hcell : w24.cell? ⟨w.heap.size + 1, 3, none⟩ = some (.slice so sn sn) := hG.cell 3
          have t4 : (cmpZ (val zs) (val zu) == 0) = true := by rw [cmpZ_eq ES.out]; rfl
          go_wp2_with fail
          refine (cmp_k _ so uo sn un zs zu (by omega) (by omega) hs hu).mono ?_
          rintro e w25 ⟨rfl, k25⟩
          replace hB := hB.trans k25
          replace hq := hq.keep k25
          replace hs := hs.keep k25
          replace hu := hu.keep k25
          replace hG := hG.keep k25
          clear k25
          go_wp2
          go_ret
          exact ⟨rfl, hB⟩
  · have hl := one_lit w6 1 (by omega) (by omega)
    have kk := (Kp.refl w6).alloc (.cells #[.int .u8 1] 5)
    replace hB := hB.trans kk
    replace hq := hq.keep kk
    replace hc := hc.keep kk
    replace hx := hx.keep kk
    replace hs := hs.keep kk
    replace hd := hd.keep kk
    replace hE := hE.keep kk
    replace hG := hG.keep kk
    clear kk
    go_wp2_with fail
    refine (add_nt _ do6 (some ⟨w6.heap.size, 0, none⟩) dn6 1 zd6 [1] (by omega) (by omega) hd hl).mono ?_
    rintro e w7 ⟨yo7, yn7, zy7, rfl, hy', ey7, by7, k7⟩
    have Ey : Hid (val zy7 = (N + 31) / 32) := by show _ = _; rw [ey7, Ed.out, val_one, hw]
    clear hd
    clear hl
    replace hB := hB.trans k7
    replace hq := hq.keep k7
    replace hc := hc.keep k7
    replace hx := hx.keep k7
    replace hs := hs.keep k7
    replace hE := hE.keep k7
    replace hG := hG.keep k7
    clear k7 ey7
    have hy := hy'
    clear hy'
    clear hw Ed
    go_upto_region 8 with fail
    obtain ⟨yo, rfl⟩ : ∃ v, v = yo7 := ⟨_, rfl⟩
    obtain ⟨yn, rfl⟩ : ∃ v, v = yn7 := ⟨_, rfl⟩
    obtain ⟨zy, rfl⟩ : ∃ v, v = zy7 := ⟨_, rfl⟩
    obtain ⟨vw, rfl⟩ : ∃ v, v = w7 := ⟨_, rfl⟩
    have hcell : vw.cell? ⟨w.heap.size + 1, 1, none⟩ = some (.slice co cn cn) := hG.cell 1
    go_region_held3 (fun w' => w'.cell? ⟨w.heap.size + 1, 1, none⟩ = some (.slice co cn cn)) (first | exact Kp.cell (by assumption) (by assumption) | go_keep) (first | (go_at_call 26; refine (mul_nt _ yo _ yn 1 zy [3] (by omega) (by omega) ?_ ?_).mono ?_; exact hy.keep (by repeat (first | exact Kp.refl _ | apply Kp.drew | apply Kp.alloc)); exact (one_lit vw 3 (by omega) (by omega)).drew; rintro e x1 ⟨fo, fn, zf, rfl, hf1', ef1, bf1, kv1⟩; have Ef1 : Hid (val zf = 3 * ((N + 31) / 32)) := (by show _ = _; rw [ef1, Ey.out, val_one, Int.mul_comm]); clear ef1; have hK := Kp.trans (show Kp vw _ from (by repeat (first | exact Kp.refl _ | apply Kp.drew | apply Kp.alloc))) kv1; clear kv1) | (go_at_call 28; refine (cmp_k _ co fo cn fn zc zf (by omega) (by omega) (hc.keep hK) hf1').mono ?_; rintro e x2 ⟨rfl, kv3⟩; have t2 : (cmpZ (val zc) (val zf) != 0) = false := (by rw [cmpZ_eq (ec.out.trans Ef1.out.symm)]; rfl); replace hK := hK.trans kv3; clear kv3))
    clear hc
    clear hy
    replace hB := hB.trans hK
    replace hq := hq.keep hK
    replace hx := hx.keep hK
    replace hs := hs.keep hK
    replace hE := hE.keep hK
    replace hG := hG.keep hK
    clear hK hcell hf1' Ef1 Ey ec
    go_upto_region 11 with fail
    go_step
    refine wpList_load_row rfl 23 _ rfl w.heap.size rfl 23 _ _ _ hE Sacg.underlying23 rfl (by rw [List.size_toArray, bytesOf_length, hel]; kernel_rfl) ?_
    go_wp2
    go_loop [20, 70] (fun bv i => ∃ p : Nat, p ≤ 32 ∧ i = .int .i64 p ∧ bv = .int .i64 (byt f p)) (fun _ i => 32 - (intOf i).toNat)
    case atStart => exact ⟨0, Nat.zero_le _, rfl, by rw [byt_lo (Nat.zero_le _)]⟩
    case round =>
      obtain ⟨p, hp, rfl, rfl⟩ := hrel
      have hbb := byt_bd f p
      obtain ⟨bb, ebb⟩ : ∃ bb, bb = byt f p := ⟨_, rfl⟩
      rw [← ebb] at hbb ⊢
      have EB : Hid (bb = byt f p) := ebb
      clear ebb
      by_cases hlt : p < 32
      · obtain ⟨c, ecc⟩ : ∃ c, c = ez.getD p 0 := ⟨_, rfl⟩
        have hi := fun w => run_index_int (P := Sacg.prog) w 23 5 32 .u8 .i64 (bytesOf ez).toArray (p : Int) Sacg.underlying23 Sacg.underlying5 (by kernel_rfl) (by omega) (by omega) (.int .u8 c) (by rw [Int.toNat_natCast, List.getElem?_toArray, bytesOf_at ez p (by omega), ecc])
        rcases Nat.lt_trichotomy p f with hpf | hpf | hpf
        · have hc0 : (c != 0) = false := by rw [ecc, hf0.out p hpf]; rfl
          have HB : Hid (bb = byt f (p + 1)) := by show _ = _; rw [EB.out, byt_lo (by omega), byt_lo (by omega)]
          clear ecc
          go_wp2
          go_round
          case rel => exact ⟨p + 1, by omega, by go_num, by rw [HB.out]⟩
          case measure => simp [intOf]; omega
        · have HPF : Hid (p = f) := hpf
          have hc0 : (c != 0) = true := by rw [ecc, bne_iff_ne, hpf]; exact hf1.out (by omega)
          have hb0 : (bb == 0) = true := by rw [EB.out, byt_lo (by omega)]; rfl
          have HB : Hid ((32 : Int) - (p : Int) = byt f (p + 1)) := by show _ = _; rw [byt_hi (by omega)]; omega
          clear ecc hpf
          go_wp2
          go_round
          case rel => exact ⟨p + 1, by omega, by go_num, by rw [HB.out]⟩
          case measure => simp [intOf]; omega
        · have hb0 : (bb == 0) = false := by rw [EB.out, byt_hi hpf]; simp; omega
          have HB : Hid (bb = byt f (p + 1)) := by show _ = _; rw [EB.out, byt_hi hpf, byt_hi (by omega)]
          clear ecc
          go_wp2
          all_goals
            go_round
            case rel => exact ⟨p + 1, by omega, by go_num, by rw [HB.out]⟩
            case measure => simp [intOf]; omega
      · obtain rfl : p = 32 := by omega
        have HB : Hid (bb = ((32 - f : Nat) : Int)) := EB.out.trans (byt_end f hf)
        clear EB
        have hcell : x2.cell? ⟨w.heap.size + 1, 2, none⟩ = some (.slice xo xn xn) := hG.cell 2
        go_upto_region 17 with fail
        go_region_held3 (fun w' => w'.cell? ⟨w.heap.size + 1, 2, none⟩ = some (.slice xo xn xn)) (first | exact Kp.cell (by assumption) (by assumption) | go_keep) (first | (go_at_call 11; refine (fromU64_exp _ bb hbb.1 hbb.2).mono ?_; rintro e y1 ⟨fo', fn', zf', rfl, hf1', ef1, bf1, kv1⟩; have Ef1 : Hid (val zf' = 10 + 50 * ((32 - f : Nat) : Int)) := (by show _ = _; rw [ef1, HB.out]); clear ef1; have hK := Kp.trans (show Kp x2 _ from (by repeat (first | exact Kp.refl _ | apply Kp.drew | apply Kp.alloc))) kv1; clear kv1) | (go_at_call 28; refine (cmp_k _ xo fo' xn fn' zx zf' (by omega) (by omega) (hx.keep hK) hf1').mono ?_; rintro e y2 ⟨rfl, kv3⟩; have t3 : (cmpZ (val zx) (val zf') != 0) = false := (by rw [cmpZ_eq (ex.out.trans Ef1.out.symm)]; rfl); replace hK := hK.trans kv3; clear kv3))
        clear hx
        replace hB := hB.trans hK
        replace hq := hq.keep hK
        replace hs := hs.keep hK
        replace hG := hG.keep hK
        clear hK hcell hf1' Ef1 HB ex hE
        go_wp2_with fail
        refine (fromU64_nt _ L L0 L1).mono ?_
        rintro e w21 ⟨ao21, an21, za21, rfl, ha', ea21, ba21, k21⟩
        have Ea : Hid (val za21 = L) := ea21
        replace hB := hB.trans k21
        replace hq := hq.keep k21
        replace hs := hs.keep k21
        replace hG := hG.keep k21
        clear k21 ea21
        have ha := ha'
        clear ha'
        have hl := one_lit w21 64 (by omega) (by omega)
        have kk := (Kp.refl w21).alloc (.cells #[.int .u8 64] 5)
        replace hB := hB.trans kk
        replace hq := hq.keep kk
        replace hs := hs.keep kk
        replace ha := ha.keep kk
        replace hG := hG.keep kk
        clear kk
        go_wp2_with fail
        refine (divMod_any _ ao21 (some ⟨w21.heap.size, 0, none⟩) an21 1 za21 [64] (by rw [val_one]; omega) (by omega) (by omega) ha hl).mono ?_
        rintro e w22 ⟨do22, dn22, zd22, ro22, rn22, zr22, rfl, hd', ed22, bd22, hr', er22, Nr, br22, k22⟩
        have Ed : Hid (val zd22 = L / 64) := by show _ = _; rw [ed22, Ea.out, val_one]
        have Er : Hid (val zr22 = L % 64) := by show _ = _; rw [er22, Ea.out, val_one]
        clear ha
        clear hl
        replace hB := hB.trans k22
        replace hq := hq.keep k22
        replace hs := hs.keep k22
        replace hG := hG.keep k22
        clear k22 ed22 er22
        have hd := hd'
        have hr := hr'
        clear hd' hr'
        clear hr Er Nr Ea
        go_wp2_with fail
        refine (fromU64_nt _ L L0 L1).mono ?_
        rintro e w23 ⟨ao23, an23, za23, rfl, ha', ea23, ba23, k23⟩
        have Ea : Hid (val za23 = L) := ea23
        replace hB := hB.trans k23
        replace hq := hq.keep k23
        replace hs := hs.keep k23
        replace hd := hd.keep k23
        replace hG := hG.keep k23
        clear k23 ea23
        have ha := ha'
        clear ha'
        go_wp2_with fail
        refine (sub_any _ ao23 do22 an23 dn22 za23 zd22 (by omega) (by omega) ha hd (by show _ ≤ _; rw [Ea.out, Ed.out]; omega)).mono ?_
        rintro e y9 ⟨uo, un, zu, rfl, hu', eu, bu, k9⟩
        have Eu : Hid (val zu = L - L / 64) := by show _ = _; rw [eu, Ea.out, Ed.out]
        clear ha
        clear hd
        replace hB := hB.trans k9
        replace hq := hq.keep k9
        replace hs := hs.keep k9
        replace hG := hG.keep k9
        clear k9 eu Ea Ed
        have hu := hu'
        clear hu'
        by_cases hqm : val zq < L - L / 64
        · have hcm : cmpZ (val zq) (val zu) < 0 := by rw [Eu.out, cmpZ_lt hqm]; omega
          have ES : Hid (val zs = val zq) := by show _ = _; rw [es.out]; unfold sentZ; rw [if_pos hqm]
          clear hqm es Eu
          go_wp2_with fail
          refine (cmp_k _ qo uo qn un zq zu (by omega) (by omega) hq hu).mono ?_
          rintro e w24 ⟨rfl, k24⟩
          replace hB := hB.trans k24
          replace hq := hq.keep k24
          replace hs := hs.keep k24
          replace hu := hu.keep k24
          replace hG := hG.keep k24
          clear k24
          have hcell : w24.cell? ⟨w.heap.size + 1, 3, none⟩ = some (.slice so sn sn) := hG.cell 3
          have t4 : (cmpZ (val zs) (val zq) == 0) = true := by rw [cmpZ_eq ES.out]; rfl
          go_wp2_with fail
          refine (cmp_k _ so qo sn qn zs zq (by omega) (by omega) hs hq).mono ?_
          rintro e w25 ⟨rfl, k25⟩
          replace hB := hB.trans k25
          replace hq := hq.keep k25
          replace hs := hs.keep k25
          replace hu := hu.keep k25
          replace hG := hG.keep k25
          clear k25
          go_wp2
          go_ret
          exact ⟨rfl, hB⟩
        · have hcm := cmpZ_ge (x := val zq) (y := val zu) (by rw [Eu.out]; omega)
          have ES : Hid (val zs = val zu) := by show _ = _; rw [es.out, Eu.out]; unfold sentZ; rw [if_neg hqm]
          clear hqm es Eu
          go_wp2_with fail
          refine (cmp_k _ qo uo qn un zq zu (by omega) (by omega) hq hu).mono ?_
          rintro e w24 ⟨rfl, k24⟩
          replace hB := hB.trans k24
          replace hq := hq.keep k24
          replace hs := hs.keep k24
          replace hu := hu.keep k24
          replace hG := hG.keep k24
          clear k24
          have hcell : w24.cell? ⟨w.heap.size + 1, 3, none⟩ = some (.slice so sn sn) := hG.cell 3
          have t4 : (cmpZ (val zs) (val zu) == 0) = true := by rw [cmpZ_eq ES.out]; rfl
          go_wp2_with fail
          refine (cmp_k _ so uo sn un zs zu (by omega) (by omega) hs hu).mono ?_
          rintro e w25 ⟨rfl, k25⟩
          replace hB := hB.trans k25
          replace hq := hq.keep k25
          replace hs := hs.keep k25
          replace hu := hu.keep k25
          replace hG := hG.keep k25
          clear k25
          go_wp2
          go_ret
          exact ⟨rfl, hB⟩
end Go.Proofs.Ygcsac
