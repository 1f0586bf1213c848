/- nat.DivMod (by more than 0): contract. -/
import Derived.Test.YgcsacNatF
import Derived.Test.YgcsacNatH
namespace Go.Proofs.Ygcsac
open Go.RowKit

theorem and_one_all : ∀ y : Fin 256, bits .and .u8 ((y.val : Nat) : Int) 1 = ((y.val : Nat) : Int) % 2 := by decide +kernel
theorem and_one (y : Int) (h0 : 0 ≤ y) (h : y ≤ 255) : bits .and .u8 y 1 = y % 2 := by
  have := and_one_all ⟨y.toNat, by omega⟩
  simp only at this
  rw [show ((y.toNat : Nat) : Int) = y from by omega] at this
  exact this
/-- The bit that is brought down. -/
theorem bit_down (xs : List Int) (hd : Dgs xs) (j : Nat) (x A : Int) (hx : x = xs.getD (j / 8) 0) (hA : val xs = A) : bits .and .u8 (x / 2 ^ (j % 8)) 1 = A / p2 j % 2 := by
  have hb := hd.getD (j / 8)
  rw [← hx] at hb
  have h2 : (1 : Int) ≤ 2 ^ (j % 8) := by have := p2_pos (j % 8); unfold p2 at this; omega
  have h0 : 0 ≤ x / 2 ^ (j % 8) := Int.ediv_nonneg hb.1 (by omega)
  have h1 : x / 2 ^ (j % 8) ≤ 255 := Int.le_trans (Int.ediv_le_self _ hb.1) hb.2
  have h3 := bit_digit xs hd (j / 8) (j % 8) (by omega)
  rw [show 8 * (j / 8) + j % 8 = j from by omega, hA, ← hx] at h3
  rw [and_one _ h0 h1, h3]
  rfl

theorem or_low_all : ∀ (d : Fin 256) (c : Fin 2), bits .or .u8 (((d.val : Nat) : Int) * 2 % 256) ((c.val : Nat) : Int) = ((d.val : Nat) : Int) * 2 % 256 + ((c.val : Nat) : Int) := by decide +kernel
theorem or_low (d c : Int) (h0 : 0 ≤ d) (h : d ≤ 255) (c0 : 0 ≤ c) (c1 : c ≤ 1) : bits .or .u8 (d * 2 % 256) c = d * 2 % 256 + c := by
  have := or_low_all ⟨d.toNat, by omega⟩ ⟨c.toNat, by omega⟩
  simp only at this
  rw [show ((d.toNat : Nat) : Int) = d from by omega, show ((c.toNat : Nat) : Int) = c from by omega] at this
  exact this
theorem or_bit_all : ∀ (q : Fin 256) (b : Fin 8), ((q.val : Nat) : Int) % 2 ^ (b.val + 1) = 0 → bits .or .u8 ((q.val : Nat) : Int) (2 ^ b.val % 256) = ((q.val : Nat) : Int) + 2 ^ b.val ∧ ((q.val : Nat) : Int) + 2 ^ b.val ≤ 255 := by decide +kernel
theorem or_bit (q : Int) (b : Nat) (h0 : 0 ≤ q) (h : q ≤ 255) (hb : b < 8) (hz : q % p2 (b + 1) = 0) : bits .or .u8 q (2 ^ b % 256) = q + p2 b ∧ q + p2 b ≤ 255 := by
  have := or_bit_all ⟨q.toNat, by omega⟩ ⟨b, hb⟩
  simp only at this
  rw [show ((q.toNat : Nat) : Int) = q from by omega] at this
  exact this hz
theorem div_start (xs : List Int) (k : Nat) (A : Int) (hd : Dgs xs) (hl : xs.length = k) (hA : val xs = A) : A / p2 (8 * k) = 0 := by
  have h1 := val_lt hd
  have h2 := val_nonneg hd
  rw [hl, hA, pw_p2] at h1
  rw [hA] at h2
  exact Int.ediv_eq_zero_of_lt h2 h1
theorem cmpZ_geq {x y : Int} (h : y ≤ x) : 0 ≤ cmpZ x y := by
  by_cases e : x = y
  · rw [cmpZ_eq e]; omega
  · rw [cmpZ_gt (by omega)]; omega
theorem Row.other {w : World} {g g' : Nat} {T : TypeId} {xs : List Value} (h : Row w g T xs) (j : Nat) (v : Value) (hne : g ≠ g') : Row (w.setCell ⟨g', j, none⟩ v) g T xs :=
  ((Only.refl g' w).set j v).row h hne

set_option maxHeartbeats 1000000 in
theorem divMod_core (w : World) (ao bo : Option Addr) (n m : Nat) (za zb : List Int) (A B : Int) (hA : Hid (val za = A)) (hB : Hid (val zb = B)) (hpos : Hid (0 < B)) (hn : n ≤ 10000) (hm : m ≤ 10000) (ha : NatAt w ao n za) (hb : NatAt w bo m zb) :
    Calls Sacg.prog 25 #[.slice ao n n, .slice bo m m] w fun e w' => ∃ qo qn qz ro rn rz, e = .returned (.tuple #[.slice qo qn qn, .slice ro rn rn, .bool true]) ∧ NatAt w' qo qn qz ∧ val qz = A / B ∧ qn ≤ n ∧ NatAt w' ro rn rz ∧ val rz = A % B ∧ Nrm rz ∧ rn ≤ m + 1 ∧ Kp w w' := by
  go_enter Sacg.func25, Sacg.ntmps25
  go_wp2_with fail
  refine (trim_any _ _ _ za (by omega) ha).mono ?_
  rintro e w' ⟨k, rfl, rfl, hk, h1, h2, h3⟩
  obtain ⟨xs, exs⟩ : ∃ xs, xs = za.take k := ⟨_, rfl⟩
  rw [← exs] at h1 h2
  have hA' : Hid (val xs = A) := h2.trans hA.out
  clear exs h3 h2 hA
  go_wp2_with fail
  refine (trim_any _ _ _ zb (by omega) hb).mono ?_
  rintro e w' ⟨l, rfl, rfl, hl, g1, g2, g3⟩
  obtain ⟨ys, eys⟩ : ∃ ys, ys = zb.take l := ⟨_, rfl⟩
  rw [← eys] at g1 g2
  have hB' : Hid (val ys = B) := g2.trans hB.out
  have hl0 : 0 < l := by
    by_cases e : l = 0
    · have h0 : ys = [] := g1.bare _ _ _ _ e
      have h1 := hB'.out
      have h2 := hpos.out
      rw [h0] at h1
      simp only [val] at h1
      omega
    · omega
  clear eys g3 g2 hB ha hb
  have hl00 : ((l : Int) == 0) = false := by simp; omega
  have hmk := fun w => run_make_nat w k (by omega)
  have hmk1 := fun w => run_make_nat1 w l (by omega)
  go_wp2
  go_loopw [9] (fun i wr => ∃ (p : Nat) (qs rs : List Int), p ≤ 8 * k ∧ i = .int .i64 p ∧ Row wr w.heap.size 5 (bytesOf qs) ∧ qs.length = k ∧ Dgs qs ∧ Row wr (w.heap.size + 1) 5 (bytesOf rs) ∧ rs.length = l + 1 ∧ Dgs rs ∧ Hid (val qs = A / p2 p / B * p2 p) ∧ Hid (val rs = A / p2 p % B) ∧ Below w.heap.size w wr) (fun i _ => (intOf i).toNat)
  case atStart =>
    refine ⟨8 * k, zer k, zer (l + 1), Nat.le_refl _, by go_num, (Row.new w 5 _).alloc _, zer_length _, zer_dgs _, ?_, zer_length _, zer_dgs _, ?_, ?_, ((Below.refl _ _).alloc (Nat.le_refl _) _).alloc (by simp) _⟩
    · have := Row.new (w.alloc (.cells (bytesOf (zer k)).toArray 5)) 5 (bytesOf (zer (l + 1)))
      rw [World.size_alloc] at this
      exact this
    · show val (zer k) = _
      rw [zer_val, div_start xs k A h1.dig h1.len hA'.out]
      simp
    · show val (zer (l + 1)) = _
      rw [zer_val, div_start xs k A h1.dig h1.len hA'.out]
      simp
  case round =>
    clear hmk hmk1
    obtain ⟨p, qs, rs, hp, rfl, hq, hql, hqd, hr, hrl, hrd, HQ, HR, hbel⟩ := hrel
    by_cases hp0 : 0 < p
    · obtain ⟨b, off, rfl, hb, hc⟩ := h1.opened (by omega)
      have hx : wr.cell? ⟨b, off + (p - 1) / 8, none⟩ = some (.int .u8 (xs.getD ((p - 1) / 8) 0)) := (hbel.cell (p := ⟨b, off + (p - 1) / 8, none⟩) hb).trans (hc ((p - 1) / 8) (by omega))
      have hxb := h1.dig.getD ((p - 1) / 8)
      obtain ⟨x, ex⟩ : ∃ x, x = xs.getD ((p - 1) / 8) 0 := ⟨_, rfl⟩
      rw [← ex] at hx hxb
      have EX : Hid (x = xs.getD ((p - 1) / 8) 0) := ex
      have HC : Hid (bits .and .u8 (x / 2 ^ ((p - 1) % 8)) 1 = A / p2 (p - 1) % 2) := bit_down xs h1.dig (p - 1) x A ex hA'.out
      clear ex hc
      obtain ⟨c0, ec0⟩ : ∃ c0, c0 = bits .and .u8 (x / 2 ^ ((p - 1) % 8)) 1 := ⟨_, rfl⟩
      have HC0 : Hid (c0 = A / p2 (p - 1) % 2) := ec0.trans HC.out
      have hc0 : 0 ≤ c0 ∧ c0 ≤ 1 := by
        rw [HC0.out]
        have := Int.emod_nonneg (A / p2 (p - 1)) (show (2 : Int) ≠ 0 by omega)
        have := Int.emod_lt_of_pos (A / p2 (p - 1)) (show (0 : Int) < 2 by omega)
        omega
      have EC0 : Hid (c0 = bits .and .u8 (x / 2 ^ ((p - 1) % 8)) 1) := ec0
      clear ec0 HC
      go_wp2
      go_loopw [12, 52] (fun cv i wq => ∃ (q : Nat) (c : Int) (os : List Int), q ≤ l + 1 ∧ i = .int .i64 q ∧ cv = .int .u8 c ∧ 0 ≤ c ∧ c ≤ 1 ∧ Row wq (w.heap.size + 1) 5 (bytesOf os) ∧ os.length = l + 1 ∧ Dgs os ∧ Hid (val os + pw q * c = val rs + c0 + val (rs.take q)) ∧ Hid (∀ j, q ≤ j → os.getD j 0 = rs.getD j 0) ∧ Row wq w.heap.size 5 (bytesOf qs) ∧ Below w.heap.size w wq) (fun _ i _ => l + 1 - (intOf i).toNat)
      case atStart => exact ⟨0, c0, rs, Nat.zero_le _, rfl, by rw [EC0.out], hc0.1, hc0.2, hr, hrl, hrd, by show val rs + pw 0 * c0 = val rs + c0 + val (rs.take 0); rw [val_take_zero, pw_zero]; omega, fun j _ => rfl, hq, hbel⟩
      case round =>
        clear hr hq hbel hx
        obtain ⟨q, c, os, hqq, rfl, rfl, hcc0, hcc1, hrow, hlen, hdg, HV, HZ, hq, hbel⟩ := hrel
        by_cases hlt : q < l + 1
        · have HS := dbl_step os rs q c (val rs + c0) (by omega) (HZ.out q (Nat.le_refl _)) HV.out
          have hd : wr.cell? ⟨w.heap.size + 1, q, none⟩ = some (.int .u8 (rs.getD q 0)) := by rw [hrow.cell, bytesOf_at os q (by omega), HZ.out q (Nat.le_refl _)]
          have hdb := hrd.getD q
          have hf := hrow.frozen q
          obtain ⟨d, ed⟩ : ∃ d, d = rs.getD q 0 := ⟨_, rfl⟩
          rw [← ed] at hd hdb HS
          have HS' : Hid _ := HS
          have HO : Hid (bits .or .u8 (d * 2 % 256) c = d * 2 % 256 + c) := or_low d c hdb.1 hdb.2 hcc0 hcc1
          clear ed HS
          go_wp2
          go_roundw
          case rel =>
            rw [HO.out]
            exact ⟨q + 1, _, os.set q (d * 2 % 256 + c), by omega, by go_num, rfl, by omega, by omega, by rw [← bytesOf_set]; exact hrow.set q _, by rw [List.length_set]; exact hlen, hdg.set q _ (by omega) (by omega), HS'.out, fun j hj => by rw [getD_set_ne _ _ _ _ (by omega)]; exact HZ.out j (by omega), hq.other q _ (by omega), hbel.setCell (by show w.heap.size ≤ w.heap.size + 1; omega) _⟩
          case measure => simp [intOf]; omega
        · obtain rfl : q = l + 1 := by omega
          have hRb := twice_bd (A / p2 p) B hpos.out
          have HT : Hid (val os = 2 * (A / p2 p % B) + A / p2 (p - 1) % 2) := by
            have hlt := Int.emod_lt_of_pos (A / p2 p) hpos.out
            have := dbl_end os rs ys l c c0 B hdg g1.dig g1.len hB'.out hrl (by rw [HR.out]; exact hlt) hc0.2 hcc0 hcc1 HV.out
            rw [HR.out, HC0.out] at this
            exact this
          clear HV HZ HR hrd hrl hRb
          have hyN := g1.below hbel (Nat.le_refl _)
          have hoN := NatAt.ofRow (n := l + 1) hrow hdg hlen
          go_wp2_with fail
          refine (cmp_k _ _ _ _ _ os ys (by omega) (by omega) hoN hyN).mono ?_
          rintro e w1 ⟨rfl, k1⟩
          replace hrow := Below.row k1 hrow hrow.lt
          replace hq := Below.row k1 hq hq.lt
          have hB1 : Kp w w1 := Kp.trans hbel k1
          clear hoN hyN k1 hbel
          by_cases hge : B ≤ val os
          · have hcm := cmpZ_geq (x := val os) (y := val ys) (by rw [hB'.out]; exact hge)
            have HGE : Hid (B ≤ val os) := hge
            clear hge
            go_wp2_with fail
            refine (take_any w _ (w.heap.size + 1) (l + 1) l bo os ys (by omega) (by omega) hrow hlen hdg g1 (by omega) hB1 (by rw [hB'.out]; exact HGE.out)).mono ?_
            rintro e w2 ⟨rfl, ts, o1, o2, o3, o4, o5⟩
            replace hq := o5.row hq (by omega)
            have hB2 : Kp w w2 := Below.trans hB1 (o5.below (by omega))
            have hqc : w2.cell? ⟨w.heap.size, (p - 1) / 8, none⟩ = some (.int .u8 (qs.getD ((p - 1) / 8) 0)) := by rw [hq.cell, bytesOf_at qs ((p - 1) / 8) (by omega)]
            have hqf := hq.frozen ((p - 1) / 8)
            have hqb := hqd.getD ((p - 1) / 8)
            obtain ⟨qd, eqd⟩ : ∃ qd, qd = qs.getD ((p - 1) / 8) 0 := ⟨_, rfl⟩
            rw [← eqd] at hqc hqb
            have EQD : Hid (qd = qs.getD ((p - 1) / 8) 0) := eqd
            clear o5 hB1 hrow hdg hlen eqd
            go_wp2
            go_roundw
            case rel =>
              obtain ⟨j, rfl⟩ : ∃ j, p = j + 1 := ⟨p - 1, by omega⟩
              rw [Nat.add_sub_cancel] at *
              have hh := quo_more qs j A B hpos.out (by omega) HQ.out (by have h1 := HT.out; have h2 := HGE.out; omega)
              have hlow := low_digit qs hqd (j / 8) (j % 8) (by omega) (A / p2 (j + 1) / B) (by rw [show 8 * (j / 8) + j % 8 + 1 = j + 1 from by omega]; exact HQ.out)
              rw [← EQD.out] at hlow hh
              have hor := or_bit qd (j % 8) hqb.1 hqb.2 (by omega) hlow
              have hp2 := p2_pos (j % 8)
              rw [hor.1]
              exact ⟨j, qs.set (j / 8) (qd + p2 (j % 8)), ts, by omega, by go_num, by rw [← bytesOf_set]; exact hq.set (j / 8) _, by rw [List.length_set]; exact hql, hqd.set _ _ (by omega) hor.2, o1.other _ _ (by omega), o2, o3, hh.1, by show val ts = _; rw [o4, HT.out, hB'.out]; exact hh.2, Below.setCell hB2 (Nat.le_refl _) _⟩
            case measure => simp [intOf]; omega
          · have hcm : cmpZ (val os) (val ys) < 0 := by rw [cmpZ_lt (by rw [hB'.out]; omega)]; omega
            have HLT : Hid (val os < B) := by show _ < _; omega
            clear hge
            go_wp2
            go_roundw
            case rel =>
              obtain ⟨j, rfl⟩ : ∃ j, p = j + 1 := ⟨p - 1, by omega⟩
              have hh := quo_less qs j A B hpos.out HQ.out (by have h1 := HT.out; have h2 := HLT.out; rw [Nat.add_sub_cancel] at h1; omega)
              exact ⟨j, qs, os, by omega, by go_num, hq, hql, hqd, hrow, hlen, hdg, hh.1, by show val os = _; rw [HT.out]; exact hh.2, hB1⟩
            case measure => simp [intOf]; omega
    · obtain rfl : p = 0 := by omega
      have HQ' : Hid (val qs = A / B) := by
        have := HQ.out
        rw [show p2 0 = 1 from rfl, Int.ediv_one, Int.mul_one] at this
        exact this
      have HR' : Hid (val rs = A % B) := by
        have := HR.out
        rw [show p2 0 = 1 from rfl, Int.ediv_one] at this
        exact this
      have hqN := NatAt.ofRow (n := k) hq hqd hql
      have hrN := NatAt.ofRow (n := l + 1) hr hrd hrl
      have hB0 : Kp w wr := hbel
      clear hq hqd hql hr hrd hrl HQ HR hbel
      go_wp2_with fail
      refine (clip_any _ _ k qs (by omega) hqN).mono ?_
      intro e w1 hG
      obtain ⟨qo, qn, qz, rfl, q1, q2, q3, q4⟩ := hG.parts
      have EQ : Hid (val qz = A / B) := q2.trans HQ'.out
      replace hrN := hrN.keep q4
      replace hB0 := hB0.trans q4
      clear q2 q4 hG hqN HQ'
      go_wp2_with fail
      refine (clip_any _ _ (l + 1) rs (by omega) hrN).mono ?_
      rintro e w2 ⟨ro, rn, rz, rfl, r1, r2, r3, r4, r5⟩
      have ER : Hid (val rz = A % B) := r2.trans HR'.out
      replace q1 := q1.keep r5
      replace hB0 := hB0.trans r5
      clear r2 r5 hrN HR'
      go_wp2
      go_ret3
      exact ⟨qo, qn, qz, ro, rn, rz, rfl, q1, EQ.out, by omega, r1, ER.out, r3, by omega, hB0⟩
theorem divMod_any (w : World) (ao bo : Option Addr) (n m : Nat) (za zb : List Int) (hpos : 0 < val zb) (hn : n ≤ 10000) (hm : m ≤ 10000) (ha : NatAt w ao n za) (hb : NatAt w bo m zb) :
    Calls Sacg.prog 25 #[.slice ao n n, .slice bo m m] w fun e w' => ∃ qo qn qz ro rn rz, e = .returned (.tuple #[.slice qo qn qn, .slice ro rn rn, .bool true]) ∧ NatAt w' qo qn qz ∧ val qz = val za / val zb ∧ qn ≤ n ∧ NatAt w' ro rn rz ∧ val rz = val za % val zb ∧ Nrm rz ∧ rn ≤ m + 1 ∧ Kp w w' :=
  divMod_core w ao bo n m za zb _ _ rfl rfl hpos hn hm ha hb
end Go.Proofs.Ygcsac
