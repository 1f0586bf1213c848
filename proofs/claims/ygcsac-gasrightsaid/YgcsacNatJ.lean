/- nat.Mul: contract. -/
import Derived.Test.YgcsacNatE
import Derived.Test.YgcsacNatG
namespace Go.Proofs.Ygcsac
open Go.RowKit

theorem run_make_nat2 (w : World) (n m : Nat) (hn : n + m ≤ 100000) : (Instr.makeSlice 25 (.int .i64 ((n : Int) + (m : Int))) (.int .i64 ((n : Int) + (m : Int)))).run Sacg.prog w =
    .ok (.slice (some ⟨w.heap.size, 0, none⟩) (n + m) (n + m)) (w.alloc (.cells (bytesOf (zer (n + m))).toArray 5)) := by
  have := run_make_nat w (n + m) hn
  rw [Int.natCast_add] at this
  exact this

set_option maxHeartbeats 1000000 in
theorem mul_core (w : World) (ao bo : Option Addr) (n m : Nat) (za zb : List Int) (X : Int) (hX : Hid (val za * val zb = X)) (hn : n ≤ 10000) (hm : m ≤ 10000) (ha : NatAt w ao n za) (hb : NatAt w bo m zb) :
    Calls Sacg.prog 26 #[.slice ao n n, .slice bo m m] w fun e w' => Gives w X (n + m) e w' := by
  go_enter Sacg.func26, Sacg.ntmps26
  go_wp2_with fail
  refine (trim_any _ _ _ za (by omega) ha).mono ?_
  rintro e w' ⟨k, rfl, rfl, hk, h1, h2, h3⟩
  obtain ⟨xs, exs⟩ : ∃ xs, xs = za.take k := ⟨_, rfl⟩
  rw [← exs] at h1 h2
  clear exs h3
  go_wp2_with fail
  refine (trim_any _ _ _ zb (by omega) hb).mono ?_
  rintro e w' ⟨l, rfl, rfl, hl, g1, g2, g3⟩
  obtain ⟨ys, eys⟩ : ∃ ys, ys = zb.take l := ⟨_, rfl⟩
  rw [← eys] at g1 g2
  have hX' : Hid (val xs * val ys = X) := by show _ = _; rw [h2, g2]; exact hX.out
  clear eys g3 h2 g2 hX ha hb
  have hmk := fun w => run_make_nat2 w k l (by omega)
  go_wp2
  go_loopw [23] (fun i wr => ∃ (p : Nat) (os : List Int), p ≤ k ∧ i = .int .i64 p ∧ Row wr w.heap.size 5 (bytesOf os) ∧ os.length = k + l ∧ Dgs os ∧ Hid (val os = val (xs.take p) * val ys) ∧ Hid (∀ j, p + l ≤ j → os.getD j 0 = 0) ∧ Below w.heap.size w wr) (fun i _ => k - (intOf i).toNat)
  case atStart => exact ⟨0, zer (k + l), Nat.zero_le _, rfl, Row.new w 5 _, zer_length _, zer_dgs _, by show val (zer (k + l)) = val (xs.take 0) * val ys; rw [zer_val, val_take_zero, Int.zero_mul], fun j _ => zer_at _ j, (Below.refl _ _).alloc (Nat.le_refl _) _⟩
  case round =>
    clear hmk
    obtain ⟨p, os0, hp, rfl, hrow0, hlen0, hdg0, HV0, HZ0, hbel0⟩ := hrel
    by_cases hlt : p < k
    · obtain ⟨b, off, rfl, hb, hc⟩ := h1.opened (by omega)
      have hx : wr.cell? ⟨b, off + p, none⟩ = some (.int .u8 (xs.getD p 0)) := (hbel0.cell (p := ⟨b, off + p, none⟩) hb).trans (hc p hlt)
      have hxb := h1.dig.getD p
      obtain ⟨x, ex⟩ : ∃ x, x = xs.getD p 0 := ⟨_, rfl⟩
      have EX : Hid (x = xs.getD p 0) := ex
      rw [← ex] at hx hxb
      clear ex hc
      go_wp2
      go_loopw [8, 30] (fun cv i wq => ∃ (q : Nat) (c : Int) (os : List Int), q ≤ l ∧ i = .int .i64 q ∧ cv = .int .u32 c ∧ 0 ≤ c ∧ c ≤ 255 ∧ Row wq w.heap.size 5 (bytesOf os) ∧ os.length = k + l ∧ Dgs os ∧ Hid (val os + pw (p + q) * c = val (xs.take p) * val ys + pw p * (x * val (ys.take q))) ∧ Hid (∀ j, p + l ≤ j → os.getD j 0 = 0) ∧ Below w.heap.size w wq) (fun _ i _ => l - (intOf i).toNat)
      case atStart => exact ⟨0, 0, os0, Nat.zero_le _, rfl, rfl, by omega, by omega, hrow0, hlen0, hdg0, by show val os0 + pw (p + 0) * 0 = val (xs.take p) * val ys + pw p * (x * val (ys.take 0)); rw [HV0.out, val_take_zero]; simp, HZ0, hbel0⟩
      case round =>
        clear hrow0 hlen0 hdg0 HV0 HZ0 hbel0 hx
        obtain ⟨q, c, os, hq, rfl, rfl, hc0, hc1, hrow, hlen, hdg, HV, HZ, hbel⟩ := hrel
        by_cases hlt' : q < l
        · obtain ⟨b', off', rfl, hb', hc'⟩ := g1.opened (by omega)
          have hy : wr.cell? ⟨b', off' + q, none⟩ = some (.int .u8 (ys.getD q 0)) := (hbel.cell (p := ⟨b', off' + q, none⟩) hb').trans (hc' q hlt')
          have hyb := g1.dig.getD q
          have HS := mul_step os ys p q x c (val (xs.take p) * val ys) (by omega) HV.out
          have hd : wr.cell? ⟨w.heap.size, p + q, none⟩ = some (.int .u8 (os.getD (p + q) 0)) := by rw [hrow.cell, bytesOf_at os (p + q) (by omega)]
          have hdb := hdg.getD (p + q)
          have hf := hrow.frozen (p + q)
          obtain ⟨y, ey⟩ : ∃ y, y = ys.getD q 0 := ⟨_, rfl⟩
          obtain ⟨d, ed⟩ : ∃ d, d = os.getD (p + q) 0 := ⟨_, rfl⟩
          rw [← ey] at hy hyb
          rw [← ed] at hd hdb
          rw [← ey, ← ed] at HS
          have HS' : Hid _ := HS
          have hmul := mul_carry c x y d hc0 hc1 hxb.1 hxb.2 hyb.1 hyb.2 hdb.1 hdb.2
          clear ey ed HS hc'
          go_wp2
          go_roundw
          case rel => exact ⟨q + 1, _, os.set (p + q) ((c + (x * y + d)) % 256), by omega, by go_num, rfl, by omega, by omega, by rw [← bytesOf_set]; exact hrow.set (p + q) _, by rw [List.length_set]; exact hlen, hdg.set (p + q) _ (by omega) (by omega), HS'.out, fun j hj => by rw [getD_set_ne _ _ _ _ (by omega)]; exact HZ.out j hj, hbel.setCell (Nat.le_refl _) _⟩
          case measure => simp [intOf]; omega
        · obtain rfl : q = l := by omega
          have HE : Hid (val (os.set (p + q) c) = val (xs.take (p + 1)) * val ys) := mul_row os xs ys p q c (by omega) g1.len (HZ.out (p + q) (Nat.le_refl _)) (by rw [← EX.out]; exact HV.out)
          obtain ⟨o2, hd⟩ : ∃ o2, wr.cell? ⟨w.heap.size, p + q, none⟩ = some o2 := by rw [hrow.cell, bytesOf_at os (p + q) (by omega)]; exact ⟨_, rfl⟩
          have hf := hrow.frozen (p + q)
          clear HV EX
          go_wp2
          go_roundw
          case rel => exact ⟨p + 1, os.set (p + q) c, by omega, by go_num, by rw [← bytesOf_set]; exact hrow.set (p + q) _, by rw [List.length_set]; exact hlen, hdg.set (p + q) _ (by omega) (by omega), HE, fun j hj => by rw [getD_set_ne _ _ _ _ (by omega)]; exact HZ.out j (by omega), hbel.setCell (Nat.le_refl _) _⟩
          case measure => simp [intOf]; omega
    · obtain rfl : p = k := by omega
      have HE : Hid (val os0 = X) := by
        have := HV0.out
        rw [List.take_of_length_le (l := xs) (by have := h1.len; omega)] at this
        exact this.trans hX'.out
      have hN := NatAt.ofRow (n := p + l) hrow0 hdg0 hlen0
      go_wp2_with fail
      refine (clip_any _ _ (p + l) _ (by omega) hN).mono ?_
      rintro e w1 ⟨ao1, n1, zs1, rfl, r1, r2, r3, r4, r5⟩
      go_wp2
      go_ret
      exact ⟨ao1, n1, zs1, rfl, r1, r2.trans HE.out, r3, by omega, hbel0.trans (r5.mono hbel0.size)⟩
theorem mul_any (w : World) (ao bo : Option Addr) (n m : Nat) (za zb : List Int) (hn : n ≤ 10000) (hm : m ≤ 10000) (ha : NatAt w ao n za) (hb : NatAt w bo m zb) :
    Calls Sacg.prog 26 #[.slice ao n n, .slice bo m m] w fun e w' => Gives w (val za * val zb) (n + m) e w' := mul_core w ao bo n m za zb _ rfl hn hm ha hb
end Go.Proofs.Ygcsac
