/- nat.take: contract. -/
import Derived.Test.YgcsacNatE
import Derived.Test.YgcsacNatG
namespace Go.Proofs.Ygcsac
open Go.RowKit

set_option maxHeartbeats 2000000 in
theorem take_core (w0 w : World) (g n m : Nat) (bo : Option Addr) (za zb : List Int) (hn : n ≤ 100000) (hm : m ≤ n) (hrow0 : Row w g 5 (bytesOf za)) (hl : za.length = n) (hd : Dgs za) (hb : NatAt w0 bo m zb) (hg : w0.heap.size ≤ g) (hk : Kp w0 w) :
    Calls Sacg.prog 39 #[.slice (some ⟨g, 0, none⟩) n n, .slice bo m m] w fun e w' => ∃ os bw, e = .returned (.int .u16 bw) ∧ Row w' g 5 (bytesOf os) ∧ os.length = n ∧ Dgs os ∧ (bw = 0 ∨ bw = 1) ∧ val os = val za - val zb + pw n * bw ∧ Only g w w' := by
  go_enter Sacg.func39, Sacg.ntmps39
  go_wp2
  go_loopw [5, 11] (fun bv i wr => ∃ (p : Nat) (bw : Int) (os : List Int), p ≤ n ∧ i = .int .i64 p ∧ bv = .int .u16 bw ∧ 0 ≤ bw ∧ bw ≤ 1 ∧ Row wr g 5 (bytesOf os) ∧ os.length = n ∧ Dgs os ∧ Hid (val os = val za - val (zb.take p) + pw p * bw) ∧ Hid (∀ j, p ≤ j → os.getD j 0 = za.getD j 0) ∧ Only g w wr) (fun _ i _ => n - (intOf i).toNat)
  case atStart => exact ⟨0, 0, za, Nat.zero_le _, rfl, rfl, by omega, by omega, hrow0, hl, hd, by show val za = val za - val (zb.take 0) + pw 0 * 0; rw [List.take_zero]; simp [val], fun j _ => rfl, Only.refl _ _⟩
  case round =>
    obtain ⟨p, bw, os, hp, rfl, rfl, hb0, hb1, hrow, hlen, hdg, HV, HZ, hon⟩ := hrel
    by_cases hlt : p < n
    · have hxb := hd.getD p
      have hyb := hb.dig.getD p
      have HS := fun b' => take_step os za zb p bw b' (by omega) (HZ.out p (Nat.le_refl _)) HV.out
      have hx : wr.cell? ⟨g, p, none⟩ = some (.int .u8 (za.getD p 0)) := by rw [hrow.cell, bytesOf_at os p (by omega), HZ.out p (Nat.le_refl _)]
      obtain ⟨x, ex⟩ : ∃ x, x = za.getD p 0 := ⟨_, rfl⟩
      obtain ⟨y, ey⟩ : ∃ y, y = zb.getD p 0 := ⟨_, rfl⟩
      have EY : Hid (y = zb.getD p 0) := ey
      rw [← ex] at hx hxb
      rw [← ey] at hyb
      rw [← ex, ← ey] at HS
      have HS0 := HS 0
      have HS1 := HS 1
      rw [show x - (bw + y) + 256 * 0 = x - (bw + y) from by omega] at HS0
      rw [show x - (bw + y) + 256 * 1 = x + 256 - (bw + y) from by omega] at HS1
      have HS0' : Hid _ := HS0
      have HS1' : Hid _ := HS1
      clear ex ey HS HS0 HS1
      have hf := hrow.frozen p
      by_cases hpm : p < m
      · obtain ⟨b', off', rfl, hb', hc'⟩ := hb.opened (by omega)
        have hy : wr.cell? ⟨b', off' + p, none⟩ = some (.int .u8 y) := by
          rw [EY.out]
          exact (hon.cell (p := ⟨b', off' + p, none⟩) (by show b' ≠ g; omega)).trans ((Below.cell hk (p := ⟨b', off' + p, none⟩) hb').trans (hc' p hpm))
        clear hc'
        by_cases hds : x < bw + y
        · go_wp2
          go_roundw
          case rel => exact ⟨p + 1, _, os.set p (x + 256 - (bw + y)), by omega, by go_num, rfl, by omega, by omega, by rw [← bytesOf_set]; exact hrow.set p _, by rw [List.length_set]; exact hlen, hdg.set p _ (by omega) (by omega), HS1'.out, fun j hj => by rw [getD_set_ne _ _ _ _ (by omega)]; exact HZ.out j (by omega), hon.set p _⟩
          case measure => simp [intOf]; omega
        · go_wp2
          go_roundw
          case rel => exact ⟨p + 1, _, os.set p (x - (bw + y)), by omega, by go_num, rfl, by omega, by omega, by rw [← bytesOf_set]; exact hrow.set p _, by rw [List.length_set]; exact hlen, hdg.set p _ (by omega) (by omega), HS0'.out, fun j hj => by rw [getD_set_ne _ _ _ _ (by omega)]; exact HZ.out j (by omega), hon.set p _⟩
          case measure => simp [intOf]; omega
      · have hy0 : y = 0 := by rw [EY.out]; exact getD_over zb p (by have := hb.len; omega)
        rw [hy0, Int.add_zero] at HS0' HS1'
        clear hyb EY hy0
        by_cases hds : x < bw
        · go_wp2
          go_roundw
          case rel => exact ⟨p + 1, _, os.set p (x + 256 - bw), by omega, by go_num, rfl, by omega, by omega, by rw [← bytesOf_set]; exact hrow.set p _, by rw [List.length_set]; exact hlen, hdg.set p _ (by omega) (by omega), HS1'.out, fun j hj => by rw [getD_set_ne _ _ _ _ (by omega)]; exact HZ.out j (by omega), hon.set p _⟩
          case measure => simp [intOf]; omega
        · go_wp2
          go_roundw
          case rel => exact ⟨p + 1, _, os.set p (x - bw), by omega, by go_num, rfl, by omega, by omega, by rw [← bytesOf_set]; exact hrow.set p _, by rw [List.length_set]; exact hlen, hdg.set p _ (by omega) (by omega), HS0'.out, fun j hj => by rw [getD_set_ne _ _ _ _ (by omega)]; exact HZ.out j (by omega), hon.set p _⟩
          case measure => simp [intOf]; omega
    · obtain rfl : p = n := by omega
      have HE : Hid (val os = val za - val zb + pw p * bw) := by
        have := HV.out
        rw [List.take_of_length_le (l := zb) (by have := hb.len; omega)] at this
        exact this
      have hbw : bw = 0 ∨ bw = 1 := by omega
      have HB : Hid (bw = 0 ∨ bw = 1) := hbw
      clear hbw
      go_wp2
      go_ret
      exact ⟨os, bw, rfl, hrow, hlen, hdg, HB.out, HE.out, hon⟩

/-- Taken from no smaller number: the difference stays, no borrow. -/
theorem take_any (w0 w : World) (g n m : Nat) (bo : Option Addr) (za zb : List Int) (hn : n ≤ 100000) (hm : m ≤ n) (hrow0 : Row w g 5 (bytesOf za)) (hl : za.length = n) (hd : Dgs za) (hb : NatAt w0 bo m zb) (hg : w0.heap.size ≤ g) (hk : Kp w0 w) (hle : val zb ≤ val za) :
    Calls Sacg.prog 39 #[.slice (some ⟨g, 0, none⟩) n n, .slice bo m m] w fun e w' => e = .returned (.int .u16 0) ∧ ∃ os, Row w' g 5 (bytesOf os) ∧ os.length = n ∧ Dgs os ∧ val os = val za - val zb ∧ Only g w w' := by
  refine (take_core w0 w g n m bo za zb hn hm hrow0 hl hd hb hg hk).mono ?_
  rintro e w' ⟨os, bw, rfl, h1, h2, h3, h4, h5, h6⟩
  obtain ⟨rfl, h7⟩ := take_end os za zb n bw h3 h2 h4 h5 hle
  exact ⟨rfl, os, h1, h2, h3, h7, h6⟩
/-- The same where the first is nil: nothing happens. -/
theorem take_nil (w : World) (bo : Option Addr) (m : Nat) : Calls Sacg.prog 39 #[.slice none 0 0, .slice bo m m] w fun e w' => e = .returned (.int .u16 0) ∧ w = w' := by
  go_enter Sacg.func39, Sacg.ntmps39
  go_wp2
  refine wp_loop_rounds 1 ?_
  rw [rounds_succ]
  go_wp2
  go_ret
  exact ⟨rfl, rfl⟩
end Go.Proofs.Ygcsac
