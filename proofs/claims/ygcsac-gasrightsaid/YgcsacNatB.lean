/- nat.clip, nat.Norm, nat.FromU64: contracts. -/
import Derived.Test.YgcsacNatAt
namespace Go.Proofs.Ygcsac
open Go.RowKit

theorem gives_zero {w : World} {zs : List Int} {N : Nat} (h0 : val zs = 0) : Gives w (val zs) N (.returned (.slice none 0 0)) w :=
  ⟨none, 0, [], rfl, NatAt.zero w, h0.symm, .inl rfl, Nat.zero_le _, Below.refl _ _⟩
theorem val_take_zero (zs : List Int) : val (zs.take 0) = 0 := by rw [List.take_zero]; rfl

set_option maxHeartbeats 400000 in
theorem clip_any (w : World) (ao : Option Addr) (n : Nat) (zs : List Int) (hn : n ≤ 100000) (h : NatAt w ao n zs) :
    Calls Sacg.prog 40 #[.slice ao n n] w fun e w' => Gives w (val zs) n e w' := by
  go_enter Sacg.func40, Sacg.ntmps40
  go_wp2_with fail
  refine (trim_any _ _ _ zs hn h).mono ?_
  rintro e w' ⟨k, rfl, rfl, hk, h1, h2, h3⟩
  by_cases hk0 : k = 0
  · subst hk0
    go_wp2
    go_ret
    exact gives_zero (by rw [← h2]; exact val_take_zero zs)
  · go_wp2
    go_ret
    exact ⟨ao, k, zs.take k, rfl, h1, h2, h3, hk, Below.refl _ _⟩

set_option maxHeartbeats 400000 in
theorem norm_any (w : World) (ao : Option Addr) (n : Nat) (zs : List Int) (hn : n ≤ 100000) (h : NatAt w ao n zs) :
    Calls Sacg.prog 16 #[.slice ao n n] w fun e w' => ∃ ys, val ys = val zs ∧ Nrm ys ∧ Dgs ys ∧ ys.length ≤ n ∧ ((ys = [] ∧ e = .returned (.slice none 0 0) ∧ w = w') ∨
      (0 < ys.length ∧ e = .returned (.slice (some ⟨w.heap.size, 0, none⟩) ys.length ys.length) ∧ Row w' w.heap.size 5 (bytesOf ys) ∧ Below w.heap.size w w' ∧ w'.heap.size = w.heap.size + 1)) := by
  go_enter Sacg.func16, Sacg.ntmps16
  go_wp2_with fail
  refine (trim_any _ _ _ zs hn h).mono ?_
  rintro e w' ⟨k, rfl, rfl, hk, h1, h2, h3⟩
  by_cases hk0 : k = 0
  · subst hk0
    go_wp2
    go_ret
    exact ⟨[], by rw [← h2]; exact (val_take_zero zs).symm, .inl rfl, fun z hz => (by cases hz), Nat.zero_le _, .inl ⟨rfl, rfl, rfl⟩⟩
  · have hmk := fun w => run_make_nat w k (by omega)
    obtain ⟨b, off, rfl, hb, hc⟩ := h1.opened (by omega)
    obtain ⟨w2, hcp, hr2, ho2⟩ := run_copy_nat (w.alloc (.cells (bytesOf (zer k)).toArray 5)) w.heap.size k b off 3 (zer k) (zs.take k) (Row.new w 5 _) (zer_length k) h1.len
      (fun j hj => (World.cell?_alloc_past _ b (off + j) hb).trans (hc j hj))
    have hbel : Below w.heap.size w w2 := ((Below.refl _ _).alloc (Nat.le_refl _) _).trans (ho2.below (Nat.le_refl _))
    have hsz := ho2.size
    rw [World.size_alloc] at hsz
    clear ho2 hc
    have HS : Hid (w2.heap.size = w.heap.size + 1) := hsz
    clear hsz
    go_wp2
    go_ret
    exact ⟨zs.take k, h2, h3, h1.dig, by rw [h1.len]; exact hk, .inr ⟨by rw [h1.len]; omega, by rw [h1.len]; rfl, hr2, hbel, HS.out⟩⟩

theorem norm_gives (w : World) (ao : Option Addr) (n : Nat) (zs : List Int) (hn : n ≤ 100000) (h : NatAt w ao n zs) :
    Calls Sacg.prog 16 #[.slice ao n n] w fun e w' => Gives w (val zs) n e w' := by
  refine (norm_any w ao n zs hn h).mono ?_
  rintro e w' ⟨ys, hv, hN, hD, hl, ⟨rfl, rfl, rfl⟩ | ⟨_, rfl, hr, hb, _⟩⟩
  · exact ⟨none, 0, [], rfl, NatAt.zero _, hv, hN, Nat.zero_le _, Below.refl _ _⟩
  · exact ⟨_, _, ys, rfl, NatAt.ofRow hr hD rfl, hv, hN, hl, hb⟩

/-! ### nat.FromU64 -/
theorem u64_step (P x V : Int) (os : List Int) (k : Nat) (hP : P = pw k) (hk : k < os.length) (h0 : os.getD k 0 = 0) (hV : val os + P * x = V) : val (os.set k (x % 256)) + pw (k + 1) * (x / 256) = V := by
  subst hP
  rw [val_set0 os k _ hk h0, pw_succ]
  have := carry_step (pw k) x
  omega
set_option maxHeartbeats 400000 in
theorem fromU64_any (w : World) (x : Int) (h0 : 0 ≤ x) (hx : x ≤ 18446744073709551615) : Calls Sacg.prog 11 #[.int .u64 x] w fun e w' => Gives w x 8 e w' := by
  go_enter Sacg.func11, Sacg.ntmps11
  go_wp2
  go_loopw [0, 5] (fun xs i wr => ∃ (k : Nat) (y : Int) (os : List Int), k ≤ 8 ∧ i = .int .i64 k ∧ xs = .int .u64 y ∧ 0 ≤ y ∧ y ≤ 18446744073709551615 ∧ Row wr w.heap.size 53 (bytesOf os) ∧ os.length = 8 ∧ Dgs os ∧ Hid (val os + pw k * y = x) ∧ Hid (∀ j, k ≤ j → os.getD j 0 = 0) ∧ Below w.heap.size w wr) (fun _ i _ => 8 - (intOf i).toNat)
  case atStart => exact ⟨0, x, zer 8, by omega, rfl, rfl, h0, hx, Row.new w 53 (bytesOf (zer 8)), zer_length 8, zer_dgs 8, by show val (zer 8) + pw 0 * x = x; rw [zer_val, pw_zero]; omega, fun j _ => zer_at 8 j, (Below.refl _ _).alloc (Nat.le_refl _) _⟩
  case round =>
    obtain ⟨k, y, os, hk, rfl, rfl, hy0, hy1, hrow, hlen, hdg, HV, HZ, hbel⟩ := hrel
    by_cases hlt : k < 8
    · obtain ⟨o2, hd⟩ : ∃ o2, wr.cell? ⟨w.heap.size, k, none⟩ = some o2 := by rw [hrow.cell, bytesOf_at os k (by omega)]; exact ⟨_, rfl⟩
      have hf := hrow.frozen k
      go_wp2
      go_roundw
      case rel => exact ⟨k + 1, y / 256, os.set k (y % 256), by omega, by go_num, rfl, by omega, by omega, by rw [← bytesOf_set]; exact hrow.set k _, by rw [List.length_set]; exact hlen, hdg.set k _ (by omega) (by omega), u64_step (pw k) y x os k rfl (by omega) (HZ.out k (Nat.le_refl _)) HV.out, fun j hj => by rw [getD_set_ne _ _ _ _ (by omega)]; exact HZ.out j (by omega), hbel.setCell (Nat.le_refl _) _⟩
      case measure => simp [intOf]; omega
    · obtain rfl : k = 8 := by omega
      have HX : Hid (val os = x) := by
        have h1 := HV.out
        have h2 := val_nonneg hdg
        have h3 : pw 8 = 18446744073709551616 := by decide
        rw [h3] at h1
        show val os = x
        omega
      have hN := NatAt.ofRow hrow hdg hlen
      go_wp2_with (go_at_call 16; refine (norm_gives _ _ 8 os (by omega) hN).mono ?_; intro e w1 hG; obtain ⟨ao, n1, zs1, rfl, g1, g2, g3, g4, g5⟩ := hG)
      go_ret
      exact ⟨ao, n1, zs1, rfl, g1, by rw [g2]; exact HX.out, g3, g4, hbel.trans (g5.mono hbel.size)⟩
end Go.Proofs.Ygcsac
