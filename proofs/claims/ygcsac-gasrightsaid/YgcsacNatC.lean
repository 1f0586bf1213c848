/- nat.Cmp, yp.isZero, yp.num: contracts. -/
import Derived.Test.YgcsacNatB
import Derived.Deep.QuietTactic
import Derived.BigQuiet
namespace Go.Proofs.Ygcsac
open Go.RowKit

set_option maxHeartbeats 1000000 in
theorem cmp_core (w : World) (ao bo : Option Addr) (n m : Nat) (za zb : List Int) (X Y : Int) (hX : Hid (val za = X)) (hY : Hid (val zb = Y)) (hn : n ≤ 100000) (hm : m ≤ 100000) (ha : NatAt w ao n za) (hb : NatAt w bo m zb) :
    Calls Sacg.prog 28 #[.slice ao n n, .slice bo m m] w fun e w' => e = .returned (.int .i8 (cmpZ X Y)) ∧ ∃ q, w' = w.drewN q := by
  go_enter Sacg.func28, Sacg.ntmps28
  go_wp2_with fail
  refine (trim_any _ _ _ za hn ha).mono ?_
  rintro e w' ⟨k, rfl, rfl, hk, h1, h2, h3⟩
  obtain ⟨xs, exs⟩ : ∃ xs, xs = za.take k := ⟨_, rfl⟩
  rw [← exs] at h1 h2 h3
  have h2 : Hid (val xs = X) := h2.trans hX.out
  clear exs ha hX
  go_wp2_with fail
  refine (trim_any _ _ _ zb hm hb).mono ?_
  rintro e w' ⟨l, rfl, rfl, hl, g1, g2, g3⟩
  obtain ⟨ys, eys⟩ : ∃ ys, ys = zb.take l := ⟨_, rfl⟩
  rw [← eys] at g1 g2 g3
  have g2 : Hid (val ys = Y) := g2.trans hY.out
  clear eys hb hY
  by_cases hlt : k < l
  · have HC : Hid (cmpZ X Y = -1) := cmpZ_lt (by rw [← h2.out, ← g2.out]; exact val_lt_of_len h1.dig g1.dig g3 (by rw [h1.len, g1.len]; exact hlt))
    go_wp2
    go_ret
    exact ⟨ret_int HC.out.symm, 0, rfl⟩
  by_cases hgt : l < k
  · have HC : Hid (cmpZ X Y = 1) := cmpZ_gt (by rw [← h2.out, ← g2.out]; exact val_lt_of_len g1.dig h1.dig h3 (by rw [h1.len, g1.len]; exact hgt))
    go_wp2
    go_ret
    exact ⟨ret_int HC.out.symm, 0, rfl⟩
  obtain rfl : k = l := by omega
  go_wp2
  go_loopw [5] (fun i wr => ∃ p q : Nat, p ≤ k ∧ i = .int .i64 p ∧ wr = w.drewN q ∧ Hid (∀ j, p ≤ j → xs.getD j 0 = ys.getD j 0)) (fun i _ => (intOf i).toNat)
  case atStart => exact ⟨k, 0, Nat.le_refl _, rfl, rfl, fun j hj => by rw [getD_over xs j (by have := h1.len; omega), getD_over ys j (by have := g1.len; omega)]⟩
  case round =>
    obtain ⟨p, q, hp, rfl, rfl, HE⟩ := hrel
    by_cases hp0 : 0 < p
    · obtain ⟨b, off, rfl, hb, hc⟩ := h1.opened (by omega)
      obtain ⟨b', off', rfl, hb', hc'⟩ := g1.opened (by omega)
      have hx := hc (p - 1) (by omega)
      have hy := hc' (p - 1) (by omega)
      have hi1 : (0 : Int) ≤ (p : Int) - 1 := by omega
      have hi2 : (p : Int) - 1 < (k : Int) := by omega
      obtain ⟨x, ex⟩ : ∃ x, x = xs.getD (p - 1) 0 := ⟨_, rfl⟩
      obtain ⟨y, ey⟩ : ∃ y, y = ys.getD (p - 1) 0 := ⟨_, rfl⟩
      rw [← ex] at hx
      rw [← ey] at hy
      have EX : Hid (x = xs.getD (p - 1) 0) := ex
      have EY : Hid (y = ys.getD (p - 1) 0) := ey
      clear ex ey hc hc'
      rcases Int.lt_trichotomy x y with hxy | hxy | hxy
      · have HC : Hid (cmpZ X Y = -1) := cmpZ_lt (by rw [← h2.out, ← g2.out]; exact val_lt_at (p - 1) h1.dig g1.dig (by rw [h1.len, g1.len]) (by rw [← EX.out, ← EY.out]; exact hxy) (fun j hj => HE.out j (by omega)))
        go_wp2
        go_quiet (fail)
        go_wp2
        go_ret
        exact ⟨ret_int HC.out.symm, _, World.drewN_drewN _ _ _⟩
      · subst hxy
        have hs : ¬ x < x := by omega
        go_wp2
        go_quiet (fail)
        go_wp2
        go_quiet (fail)
        go_wp2
        go_roundw
        case rel => exact ⟨p - 1, _, by omega, by go_num, rfl, fun j hj => if e : j = p - 1 then by rw [e, ← EX.out, ← EY.out] else HE.out j (by omega)⟩
        case measure => simp [intOf]; omega
      · have HC : Hid (cmpZ X Y = 1) := cmpZ_gt (by rw [← h2.out, ← g2.out]; exact val_lt_at (p - 1) g1.dig h1.dig (by rw [h1.len, g1.len]) (by rw [← EX.out, ← EY.out]; exact hxy) (fun j hj => (HE.out j (by omega)).symm))
        have hs : ¬ x < y := by omega
        go_wp2
        go_quiet (fail)
        go_wp2
        go_quiet (fail)
        go_wp2
        go_ret
        exact ⟨ret_int HC.out.symm, _, (World.drewN_drewN _ _ _).trans (World.drewN_drewN _ _ _)⟩
    · have HC : Hid (cmpZ X Y = 0) := cmpZ_eq (by rw [← h2.out, ← g2.out, eq_of_getD (h1.len.trans g1.len.symm) (fun j => HE.out j (by omega))])
      go_wp2
      go_ret
      exact ⟨ret_int HC.out.symm, _, rfl⟩
theorem cmp_any (w : World) (ao bo : Option Addr) (n m : Nat) (za zb : List Int) (hn : n ≤ 100000) (hm : m ≤ 100000) (ha : NatAt w ao n za) (hb : NatAt w bo m zb) :
    Calls Sacg.prog 28 #[.slice ao n n, .slice bo m m] w fun e w' => e = .returned (.int .i8 (cmpZ (val za) (val zb))) ∧ ∃ q, w' = w.drewN q :=
  cmp_core w ao bo n m za zb _ _ rfl rfl hn hm ha hb

theorem isZero_any (w : World) (ao : Option Addr) (n : Nat) (za : List Int) (hn : n ≤ 100000) (ha : NatAt w ao n za) :
    Calls Sacg.prog 36 #[.slice ao n n] w fun e w' => e = .returned (.bool (cmpZ (val za) 0 == 0)) ∧ ∃ q, w' = w.drewN q := by
  go_enter Sacg.func36, Sacg.ntmps36
  go_wp2_with fail
  refine (cmp_any w ao none n 0 za [] hn (by omega) ha (NatAt.zero w)).mono ?_
  rintro e w' ⟨rfl, q, rfl⟩
  go_wp2
  go_ret
  exact ⟨rfl, _, rfl⟩

theorem num_any (w : World) (x : Int) (h0 : 0 ≤ x) (hx : x ≤ 18446744073709551615) : Calls Sacg.prog 31 #[.int .u64 x] w fun e w' => Gives w x 8 e w' := by
  go_enter Sacg.func31, Sacg.ntmps31
  go_wp2_with fail
  refine (fromU64_any w x h0 hx).mono ?_
  rintro e w' ⟨ao, n, zs, rfl, g1, g2, g3, g4, g5⟩
  go_wp2
  go_ret
  exact ⟨ao, n, zs, rfl, g1, g2, g3, g4, g5⟩
end Go.Proofs.Ygcsac
