/- nat.Add: contract. -/
import Derived.Test.YgcsacNatC
namespace Go.Proofs.Ygcsac
open Go.RowKit

theorem add_step (os za zb : List Int) (k : Nat) (c : Int) (hk : k < os.length) (h0 : os.getD k 0 = 0) (hV : val os + pw k * c = val (za.take k) + val (zb.take k)) :
    val (os.set k ((c + za.getD k 0 + zb.getD k 0) % 256)) + pw (k + 1) * ((c + za.getD k 0 + zb.getD k 0) / 256) = val (za.take (k + 1)) + val (zb.take (k + 1)) := by
  rw [val_set0 os k _ hk h0, pw_succ, val_take_succ, val_take_succ]
  have := carry_step (pw k) (c + za.getD k 0 + zb.getD k 0)
  rw [Int.mul_add (pw k) (c + za.getD k 0), Int.mul_add (pw k) c] at this
  omega

theorem run_make_nat1 (w : World) (n : Nat) (hn : n < 100000) : (Instr.makeSlice 25 (.int .i64 ((n : Int) + 1)) (.int .i64 ((n : Int) + 1))).run Sacg.prog w =
    .ok (.slice (some ⟨w.heap.size, 0, none⟩) (n + 1) (n + 1)) (w.alloc (.cells (bytesOf (zer (n + 1))).toArray 5)) := run_make_nat w (n + 1) (by omega)
theorem add_end (os za zb : List Int) (p : Nat) (c X : Int) (hl : os.length = p + 1) (h0 : os.getD p 0 = 0) (ha : za.length = p) (hb : zb.length ≤ p) (hV : val os + pw p * c = val (za.take p) + val (zb.take p)) (hX : val za + val zb = X) :
    val (os.set p c) = X := by
  rw [val_set0 os p c (by omega) h0, hV, List.take_of_length_le (by omega), List.take_of_length_le hb, hX]

set_option maxHeartbeats 2000000 in
theorem add_core (w : World) (ao bo : Option Addr) (n m : Nat) (za zb : List Int) (X : Int) (hX : Hid (val za + val zb = X)) (hn : n < 100000) (hm : m < 100000) (ha : NatAt w ao n za) (hb : NatAt w bo m zb) :
    Calls Sacg.prog 29 #[.slice ao n n, .slice bo m m] w fun e w' => Gives w X (n + m + 1) e w' := by
  go_enter Sacg.func29, Sacg.ntmps29
  go_wp2_with fail
  refine (trim_any _ _ _ za (by omega) ha).mono ?_
  rintro e w' ⟨k, rfl, rfl, hk, h1, h2, h3⟩
  obtain ⟨xs, exs⟩ : ∃ xs, xs = za.take k := ⟨_, rfl⟩
  rw [← exs] at h1 h2
  clear exs h3
  go_wp2_with fail
  refine (trim_any _ _ _ zb (by omega) hb).mono ?_
  rintro e w' ⟨l, rfl, rfl, hl, g1, g2, g3⟩
  obtain ⟨ys, eys⟩ : ∃ ys, ys = zb.take l := ⟨_, rfl⟩
  rw [← eys] at g1 g2
  have hX' : Hid (val xs + val ys = X) := by show _ = _; rw [h2, g2]; exact hX.out
  clear eys g3 h2 g2 hX ha hb
  have key : ∃ po pn ps qo qn qs, NatAt w po pn ps ∧ NatAt w qo qn qs ∧ qn ≤ pn ∧ pn ≤ n + m ∧ Hid (val ps + val qs = X) ∧
      ((k < l ∧ po = bo ∧ pn = l ∧ ps = ys ∧ qo = ao ∧ qn = k ∧ qs = xs) ∨ (¬ k < l ∧ po = ao ∧ pn = k ∧ ps = xs ∧ qo = bo ∧ qn = l ∧ qs = ys)) := by
    by_cases hlt : k < l
    · exact ⟨_, _, _, _, _, _, g1, h1, by omega, by omega, by show _ = _; rw [Int.add_comm]; exact hX'.out, .inl ⟨hlt, rfl, rfl, rfl, rfl, rfl, rfl⟩⟩
    · exact ⟨_, _, _, _, _, _, h1, g1, by omega, by omega, hX', .inr ⟨hlt, rfl, rfl, rfl, rfl, rfl, rfl⟩⟩
  obtain ⟨po, pn, ps, qo, qn, qs, hp, hq, hqp, hpn, hV, key⟩ := key
  clear h1 g1 hX'
  have hmk := fun w => run_make_nat1 w pn (by omega)
  rcases key with ⟨hlt, rfl, rfl, rfl, rfl, rfl, rfl⟩ | ⟨hlt, rfl, rfl, rfl, rfl, rfl, rfl⟩
  all_goals
    go_wp2
    go_loopw [6, 26] (fun cv i wr => ∃ (p : Nat) (c : Int) (os : List Int), p ≤ pn ∧ i = .int .i64 p ∧ cv = .int .u16 c ∧ 0 ≤ c ∧ c ≤ 1 ∧ Row wr w.heap.size 5 (bytesOf os) ∧ os.length = pn + 1 ∧ Dgs os ∧ Hid (val os + pw p * c = val (ps.take p) + val (qs.take p)) ∧ Hid (∀ j, p ≤ j → os.getD j 0 = 0) ∧ Below w.heap.size w wr) (fun _ i _ => pn - (intOf i).toNat)
    case atStart => exact ⟨0, 0, zer (pn + 1), Nat.zero_le _, rfl, rfl, by omega, by omega, Row.new w 5 _, zer_length _, zer_dgs _, by show val (zer (pn + 1)) + pw 0 * 0 = val (ps.take 0) + val (qs.take 0); rw [zer_val, val_take_zero, val_take_zero]; rfl, fun j _ => zer_at _ j, (Below.refl _ _).alloc (Nat.le_refl _) _⟩
    case round =>
      obtain ⟨p, c, os, hpp, rfl, rfl, hc0, hc1, hrow, hlen, hdg, HV, HZ, hbel⟩ := hrel
      by_cases hlt' : p < pn
      · obtain ⟨b, off, rfl, hb, hc⟩ := hp.opened (by omega)
        have hx : wr.cell? ⟨b, off + p, none⟩ = some (.int .u8 (ps.getD p 0)) := (hbel.cell (p := ⟨b, off + p, none⟩) hb).trans (hc p hlt')
        have hxb := hp.dig.getD p
        have hyb := hq.dig.getD p
        have HS := add_step os ps qs p c (by omega) (HZ.out p (Nat.le_refl _)) HV.out
        obtain ⟨x, ex⟩ : ∃ x, x = ps.getD p 0 := ⟨_, rfl⟩
        obtain ⟨y, ey⟩ : ∃ y, y = qs.getD p 0 := ⟨_, rfl⟩
        have EY : Hid (y = qs.getD p 0) := ey
        rw [← ex] at hx hxb
        rw [← ey] at hyb
        rw [← ex, ← ey] at HS
        have HS' : Hid _ := HS
        clear ex ey HS hc
        obtain ⟨o2, hd⟩ : ∃ o2, wr.cell? ⟨w.heap.size, p, none⟩ = some o2 := by rw [hrow.cell, bytesOf_at os p (by omega)]; exact ⟨_, rfl⟩
        have hf := hrow.frozen p
        by_cases hpq : p < qn
        · obtain ⟨b', off', rfl, hb', hc'⟩ := hq.opened (by omega)
          have hy : wr.cell? ⟨b', off' + p, none⟩ = some (.int .u8 y) := by rw [EY.out]; exact (hbel.cell (p := ⟨b', off' + p, none⟩) hb').trans (hc' p hpq)
          clear hc'
          go_wp2
          go_roundw
          case rel => exact ⟨p + 1, _, os.set p ((c + x + y) % 256), by omega, by go_num, rfl, by omega, by omega, by rw [← bytesOf_set]; exact hrow.set p _, by rw [List.length_set]; exact hlen, hdg.set p _ (by omega) (by omega), HS'.out, fun j hj => by rw [getD_set_ne _ _ _ _ (by omega)]; exact HZ.out j (by omega), hbel.setCell (Nat.le_refl _) _⟩
          case measure => simp [intOf]; omega
        · have hy0 : y = 0 := by rw [EY.out]; exact getD_over qs p (by have := hq.len; omega)
          rw [hy0, Int.add_zero] at HS'
          clear hyb EY hy0
          go_wp2
          go_roundw
          case rel => exact ⟨p + 1, _, os.set p ((c + x) % 256), by omega, by go_num, rfl, by omega, by omega, by rw [← bytesOf_set]; exact hrow.set p _, by rw [List.length_set]; exact hlen, hdg.set p _ (by omega) (by omega), HS'.out, fun j hj => by rw [getD_set_ne _ _ _ _ (by omega)]; exact HZ.out j (by omega), hbel.setCell (Nat.le_refl _) _⟩
          case measure => simp [intOf]; omega
      · obtain rfl : p = pn := by omega
        have HE : Hid (val (os.set p c) = X) := add_end os ps qs p c X hlen (HZ.out p (Nat.le_refl _)) hp.len (by rw [hq.len]; exact hqp) HV.out hV.out
        obtain ⟨o2, hd⟩ : ∃ o2, wr.cell? ⟨w.heap.size, p, none⟩ = some o2 := by rw [hrow.cell, bytesOf_at os p (by omega)]; exact ⟨_, rfl⟩
        have hf := hrow.frozen p
        have hrow' := hrow.set p (.int .u8 c)
        rw [bytesOf_set] at hrow'
        have hN := NatAt.ofRow (n := p + 1) hrow' (hdg.set p c (by omega) (by omega)) (by rw [List.length_set]; exact hlen)
        have hbel' := hbel.setCell (p := ⟨w.heap.size, p, none⟩) (Nat.le_refl _) (.int .u8 c)
        clear hrow' hrow hdg HV HZ hbel
        go_wp2_with fail
        refine (clip_any _ _ (p + 1) _ (by omega) hN).mono ?_
        rintro e w1 ⟨ao1, n1, zs1, rfl, r1, r2, r3, r4, r5⟩
        go_wp2
        go_ret
        exact ⟨ao1, n1, zs1, rfl, r1, r2.trans HE.out, r3, by omega, hbel'.trans (r5.mono hbel'.size)⟩
theorem add_any (w : World) (ao bo : Option Addr) (n m : Nat) (za zb : List Int) (hn : n < 100000) (hm : m < 100000) (ha : NatAt w ao n za) (hb : NatAt w bo m zb) :
    Calls Sacg.prog 29 #[.slice ao n n, .slice bo m m] w fun e w' => Gives w (val za + val zb) (n + m + 1) e w' := add_core w ao bo n m za zb _ rfl hn hm ha hb
end Go.Proofs.Ygcsac
