/- nat.FromBE and nat.Pow2(9): contracts. -/
import Derived.Test.YgcsacYpA
namespace Go.Proofs.Ygcsac
open Go.RowKit

theorem run_make_sub (w : World) (n f : Nat) (hf : f ≤ n) (hn : n ≤ 100000) : (Instr.makeSlice 25 (.int .i64 ((n : Int) - (f : Int))) (.int .i64 ((n : Int) - (f : Int)))).run Sacg.prog w =
    .ok (.slice (some ⟨w.heap.size, 0, none⟩) (n - f) (n - f)) (w.alloc (.cells (bytesOf (zer (n - f))).toArray 5)) := by
  have := run_make_nat w (n - f) (by omega)
  rw [show ((n - f : Nat) : Int) = (n : Int) - (f : Int) from by omega] at this
  exact this
theorem be_list (zs os : List Int) (n f : Nat) (hz : zs.length = n) (hl : os.length = n - f) (h : ∀ j, j < n - f → os.getD j 0 = zs.getD (n - 1 - j) 0) : os = (zs.drop f).reverse := by
  apply eq_of_getD
  · simp [hl, hz]
  · intro j
    by_cases hj : j < n - f
    · rw [h j hj, List.getD_eq_getElem?_getD, List.getD_eq_getElem?_getD, List.getElem?_reverse (by simp [hz]; omega), List.getElem?_drop]
      congr 2
      simp [hz]
      omega
    · rw [getD_over os j (by omega), getD_over _ j (by simp [hz]; omega)]
theorem be_nrm (zs : List Int) (n f : Nat) (hz : zs.length = n) (hf : f < n) (h : zs.getD f 0 ≠ 0) : Nrm (zs.drop f).reverse := by
  right
  rw [List.getD_eq_getElem?_getD, List.getElem?_reverse (by simp [hz]; omega), List.getElem?_drop]
  rw [List.getD_eq_getElem?_getD] at h
  have e : f + ((zs.drop f).length - 1 - ((zs.drop f).reverse.length - 1)) = f := by simp
  rw [e]
  exact h
theorem dgs_be {zs : List Int} (h : Dgs zs) (f : Nat) : Dgs (zs.drop f).reverse := fun z hz => h z (List.mem_of_mem_drop (List.mem_reverse.1 hz))

/-- What nat.FromBE gives: the number of the bytes, normal; f bytes at the top are 0, the next is not. -/
def GivesBE (w : World) (n : Nat) (zs : List Int) (e : Ending) (w' : World) : Prop :=
  ∃ bo f ys, e = .returned (.slice bo (n - f) (n - f)) ∧ NatAt w' bo (n - f) ys ∧ val ys = beVal zs ∧ Nrm ys ∧ f ≤ n ∧ (∀ j, j < f → zs.getD j 0 = 0) ∧ (f < n → zs.getD f 0 ≠ 0) ∧ Kp w w'

set_option maxHeartbeats 600000 in
theorem fromBE_any (w : World) (ao : Option Addr) (n : Nat) (zs : List Int) (hn : n ≤ 1000) (ha : NatAt w ao n zs) :
    Calls Sacg.prog 8 #[.slice ao n n] w fun e w' => GivesBE w n zs e w' := by
  go_enter Sacg.func8, Sacg.ntmps8
  go_wp2
  go_loop [3] (fun i => ∃ f : Nat, f ≤ n ∧ i = .int .i64 f ∧ Hid (∀ j, j < f → zs.getD j 0 = 0)) (fun i => n - (intOf i).toNat)
  case atStart => exact ⟨0, Nat.zero_le _, rfl, fun j hj => absurd hj (Nat.not_lt_zero j)⟩
  case round =>
    obtain ⟨f, hf, rfl, HZ⟩ := hrel
    by_cases hlt : f < n
    · obtain ⟨b, off, rfl, hb, hc⟩ := ha.opened (by omega)
      have hx := hc f hlt
      obtain ⟨x, ex⟩ : ∃ x, x = zs.getD f 0 := ⟨_, rfl⟩
      rw [← ex] at hx
      by_cases hx0 : x = 0
      · have hxe : (x == 0) = true := by simp [hx0]
        have HZ' : Hid (∀ j, j < f + 1 → zs.getD j 0 = 0) := fun j hj => if e : j = f then by rw [e, ← ex, hx0] else HZ.out j (by omega)
        clear ex hx0 hc
        go_wp2
        go_round
        case rel => exact ⟨f + 1, by omega, by go_num, HZ'⟩
        case measure => simp [intOf]; omega
      · have hxe : (x == 0) = false := by simp [hx0]
        have HN : Hid (zs.getD f 0 ≠ 0) := by show _ ≠ _; rw [← ex]; exact hx0
        have hfn : ((f : Int) == (n : Int)) = false := by simp; omega
        have HC : Hid (∀ j, j < n → w.cell? ⟨b, off + j, none⟩ = some (.int .u8 (zs.getD j 0))) := hc
        clear ex hx0 hc
        have hmk := fun w => run_make_sub w n f hf (by omega)
        go_wp2
        go_loopw [30] (fun i wr => ∃ (p : Nat) (os : List Int), p ≤ n - f ∧ i = .int .i64 p ∧ Row wr w.heap.size 5 (bytesOf os) ∧ os.length = n - f ∧ Dgs os ∧ Hid (∀ j, j < p → os.getD j 0 = zs.getD (n - 1 - j) 0) ∧ Below w.heap.size w wr) (fun i _ => n - f - (intOf i).toNat)
        case atStart => exact ⟨0, zer (n - f), Nat.zero_le _, rfl, Row.new w 5 _, zer_length _, zer_dgs _, fun j hj => absurd hj (Nat.not_lt_zero j), (Below.refl _ _).alloc (Nat.le_refl _) _⟩
        case round =>
          clear hmk hx
          obtain ⟨p, os, hp, rfl, hrow, hlen, hdg, HV, hbel⟩ := hrel
          by_cases hlt' : p < n - f
          · have hx : wr.cell? ⟨b, off + (n - 1 - p), none⟩ = some (.int .u8 (zs.getD (n - 1 - p) 0)) := (hbel.cell (p := ⟨b, off + (n - 1 - p), none⟩) hb).trans (HC.out (n - 1 - p) (by omega))
            have hyb := ha.dig.getD (n - 1 - p)
            obtain ⟨y, ey⟩ : ∃ y, y = zs.getD (n - 1 - p) 0 := ⟨_, rfl⟩
            rw [← ey] at hx hyb
            have EY : Hid (y = zs.getD (n - 1 - p) 0) := ey
            clear ey
            obtain ⟨o2, hd⟩ : ∃ o2, wr.cell? ⟨w.heap.size, p, none⟩ = some o2 := by rw [hrow.cell, bytesOf_at os p (by omega)]; exact ⟨_, rfl⟩
            have hf' := hrow.frozen p
            go_wp2
            go_roundw
            case rel => exact ⟨p + 1, os.set p y, by omega, by go_num, by rw [← bytesOf_set]; exact hrow.set p _, by rw [List.length_set]; exact hlen, hdg.set p _ hyb.1 hyb.2, fun j hj => if e : j = p then by rw [e, getD_set_eq _ _ _ (by omega)]; exact EY.out else by rw [getD_set_ne _ _ _ _ e]; exact HV.out j (by omega), hbel.setCell (Nat.le_refl _) _⟩
            case measure => simp [intOf]; omega
          · obtain rfl : p = n - f := by omega
            have HL : Hid (os = (zs.drop f).reverse) := be_list zs os n f ha.len hlen HV.out
            go_wp2
            go_ret
            refine ⟨_, f, os, rfl, NatAt.ofRow hrow hdg hlen, ?_, ?_, hf, HZ.out, fun _ => HN.out, hbel⟩
            · rw [HL.out]; exact be_drop zs f HZ.out
            · rw [HL.out]; exact be_nrm zs n f ha.len hlt HN.out
    · obtain rfl : f = n := by omega
      go_wp2
      go_ret
      refine ⟨none, f, [], by rw [Nat.sub_self]; rfl, by rw [Nat.sub_self]; exact NatAt.zero w, ?_, .inl rfl, Nat.le_refl _, HZ.out, fun h => absurd h (Nat.lt_irrefl _), Kp.refl w⟩
      rw [← be_drop zs f HZ.out, List.drop_of_length_le (by rw [ha.len]; exact Nat.le_refl _)]
      rfl

theorem make_two (w : World) : (Instr.makeSlice 25 (.int .i64 2) (.int .i64 2)).run Sacg.prog w =
    .ok (.slice (some ⟨w.heap.size, 0, none⟩) 2 2) (w.alloc (.cells #[.int .u8 0, .int .u8 0] 5)) := run_make_nat w 2 (by omega)
theorem pow2_nine (w : World) : Calls Sacg.prog 27 #[.int .u16 9] w fun e w' => Nt w 512 2 e w' := by
  have hmk := make_two
  go_enter Sacg.func27, Sacg.ntmps27
  go_wp2
  go_ret
  exact ⟨_, 2, [0, 2], rfl, NatAt.ofRow (T := 5) (Row.new w 5 [.int .u8 0, .int .u8 2]) (by intro z hz; simp at hz; omega) rfl, by decide, by omega, (Below.refl _ _).alloc (Nat.le_refl _) _⟩
end Go.Proofs.Ygcsac
