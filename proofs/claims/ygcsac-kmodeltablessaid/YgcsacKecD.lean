/- kmodel.Const and kmodel.Offset. -/
import Derived.Test.YgcsacKecC
import Derived.Test.YgcsacPlain
import Derived.Test.YgcsacPlainB
namespace Go.Proofs.Ygcsac.kec
open Go.RowKit

/-- The register behind t turns. -/
def regB : Nat → List Bool
  | 0 => [true, false, false, false, false, false, false, false]
  | t + 1 => turnL (regB t)
theorem regB_length (t : Nat) : (regB t).length = 8 := by cases t <;> rfl
/-- The constant gathered from the turns 7a to 7a + j - 1. -/
def kon (a : Nat) : Nat → Int
  | 0 => 0
  | j + 1 => if (regB (7 * a + j)).getD 0 false = true then addZ (kon a j) j else kon a j
theorem kon_yes (a j : Nat) (h : (regB (7 * a + j)).getD 0 false = true) : kon a (j + 1) = addZ (kon a j) j := by simp only [kon]; rw [if_pos h]
theorem kon_no (a j : Nat) (h : (regB (7 * a + j)).getD 0 false = false) : kon a (j + 1) = kon a j := by simp only [kon]; rw [if_neg (by rw [h]; decide)]
set_option maxRecDepth 100000 in
theorem kon_all : ∀ n : Fin 24, kon n.val 7 = rcZ ((n.val : Nat) : Int) := by decide +kernel

set_option maxHeartbeats 1000000 in
theorem const_any (a : Int) (w : World) (h0 : 0 ≤ a) : Calls Sacg.prog 23 #[.int .u8 a] w fun e w' => e = .returned (.int .u64 (rcZ a)) ∧ Below w.heap.size w w' := by
  by_cases h : 24 ≤ a
  · rw [rcZ_hi a h]
    go_enter Sacg.func23, Sacg.ntmps23
    go_wp2
    go_ret
    exact ⟨rfl, Below.refl _ _⟩
  have h : a < 24 := by omega
  obtain ⟨n, rfl⟩ : ∃ n : Nat, a = (n : Int) := ⟨a.toNat, by omega⟩
  go_enter Sacg.func23, Sacg.ntmps23
  go_wp2
  go_loopw [4] (fun i wr => ∃ t : Nat, t ≤ 7 * n ∧ i = .int .i64 t ∧ Row wr w.heap.size 61 ((regB t).map Value.bool) ∧ Below w.heap.size w wr) (fun i _ => 7 * n - (intOf i).toNat)
  case atStart => exact ⟨0, Nat.zero_le _, rfl, Row.new w 61 ((regB 0).map Value.bool), (Below.refl _ _).alloc (Nat.le_refl _) _⟩
  case round =>
    obtain ⟨t, hk, rfl, hrow, hbel⟩ := hrel
    by_cases hlt : t < 7 * n
    · go_wp2_with (go_at_call 38; refine (turn_any w.heap.size 61 (regB t) _ (regB_length t) hrow).mono ?_; rintro e w1 ⟨rfl, hr1, ho1⟩)
      go_roundw
      case rel => exact ⟨t + 1, by omega, by go_num, hr1, hbel.trans (ho1.below (Nat.le_refl _))⟩
      case measure => simp [intOf]; omega
    · obtain rfl : t = 7 * n := by omega
      go_wp2
      go_loopw [5, 6] (fun c i wr => ∃ j : Nat, j ≤ 7 ∧ i = .int .i64 j ∧ c = .int .u64 (kon n j) ∧ Row wr w.heap.size 61 ((regB (7 * n + j)).map Value.bool) ∧ Below w.heap.size w wr) (fun _ i _ => 7 - (intOf i).toNat)
      case atStart => exact ⟨0, Nat.zero_le _, rfl, rfl, hrow, hbel⟩
      case round =>
        clear hrow hbel
        obtain ⟨j, hk, rfl, rfl, hrow, hbel⟩ := hrel
        by_cases hlt : j < 7
        · by_cases hb : (regB (7 * n + j)).getD 0 false = true
          · have hc : wr.cell? ⟨w.heap.size, 0, none⟩ = some (.bool true) := by rw [hrow.cell, ← hb]; simp [regB_length]
            go_wp2_with (go_at_call 38; refine (turn_any w.heap.size 61 (regB (7 * n + j)) _ (regB_length _) hrow).mono ?_; rintro e w1 ⟨rfl, hr1, ho1⟩)
            go_roundw
            case rel => exact ⟨_, _, _, _, _, _, _, _, _, _, _, _, _, _, _, ⟨j + 1, by omega, by go_num, by rw [kon_yes n j hb]; rfl, hr1, hbel.trans (ho1.below (Nat.le_refl _))⟩, rfl⟩
            case measure => simp [intOf]; omega
          · have hb : (regB (7 * n + j)).getD 0 false = false := by simpa using hb
            have hc : wr.cell? ⟨w.heap.size, 0, none⟩ = some (.bool false) := by rw [hrow.cell, ← hb]; simp [regB_length]
            go_wp2_with (go_at_call 38; refine (turn_any w.heap.size 61 (regB (7 * n + j)) _ (regB_length _) hrow).mono ?_; rintro e w1 ⟨rfl, hr1, ho1⟩)
            go_roundw
            case rel => exact ⟨_, _, _, _, _, _, _, _, _, _, _, _, _, _, _, ⟨j + 1, by omega, by go_num, by rw [kon_no n j hb], hr1, hbel.trans (ho1.below (Nat.le_refl _))⟩, rfl⟩
            case measure => simp [intOf]; omega
        · obtain rfl : j = 7 := by omega
          have HK : Hid (kon n 7 = rcZ (n : Int)) := kon_all ⟨n, by omega⟩
          go_wp2
          go_ret
          exact ⟨ret_int HK.out, hbel⟩

/-! ### kmodel.Offset -/
theorem off_all : ∀ t : Fin 24, (wrap64 ((wrap64 ((((t.val : Nat) : Int) + 1) * (((t.val : Nat) : Int) + 2))).tdiv 2)).tmod 64 % 256 = tri (t.val + 1) % 64 := by decide +kernel
theorem off_is (t : Nat) (x y : Int) (h : t < 24) (hx : laneU t = x) (hy : laneV t = y) : (wrap64 ((wrap64 (((t : Int) + 1) * ((t : Int) + 2))).tdiv 2)).tmod 64 % 256 = rotZ x y := by
  rw [rot_is t x y h hx hy]
  exact off_all ⟨t, h⟩
set_option maxHeartbeats 1000000 in
theorem offset_any (x y : Int) (w : World) (hx : 0 ≤ x) (hy : 0 ≤ y) (hxb : x ≤ 255) (hyb : y ≤ 255) : Calls Sacg.prog 24 #[.int .u8 x, .int .u8 y] w fun e w' => e = .returned (.int .u8 (rotZ x y)) ∧ w' = w := by
  have rb := rotZ_bd x y
  by_cases h : 5 ≤ x
  · rw [rotZ_hi x y (.inl h)]
    go_enter Sacg.func24, Sacg.ntmps24
    go_wp2
    go_ret
    exact ⟨rfl, rfl⟩
  by_cases h' : 5 ≤ y
  · rw [rotZ_hi x y (.inr h')]
    go_enter Sacg.func24, Sacg.ntmps24
    go_wp2
    go_ret
    exact ⟨rfl, rfl⟩
  have hlx : x < 5 := by omega
  have hly : y < 5 := by omega
  have HM : Hid (¬ (x = 0 ∧ y = 0) → ∃ t, t < 24 ∧ laneU t = x ∧ laneV t = y) := met_is x y hx hlx hy hly
  go_enter Sacg.func24, Sacg.ntmps24
  go_wp2
  go_loop [5, 6, 7] (fun u v i => ∃ t : Nat, t ≤ 24 ∧ i = .int .i64 t ∧ u = .int .i64 (laneU t) ∧ v = .int .i64 (laneV t) ∧ Hid (∀ q, q < t → ¬ (laneU q = x ∧ laneV q = y))) (fun _ _ i => (24 - (intOf i)).toNat)
  case atStart => exact ⟨0, by omega, rfl, rfl, rfl, fun q hq => absurd hq (Nat.not_lt_zero q)⟩
  case round =>
    obtain ⟨t, hk, rfl, rfl, rfl, hun⟩ := hrel
    have lb := lane_bd t
    by_cases hlt : t < 24
    · by_cases hu : laneU t = x
      · by_cases hv : laneV t = y
        · have HR : Hid ((wrap64 ((wrap64 (((t : Int) + 1) * ((t : Int) + 2))).tdiv 2)).tmod 64 % 256 = rotZ x y) := off_is t x y hlt hu hv
          have hue : (laneU t == x) = true := by simp [hu]
          have hve : (laneV t == y) = true := by simp [hv]
          clear hu hv
          go_wp2
          go_ret
          exact ⟨ret_int HR.out, rfl⟩
        · have hue : (laneU t == x) = true := by simp [hu]
          have hve : (laneV t == y) = false := by simp [hv]
          clear hu
          go_wp2
          go_round
          case rel => exact ⟨t + 1, by omega, by go_num, rfl, by rw [laneV_succ], fun q hq => if e : q = t then e ▸ fun c => hv c.2 else hun.out q (by omega)⟩
          case measure => simp [intOf]; omega
      · have hue : (laneU t == x) = false := by simp [hu]
        go_wp2
        go_round
        case rel => exact ⟨t + 1, by omega, by go_num, rfl, by rw [laneV_succ], fun q hq => if e : q = t then e ▸ fun c => hu c.1 else hun.out q (by omega)⟩
        case measure => simp [intOf]; omega
    · by_cases hz : x = 0 ∧ y = 0
      · obtain ⟨rfl, rfl⟩ := hz
        have HZ : Hid (rotZ 0 0 = 0) := rot_zero
        go_wp2
        go_ret
        exact ⟨ret_int HZ.out.symm, rfl⟩
      · obtain ⟨q, hq, hqu, hqv⟩ := HM.out hz
        exact absurd ⟨hqu, hqv⟩ (hun.out q (by omega))
end Go.Proofs.Ygcsac.kec
