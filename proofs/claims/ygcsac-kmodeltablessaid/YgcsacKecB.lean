/- keccak.Rot AND law.rotationHolds: what each call returns. -/
import Derived.Test.YgcsacRows
import Derived.Test.YgcsacPlainB
import Derived.Test.YgcsacLaw
import Derived.WalkKit
import Derived.ProofKit
namespace Go.Proofs.Ygcsac.kec
open Go.RowKit

theorem rot_cell (i : Int) (h0 : 0 ≤ i) (h : i < 25) : (#[.int .u8 0, .int .u8 1, .int .u8 62, .int .u8 28, .int .u8 27, .int .u8 36, .int .u8 44, .int .u8 6, .int .u8 55, .int .u8 20, .int .u8 3, .int .u8 10, .int .u8 43, .int .u8 25, .int .u8 39, .int .u8 41, .int .u8 45, .int .u8 15, .int .u8 21, .int .u8 8, .int .u8 18, .int .u8 2, .int .u8 61, .int .u8 56, .int .u8 14] : Array Value)[i.toNat]? = some (.int .u8 (rotL.getD i.toNat 0)) := by
  have e : (#[.int .u8 0, .int .u8 1, .int .u8 62, .int .u8 28, .int .u8 27, .int .u8 36, .int .u8 44, .int .u8 6, .int .u8 55, .int .u8 20, .int .u8 3, .int .u8 10, .int .u8 43, .int .u8 25, .int .u8 39, .int .u8 41, .int .u8 45, .int .u8 15, .int .u8 21, .int .u8 8, .int .u8 18, .int .u8 2, .int .u8 61, .int .u8 56, .int .u8 14] : Array Value) = (rotL.map (Value.int .u8)).toArray := rfl
  have hl : rotL.length = 25 := rfl
  rw [e, List.getElem?_toArray, List.getElem?_map, List.getD_eq_getElem?_getD, List.getElem?_eq_getElem (by omega)]
  rfl

set_option maxHeartbeats 400000 in
theorem rot_any (x y : Int) (w : World) (hx : 0 ≤ x) (hy : 0 ≤ y) : Calls Sacg.prog 21 #[.int .u8 x, .int .u8 y] w fun e w' => e = .returned (.int .u8 (rotZ x y)) ∧ w' = w := by
  by_cases h : 5 ≤ x
  · rw [rotZ_hi x y (.inl h)]
    go_enter Sacg.func21, Sacg.ntmps21
    go_wp2
    go_ret
    exact ⟨rfl, rfl⟩
  by_cases h' : 5 ≤ y
  · rw [rotZ_hi x y (.inr h')]
    go_enter Sacg.func21, Sacg.ntmps21
    go_wp2
    go_ret
    exact ⟨rfl, rfl⟩
  have hlx : x < 5 := by omega
  have hly : y < 5 := by omega
  have hi := fun w => run_index_int (P := Sacg.prog) w 59 5 25 .u8 .u8 _ (5 * y + x) Sacg.underlying59 Sacg.underlying5 (by kernel_rfl) (by omega) (by omega) _ (rot_cell (5 * y + x) (by omega) (by omega))
  have HZ : Hid (rotZ x y = rotL.getD (5 * y + x).toNat 0) := by unfold rotZ; rw [if_neg (by omega)]; exact rfl
  go_enter Sacg.func21, Sacg.ntmps21
  go_wp2
  go_ret
  exact ⟨ret_int HZ.out.symm, rfl⟩

set_option maxHeartbeats 400000 in
theorem rotHolds_any (x y : Int) (w : World) (hx : 0 ≤ x) (hy : 0 ≤ y) : Calls Sacg.prog 20 #[.int .u8 x, .int .u8 y, .int .u8 (rotZ x y)] w fun e w' => e = .returned (.bool true) ∧ w' = w := by
  have rb := rotZ_bd x y
  by_cases h : 5 ≤ x
  · have HZ : Hid (rotZ x y = 0) := rotZ_hi x y (.inl h)
    go_enter Sacg.func20, Sacg.ntmps20
    go_wp2
    go_ret
    exact ⟨ret_bool (by rw [HZ.out]; rfl), rfl⟩
  by_cases h' : 5 ≤ y
  · have HZ : Hid (rotZ x y = 0) := rotZ_hi x y (.inr h')
    go_enter Sacg.func20, Sacg.ntmps20
    go_wp2
    go_ret
    exact ⟨ret_bool (by rw [HZ.out]; rfl), rfl⟩
  by_cases hz : x = 0 ∧ y = 0
  · obtain ⟨rfl, rfl⟩ := hz
    rw [rot_zero]
    go_enter Sacg.func20, Sacg.ntmps20
    go_wp2
    go_ret
    exact ⟨rfl, rfl⟩
  have hlx : x < 5 := by omega
  have hly : y < 5 := by omega
  have HM : Hid (∃ t, t < 24 ∧ laneU t = x ∧ laneV t = y) := met_is x y hx hlx hy hly hz
  have tests : ((x == 0) = true ∧ (y == 0) = false) ∨ (x == 0) = false := by
    by_cases e : x = 0
    · left; exact ⟨by simp [e], by simp; intro e'; exact hz ⟨e, e'⟩⟩
    · right; simp [e]
  clear hz
  rcases tests with ⟨hx0, hy0⟩ | hx0
  all_goals
    go_enter Sacg.func20, Sacg.ntmps20
    go_wp2
    go_loop [7, 8, 9, 10] (fun u v s i => ∃ t : Nat, t ≤ 24 ∧ i = .int .i64 t ∧ u = .int .u8 (laneU t) ∧ v = .int .u8 (laneV t) ∧ s = .int .i64 (tri t) ∧ Hid (∀ q, q < t → ¬ (laneU q = x ∧ laneV q = y))) (fun _ _ _ i => (24 - (intOf i)).toNat)
    case atStart => exact ⟨0, by omega, rfl, rfl, rfl, rfl, fun q hq => absurd hq (Nat.not_lt_zero q)⟩
    case round =>
      obtain ⟨t, hk, rfl, rfl, rfl, rfl, hun⟩ := hrel
      have lb := lane_bd t
      have tb := tri_bd t hk
      by_cases hlt : t < 24
      · by_cases hu : laneU t = x
        · by_cases hv : laneV t = y
          · have HR : Hid (rotZ x y = (tri t + ((t : Int) + 1)) % 64) := rot_is t x y hlt hu hv
            have hue : (laneU t == x) = true := by simp [hu]
            have hve : (laneV t == y) = true := by simp [hv]
            clear hu hv
            go_wp2
            go_ret
            exact ⟨ret_bool (by rw [HR.out]; simp), rfl⟩
          · have hue : (laneU t == x) = true := by simp [hu]
            have hve : (laneV t == y) = false := by simp [hv]
            clear hu
            go_wp2
            go_round
            case rel => exact ⟨t + 1, by omega, by go_num, rfl, by rw [laneV_succ], by rw [tri_succ], fun q hq => if e : q = t then e ▸ fun c => hv c.2 else hun.out q (by omega)⟩
            case measure => simp [intOf]; omega
        · have hue : (laneU t == x) = false := by simp [hu]
          go_wp2
          go_round
          case rel => exact ⟨t + 1, by omega, by go_num, rfl, by rw [laneV_succ], by rw [tri_succ], fun q hq => if e : q = t then e ▸ fun c => hu c.1 else hun.out q (by omega)⟩
          case measure => simp [intOf]; omega
      · obtain ⟨q, hq, hqu, hqv⟩ := HM.out
        exact absurd ⟨hqu, hqv⟩ (hun.out q (by omega))
end Go.Proofs.Ygcsac.kec
