/- keccak.RC AND law.registerConst: what each call returns. -/
import Derived.Test.YgcsacRows
import Derived.Test.YgcsacPlain
import Derived.Test.YgcsacLaw
import Derived.WalkKit
import Derived.ProofKit
namespace Go.Proofs.Ygcsac.kec
open Go.RowKit

/-! ### keccak.RC -/
theorem rc_cell (a : Int) (h0 : 0 ≤ a) (h : a < 24) : (#[.int .u64 1, .int .u64 32898, .int .u64 9223372036854808714, .int .u64 9223372039002292224, .int .u64 32907, .int .u64 2147483649, .int .u64 9223372039002292353, .int .u64 9223372036854808585, .int .u64 138, .int .u64 136, .int .u64 2147516425, .int .u64 2147483658, .int .u64 2147516555, .int .u64 9223372036854775947, .int .u64 9223372036854808713, .int .u64 9223372036854808579, .int .u64 9223372036854808578, .int .u64 9223372036854775936, .int .u64 32778, .int .u64 9223372039002259466, .int .u64 9223372039002292353, .int .u64 9223372036854808704, .int .u64 2147483649, .int .u64 9223372039002292232] : Array Value)[a.toNat]? = some (.int .u64 (rcZ a)) := by
  have e : (#[.int .u64 1, .int .u64 32898, .int .u64 9223372036854808714, .int .u64 9223372039002292224, .int .u64 32907, .int .u64 2147483649, .int .u64 9223372039002292353, .int .u64 9223372036854808585, .int .u64 138, .int .u64 136, .int .u64 2147516425, .int .u64 2147483658, .int .u64 2147516555, .int .u64 9223372036854775947, .int .u64 9223372036854808713, .int .u64 9223372036854808579, .int .u64 9223372036854808578, .int .u64 9223372036854775936, .int .u64 32778, .int .u64 9223372039002259466, .int .u64 9223372039002292353, .int .u64 9223372036854808704, .int .u64 2147483649, .int .u64 9223372039002292232] : Array Value) = (rcL.map (Value.int .u64)).toArray := rfl
  have hl : rcL.length = 24 := rfl
  rw [e, List.getElem?_toArray, List.getElem?_map, rcZ, List.getD_eq_getElem?_getD, List.getElem?_eq_getElem (by omega)]
  rfl

set_option maxHeartbeats 400000 in
theorem rc_any (a : Int) (w : World) (h0 : 0 ≤ a) : Calls Sacg.prog 18 #[.int .u8 a] w fun e w' => e = .returned (.int .u64 (rcZ a)) ∧ w' = w := by
  by_cases h : 24 ≤ a
  · rw [rcZ_hi a h]
    go_enter Sacg.func18, Sacg.ntmps18
    go_wp2
    go_ret
    exact ⟨rfl, rfl⟩
  · have hlt : a < 24 := by omega
    have hi := fun w => run_index_int (P := Sacg.prog) w 58 22 24 .u64 .u8 _ a Sacg.underlying58 Sacg.underlying22 (by kernel_rfl) h0 hlt _ (rc_cell a h0 hlt)
    go_enter Sacg.func18, Sacg.ntmps18
    go_wp2
    go_ret
    exact ⟨rfl, rfl⟩

/-! ### law.registerConst -/
set_option maxHeartbeats 400000 in
theorem reg_any (a : Int) (w : World) (h0 : 0 ≤ a) : Calls Sacg.prog 19 #[.int .u8 a] w fun e w' => e = .returned (.int .u64 (rcZ a)) ∧ w' = w := by
  by_cases h : 24 ≤ a
  · rw [rcZ_hi a h]
    go_enter Sacg.func19, Sacg.ntmps19
    go_wp2
    go_ret
    exact ⟨rfl, rfl⟩
  have h : a < 24 := by omega
  go_enter Sacg.func19, Sacg.ntmps19
  go_wp2
  go_loop [3, 4, 5] (fun r c i => ∃ t : Nat, (t : Int) ≤ 7 * (a + 1) ∧ i = .int .i64 t ∧ r = .int .u16 (regZ t) ∧ c = .int .u64 (conZ a t)) (fun _ _ i => (7 * (a + 1) - (intOf i)).toNat)
  case atStart => exact ⟨0, by omega, rfl, rfl, rfl⟩
  case round =>
    obtain ⟨t, hk, rfl, rfl, rfl⟩ := hrel
    by_cases hlt : (t : Int) < 7 * (a + 1)
    · go_wp2
      all_goals
        go_round
        case rel => exact ⟨t + 1, by omega, by go_num, by first | rw [reg_hi t ‹_›] | rw [reg_lo t ‹_›], by first | rw [con_yes a t ‹_› ‹_›]; rfl | rw [con_no a t ‹_›] | rw [con_lo a t ‹_›]⟩
        case measure => simp [intOf]; omega
    · have HC : Hid (conZ a t = rcZ a) := con_is a t h0 h (by omega)
      go_wp2
      go_ret
      exact ⟨ret_int HC.out, rfl⟩
end Go.Proofs.Ygcsac.kec
