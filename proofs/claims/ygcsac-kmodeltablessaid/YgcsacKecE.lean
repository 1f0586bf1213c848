/- law.kmodelHolds: at the constants that keccak's tables hold it answers true. -/
import Derived.Test.YgcsacKecA
import Derived.Test.YgcsacKecB
import Derived.Test.YgcsacKecD
namespace Go.Proofs.Ygcsac.kec
open Go.RowKit

set_option maxHeartbeats 2000000 in
theorem kmodelHolds_any (i x y : Int) (w : World) (hi : 0 ≤ i) (hx : 0 ≤ x) (hy : 0 ≤ y) :
    Calls Sacg.prog 22 #[.int .u8 i, .int .u8 x, .int .u8 y, .int .u64 (rcZ i), .int .u8 (rotZ x y)] w fun e w' => e = .returned (.bool true) ∧ w' = w := by
  have t1 : (24 ≤ i ∧ (rcZ i != 0) = false) ∨ i < 24 := by
    by_cases h : 24 ≤ i
    · exact .inl ⟨h, by rw [rcZ_hi i h]; rfl⟩
    · exact .inr (by omega)
  have t2 : (5 ≤ x ∧ (rotZ x y != 0) = false) ∨ (x < 5 ∧ 5 ≤ y ∧ (rotZ x y != 0) = false) ∨ (x < 5 ∧ y < 5) := by
    by_cases h : 5 ≤ x
    · exact .inl ⟨h, by rw [rotZ_hi x y (.inl h)]; rfl⟩
    · by_cases h' : 5 ≤ y
      · exact .inr (.inl ⟨by omega, h', by rw [rotZ_hi x y (.inr h')]; rfl⟩)
      · exact .inr (.inr ⟨by omega, by omega⟩)
  rcases t1 with ⟨hi24, hc⟩ | hi24 <;> rcases t2 with ⟨hx5, hr⟩ | ⟨hx5, hy5, hr⟩ | ⟨hx5, hy5⟩
  all_goals
    go_enter Sacg.func22, Sacg.ntmps22
    go_wp2_with (first | (go_at_call 18; refine (rc_any _ _ hi).mono ?_; rintro e w' ⟨rfl, rfl⟩) | (go_at_call 21; refine (rot_any _ _ _ hx hy).mono ?_; rintro e w' ⟨rfl, rfl⟩))
    go_ret
    exact ⟨rfl, rfl⟩
end Go.Proofs.Ygcsac.kec
