/- SMALL LAWS FOR THE WALK: over whatever program. -/
import Derived.WalkKit
namespace Go.Proofs.Ygcsac

/-- 'a[i]' of an array by value whose elements are integers, i in range. -/
theorem run_index_int {P : Program} (w : World) (t e : TypeId) (n : Nat) (ek k : IntKind) (cs : Array Value) (i : Int) (hu : P.underlying t = some (.array n e)) (he : P.underlying e = some (.int ek))
    (hs : (P.info? e).map (·.size) = some 1) (h0 : 0 ≤ i) (h1 : i < (n : Int)) (v : Value) (hv : cs[i.toNat]? = some v) : (Instr.index t (.agg cs) (.int k i)).run P w = .ok v w := by
  obtain ⟨f, hf, hf1⟩ : ∃ f, P.info? e = some f ∧ f.size = 1 := by
    cases h : P.info? e with
    | none => rw [h] at hs; simp at hs
    | some f => rw [h] at hs; exact ⟨f, rfl, by simpa using hs⟩
  have hz : (sizeOf e).run P w = .ok 1 w := by simp [sizeOf, typeInfo, hf, hf1]
  simp [Instr.index, run_underlying hu, asIntOf, h0, h1, part, isAgg, run_underlying he, hz, hv]
theorem ret_int {k : IntKind} {a b : Int} (h : a = b) : Ending.returned (.int k a) = .returned (.int k b) := by rw [h]
theorem ret_bool {a b : Bool} (h : a = b) : Ending.returned (.bool a) = .returned (.bool b) := by rw [h]
end Go.Proofs.Ygcsac
