/- THE PLAIN TABLES: what keccak.RC, registerConst and their kin compute, as functions on numbers; no Go in sight. -/
import Derived.WalkKit
namespace Go.Proofs.Ygcsac.kec

def rcL : List Int := [1, 32898, 9223372036854808714, 9223372039002292224, 32907, 2147483649, 9223372039002292353, 9223372036854808585, 138, 136, 2147516425, 2147483658, 2147516555, 9223372036854775947, 9223372036854808713, 9223372036854808579, 9223372036854808578, 9223372036854775936, 32778, 9223372039002259466, 9223372039002292353, 9223372036854808704, 2147483649, 9223372039002292232]
/-- The round constant at a; 0 from 24 on. -/
def rcZ (a : Int) : Int := rcL.getD a.toNat 0
theorem rcZ_hi (a : Int) (h : 24 ≤ a) : rcZ a = 0 := by
  unfold rcZ
  rw [List.getD_eq_getElem?_getD, List.getElem?_eq_none (by simp [rcL]; omega)]
  rfl

/-- One turn of the register of law.registerConst. -/
def turnZ (r : Int) : Int := if 256 ≤ IntKind.u16.wrap (r * 2) then bits .xor .u16 (IntKind.u16.wrap (r * 2)) 369 else IntKind.u16.wrap (r * 2)
def regZ : Nat → Int
  | 0 => 1
  | t + 1 => turnZ (regZ t)
def addZ (C : Int) (j : Nat) : Int := bits .or .u64 C (IntKind.u64.wrap (2 ^ min (IntKind.u64.wrap (IntKind.u64.wrap (2 ^ j) - 1)).toNat 64))
/-- The constant gathered when t turns are done, for round a. -/
def conZ (a : Int) : Nat → Int
  | 0 => 0
  | t + 1 => if 7 * a ≤ (t : Int) ∧ (bits .and .u16 (regZ t) 1 == 1) = true then addZ (conZ a t) ((t : Int) - 7 * a).toNat else conZ a t
theorem con_lo (a : Int) (t : Nat) (h : ¬ 7 * a ≤ (t : Int)) : conZ a (t + 1) = conZ a t := by
  simp only [conZ]; rw [if_neg]; exact fun x => h x.1
theorem con_no (a : Int) (t : Nat) (h : (bits .and .u16 (regZ t) 1 == 1) = false) : conZ a (t + 1) = conZ a t := by
  simp only [conZ]; rw [if_neg]; intro x; rw [h] at x; exact absurd x.2 (by decide)
theorem con_yes (a : Int) (t : Nat) (h : 7 * a ≤ (t : Int)) (h' : (bits .and .u16 (regZ t) 1 == 1) = true) : conZ a (t + 1) = addZ (conZ a t) ((t : Int) - 7 * a).toNat := by
  simp only [conZ]; rw [if_pos ⟨h, h'⟩]
theorem reg_hi (t : Nat) (h : 256 ≤ IntKind.u16.wrap (regZ t * 2)) : regZ (t + 1) = bits .xor .u16 (IntKind.u16.wrap (regZ t * 2)) 369 := by
  simp only [regZ, turnZ]; rw [if_pos h]
theorem reg_lo (t : Nat) (h : IntKind.u16.wrap (regZ t * 2) < 256) : regZ (t + 1) = IntKind.u16.wrap (regZ t * 2) := by
  simp only [regZ, turnZ]; rw [if_neg (by omega)]

set_option maxRecDepth 100000 in
theorem con_all : ∀ n : Fin 24, conZ ((n.val : Nat) : Int) (7 * (n.val + 1)) = rcZ ((n.val : Nat) : Int) := by decide +kernel
theorem con_is (a : Int) (t : Nat) (h0 : 0 ≤ a) (h : a < 24) (ht : (t : Int) = 7 * (a + 1)) : conZ a t = rcZ a := by
  have := con_all ⟨a.toNat, by omega⟩
  simp only at this
  rw [show ((a.toNat : Nat) : Int) = a from by omega, show 7 * (a.toNat + 1) = t from by omega] at this
  exact this
end Go.Proofs.Ygcsac.kec
