/- The plain steps of nat.DivMod: division bit by bit; no Go in sight. -/
import Derived.Test.YgcsacNat
namespace Go.Proofs.Ygcsac

def p2 (k : Nat) : Int := 2 ^ k
theorem p2_succ (k : Nat) : p2 (k + 1) = p2 k * 2 := by unfold p2; exact Int.pow_succ _ _
theorem p2_add (a b : Nat) : p2 (a + b) = p2 a * p2 b := by unfold p2; exact Int.pow_add _ _ _
theorem p2_pos (k : Nat) : 0 < p2 k := by
  induction k with
  | zero => decide
  | succ k ih => rw [p2_succ]; omega
theorem pw_p2 (a : Nat) : pw a = p2 (8 * a) := by
  induction a with
  | zero => rfl
  | succ a ih =>
    rw [pw_succ, ih, show 8 * (a + 1) = 8 * a + 8 from by omega, p2_add]
    rfl
theorem digit_div (l : List Int) (h : Dgs l) (a : Nat) : val l / pw a = l.getD a 0 + 256 * val (l.drop (a + 1)) := by
  induction l generalizing a with
  | nil => simp [val]
  | cons x l ih =>
    obtain ⟨hx, hl⟩ := h.cons
    cases a with
    | zero => simp [val, pw_zero]
    | succ a =>
      have e : (x + 256 * val l) / 256 = val l := by omega
      rw [pw_succ, Int.mul_comm, ← Int.ediv_ediv_of_nonneg (by omega), val, e, ih hl a]
      rfl
theorem eight (b : Nat) (h : b < 8) (P : Nat → Prop) (h0 : P 0) (h1 : P 1) (h2 : P 2) (h3 : P 3) (h4 : P 4) (h5 : P 5) (h6 : P 6) (h7 : P 7) : P b := by
  match b, h with
  | 0, _ => exact h0
  | 1, _ => exact h1
  | 2, _ => exact h2
  | 3, _ => exact h3
  | 4, _ => exact h4
  | 5, _ => exact h5
  | 6, _ => exact h6
  | 7, _ => exact h7
  | b + 8, h => omega
/-- Bit 8a + b of a number is bit b of its digit a. -/
theorem bit_digit (l : List Int) (h : Dgs l) (a b : Nat) (hb : b < 8) : val l / p2 (8 * a + b) % 2 = l.getD a 0 / p2 b % 2 := by
  rw [p2_add, ← pw_p2, ← Int.ediv_ediv_of_nonneg (Int.le_of_lt (pw_pos a)), digit_div l h a]
  generalize l.getD a 0 = d
  generalize val (l.drop (a + 1)) = r
  refine eight b hb (fun b => (d + 256 * r) / p2 b % 2 = d / p2 b % 2) ?_ ?_ ?_ ?_ ?_ ?_ ?_ ?_
  · rw [show p2 0 = 1 from rfl]; omega
  · rw [show p2 1 = 2 from rfl]; omega
  · rw [show p2 2 = 4 from rfl]; omega
  · rw [show p2 3 = 8 from rfl]; omega
  · rw [show p2 4 = 16 from rfl]; omega
  · rw [show p2 5 = 32 from rfl]; omega
  · rw [show p2 6 = 64 from rfl]; omega
  · rw [show p2 7 = 128 from rfl]; omega
/-- Where the low bits of a number are 0 so are its digit's. -/
theorem low_digit (l : List Int) (h : Dgs l) (a b : Nat) (hb : b < 8) (q : Int) (hq : val l = q * p2 (8 * a + b + 1)) : l.getD a 0 % p2 (b + 1) = 0 := by
  have h1 := digit_div l h a
  rw [hq, show 8 * a + b + 1 = 8 * a + (b + 1) from by omega, p2_add, ← pw_p2, Int.mul_left_comm, Int.mul_ediv_cancel_left _ (by have := pw_pos a; omega)] at h1
  have h0 := (h.getD a)
  generalize l.getD a 0 = d at *
  generalize val (l.drop (a + 1)) = r at *
  revert h1
  refine eight b hb (fun b => q * p2 (b + 1) = d + 256 * r → d % p2 (b + 1) = 0) ?_ ?_ ?_ ?_ ?_ ?_ ?_ ?_
  · rw [show p2 (0 + 1) = 2 from rfl]; omega
  · rw [show p2 (1 + 1) = 4 from rfl]; omega
  · rw [show p2 (2 + 1) = 8 from rfl]; omega
  · rw [show p2 (3 + 1) = 16 from rfl]; omega
  · rw [show p2 (4 + 1) = 32 from rfl]; omega
  · rw [show p2 (5 + 1) = 64 from rfl]; omega
  · rw [show p2 (6 + 1) = 128 from rfl]; omega
  · rw [show p2 (7 + 1) = 256 from rfl]; omega

/-! ### one bit of the division -/
theorem half_div (A : Int) (j : Nat) : A / p2 (j + 1) = A / p2 j / 2 := by
  rw [p2_succ, Int.ediv_ediv_of_nonneg (Int.le_of_lt (p2_pos j))]
theorem div_less (x B : Int) (hB : 0 < B) (h : 2 * (x / 2 % B) + x % 2 < B) : x / B = 2 * (x / 2 / B) ∧ x % B = 2 * (x / 2 % B) + x % 2 := by
  refine (Int.ediv_emod_unique hB).2 ⟨?_, ?_, h⟩
  · have h1 := Int.emod_add_mul_ediv (x / 2) B
    have h2 : B * (2 * (x / 2 / B)) = 2 * (B * (x / 2 / B)) := Int.mul_left_comm _ _ _
    rw [h2]; omega
  · have := Int.emod_nonneg (x / 2) (show B ≠ 0 by omega)
    omega
theorem div_more (x B : Int) (hB : 0 < B) (h : B ≤ 2 * (x / 2 % B) + x % 2) : x / B = 2 * (x / 2 / B) + 1 ∧ x % B = 2 * (x / 2 % B) + x % 2 - B := by
  have h3 := Int.emod_lt_of_pos (x / 2) hB
  refine (Int.ediv_emod_unique hB).2 ⟨?_, by omega, by omega⟩
  have h1 := Int.emod_add_mul_ediv (x / 2) B
  have h2 : B * (2 * (x / 2 / B) + 1) = 2 * (B * (x / 2 / B)) + B := by rw [Int.mul_add, Int.mul_left_comm, Int.mul_one]
  rw [h2]; omega
/-- The double and a bit are below twice the divisor. -/
theorem twice_bd (x B : Int) (hB : 0 < B) : 0 ≤ 2 * (x % B) ∧ 2 * (x % B) + 1 < 2 * B := by
  have h3 := Int.emod_lt_of_pos x hB
  have := Int.emod_nonneg x (show B ≠ 0 by omega)
  omega
/-! ### one digit of the doubling -/
theorem dbl_step (os rs : List Int) (p : Nat) (c V : Int) (hp : p < os.length) (hx : os.getD p 0 = rs.getD p 0) (hV : val os + pw p * c = V + val (rs.take p)) :
    val (os.set p (rs.getD p 0 * 2 % 256 + c)) + pw (p + 1) * (rs.getD p 0 / 128) = V + val (rs.take (p + 1)) := by
  rw [val_set os p _ hp, hx, val_take_succ, pw_succ]
  generalize rs.getD p 0 = d at *
  have h1 := carry_step (pw p) (d * 2)
  have h2 : d * 2 / 256 = d / 128 := by omega
  rw [h2] at h1
  rw [show d * 2 % 256 + c - d = d * 2 % 256 + (c - d) from by omega, Int.mul_add, Int.mul_sub]
  have h3 : pw p * (d * 2) = pw p * d + pw p * d := by rw [← Int.mul_add]; congr 1; omega
  omega
theorem dbl_end (os rs ys : List Int) (l : Nat) (c c0 B : Int) (hd : Dgs os) (hy : Dgs ys) (hyl : ys.length = l) (hB : val ys = B) (hrl : rs.length = l + 1) (hR : val rs < B) (hc0 : c0 ≤ 1) (hc : 0 ≤ c) (hc1 : c ≤ 1)
    (hV : val os + pw (l + 1) * c = val rs + c0 + val (rs.take (l + 1))) : val os = 2 * val rs + c0 := by
  rw [List.take_of_length_le (by omega), pw_succ] at hV
  have h1 := val_nonneg hd
  have h2 := val_lt hy
  have h3 := pw_pos l
  rw [hyl, hB] at h2
  rcases (show c = 0 ∨ c = 1 by omega) with rfl | rfl <;> omega
/-! ### one bit of the quotient -/
theorem quo_less (qs : List Int) (j : Nat) (A B : Int) (hB : 0 < B) (hV : val qs = A / p2 (j + 1) / B * p2 (j + 1)) (ht : 2 * (A / p2 (j + 1) % B) + A / p2 j % 2 < B) :
    val qs = A / p2 j / B * p2 j ∧ 2 * (A / p2 (j + 1) % B) + A / p2 j % 2 = A / p2 j % B := by
  rw [half_div] at hV ht
  rw [half_div]
  obtain ⟨h1, h2⟩ := div_less (A / p2 j) B hB ht
  refine ⟨?_, h2.symm⟩
  rw [hV, h1, p2_succ, Int.mul_comm 2, Int.mul_assoc, Int.mul_comm 2]
theorem quo_more (qs : List Int) (j : Nat) (A B : Int) (hB : 0 < B) (hj : j / 8 < qs.length) (hV : val qs = A / p2 (j + 1) / B * p2 (j + 1)) (ht : B ≤ 2 * (A / p2 (j + 1) % B) + A / p2 j % 2) :
    val (qs.set (j / 8) (qs.getD (j / 8) 0 + p2 (j % 8))) = A / p2 j / B * p2 j ∧ 2 * (A / p2 (j + 1) % B) + A / p2 j % 2 - B = A / p2 j % B := by
  rw [half_div] at hV ht
  rw [half_div]
  obtain ⟨h1, h2⟩ := div_more (A / p2 j) B hB ht
  refine ⟨?_, h2.symm⟩
  rw [val_set qs _ _ hj, hV, h1, p2_succ]
  have h3 : pw (j / 8) * (qs.getD (j / 8) 0 + p2 (j % 8) - qs.getD (j / 8) 0) = p2 j := by
    rw [show qs.getD (j / 8) 0 + p2 (j % 8) - qs.getD (j / 8) 0 = p2 (j % 8) from by omega, pw_p2, ← p2_add, show 8 * (j / 8) + j % 8 = j from by omega]
  rw [h3, Int.add_mul, Int.one_mul, Int.mul_comm 2, Int.mul_assoc, Int.mul_comm 2]
end Go.Proofs.Ygcsac
