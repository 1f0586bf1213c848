/- THE PLAIN TABLES: keccak.Rot, and the walk from lane 1, 0; no Go in sight. -/
import Derived.WalkKit
namespace Go.Proofs.Ygcsac.kec

def rotL : List Int := [0, 1, 62, 28, 27, 36, 44, 6, 55, 20, 3, 10, 43, 25, 39, 41, 45, 15, 21, 8, 18, 2, 61, 56, 14]
/-- The rotation offset at x, y; 0 out of range. -/
def rotZ (x y : Int) : Int := if 5 ≤ x ∨ 5 ≤ y then 0 else rotL.getD (5 * y + x).toNat 0
theorem rotZ_hi (x y : Int) (h : 5 ≤ x ∨ 5 ≤ y) : rotZ x y = 0 := by unfold rotZ; rw [if_pos h]

/-- The walk: lane t. -/
def lane : Nat → Int × Int
  | 0 => (1, 0)
  | t + 1 => ((lane t).2, (2 * (lane t).1 + 3 * (lane t).2) % 5)
def laneU (t : Nat) : Int := (lane t).1
def laneV (t : Nat) : Int := (lane t).2
theorem lane_bd (t : Nat) : 0 ≤ laneU t ∧ laneU t ≤ 4 ∧ 0 ≤ laneV t ∧ laneV t ≤ 4 := by
  induction t with
  | zero => decide
  | succ t ih =>
    unfold laneU laneV at *
    simp only [lane]
    omega
theorem laneU_succ (t : Nat) : laneU (t + 1) = laneV t := rfl
theorem laneV_succ (t : Nat) : laneV (t + 1) = (2 * laneU t + 3 * laneV t) % 5 := rfl
/-- The sum 1 + 2 + .. + t. -/
def tri : Nat → Int
  | 0 => 0
  | t + 1 => tri t + ((t : Int) + 1)
theorem tri_bd (t : Nat) (h : t ≤ 24) : 0 ≤ tri t ∧ tri t ≤ 24 * t := by
  induction t with
  | zero => decide
  | succ t ih => have := ih (by omega); simp only [tri]; omega
theorem tri_succ (t : Nat) : tri (t + 1) = tri t + ((t : Int) + 1) := rfl
theorem tri_two (t : Nat) : 2 * tri t = (t : Int) * ((t : Int) + 1) := by
  induction t with
  | zero => rfl
  | succ t ih =>
    rw [tri_succ, Int.mul_add, ih, Int.natCast_add]
    simp only [Int.natCast_one, Int.mul_add, Int.add_mul]
    omega

theorem rot_all : ∀ t : Fin 24, rotZ (laneU t.val) (laneV t.val) = tri (t.val + 1) % 64 := by decide +kernel
theorem rot_is (t : Nat) (x y : Int) (h : t < 24) (hx : laneU t = x) (hy : laneV t = y) : rotZ x y = tri (t + 1) % 64 := by
  rw [← hx, ← hy]; exact rot_all ⟨t, h⟩
theorem met_all : ∀ x y : Fin 5, (x.val = 0 ∧ y.val = 0) ∨ ∃ t : Fin 24, laneU t.val = ((x.val : Nat) : Int) ∧ laneV t.val = ((y.val : Nat) : Int) := by decide +kernel
theorem met_is (x y : Int) (hx0 : 0 ≤ x) (hx : x < 5) (hy0 : 0 ≤ y) (hy : y < 5) (hz : ¬ (x = 0 ∧ y = 0)) : ∃ t, t < 24 ∧ laneU t = x ∧ laneV t = y := by
  rcases met_all ⟨x.toNat, by omega⟩ ⟨y.toNat, by omega⟩ with h | ⟨t, h1, h2⟩
  · simp only at h; omega
  · exact ⟨t.val, t.isLt, by rw [h1]; simp only; omega, by rw [h2]; simp only; omega⟩
theorem rot_zero : rotZ 0 0 = 0 := by decide
theorem rotZ_bd (x y : Int) : 0 ≤ rotZ x y ∧ rotZ x y ≤ 63 := by
  unfold rotZ
  split
  · omega
  · by_cases h : (5 * y + x).toNat < rotL.length
    · have hall : ∀ z ∈ rotL, 0 ≤ z ∧ z ≤ 63 := by decide
      rw [List.getD_eq_getElem?_getD, List.getElem?_eq_getElem h]
      exact hall _ (List.getElem_mem h)
    · rw [List.getD_eq_getElem?_getD, List.getElem?_eq_none (by omega)]
      decide
end Go.Proofs.Ygcsac.kec
