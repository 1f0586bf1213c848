/- The plain steps of nat.take, nat.Mul, nat.DivMod and nat.FromBE; no Go in sight. -/
import Derived.Test.YgcsacNat
namespace Go.Proofs.Ygcsac

/-! ### take -/
theorem take_step (os za zb : List Int) (p : Nat) (bw b' : Int) (hp : p < os.length) (hx : os.getD p 0 = za.getD p 0) (hV : val os = val za - val (zb.take p) + pw p * bw) :
    val (os.set p (za.getD p 0 - (bw + zb.getD p 0) + 256 * b')) = val za - val (zb.take (p + 1)) + pw (p + 1) * b' := by
  rw [val_set os p _ hp, hx, hV, val_take_succ, pw_succ]
  rw [show za.getD p 0 - (bw + zb.getD p 0) + 256 * b' - za.getD p 0 = 256 * b' - bw - zb.getD p 0 from by omega, Int.mul_sub, Int.mul_sub, Int.mul_assoc]
  omega
theorem take_end (os za zb : List Int) (n : Nat) (bw : Int) (hd : Dgs os) (hn : os.length = n) (hb : bw = 0 ∨ bw = 1) (hV : val os = val za - val zb + pw n * bw) (hle : val zb ≤ val za) : bw = 0 ∧ val os = val za - val zb := by
  subst hn
  have h1 := val_lt hd
  rcases hb with rfl | rfl
  · exact ⟨rfl, by omega⟩
  · omega

/-! ### Mul -/
theorem mul_step (os zb : List Int) (k m : Nat) (x c V : Int) (hk : k + m < os.length) (hV : val os + pw (k + m) * c = V + pw k * (x * val (zb.take m))) :
    val (os.set (k + m) ((c + (x * zb.getD m 0 + os.getD (k + m) 0)) % 256)) + pw (k + (m + 1)) * ((c + (x * zb.getD m 0 + os.getD (k + m) 0)) / 256) = V + pw k * (x * val (zb.take (m + 1))) := by
  rw [val_set os (k + m) _ hk, ← Nat.add_assoc, pw_succ, val_take_succ]
  have h1 := carry_step (pw (k + m)) (c + (x * zb.getD m 0 + os.getD (k + m) 0))
  rw [Int.mul_add (pw (k + m)) c, Int.mul_add (pw (k + m)) (x * zb.getD m 0)] at h1
  have h2 : pw k * (x * (val (zb.take m) + pw m * zb.getD m 0)) = pw k * (x * val (zb.take m)) + pw (k + m) * (x * zb.getD m 0) := by
    rw [Int.mul_add x, Int.mul_add (pw k), pw_add, Int.mul_left_comm x (pw m), ← Int.mul_assoc (pw k) (pw m)]
  rw [h2, Int.mul_sub]
  omega
theorem mul_carry (c x y d : Int) (hc0 : 0 ≤ c) (hc : c ≤ 255) (hx0 : 0 ≤ x) (hx : x ≤ 255) (hy0 : 0 ≤ y) (hy : y ≤ 255) (hd0 : 0 ≤ d) (hd : d ≤ 255) : 0 ≤ x * y ∧ x * y ≤ 65025 ∧ 0 ≤ (c + (x * y + d)) / 256 ∧ (c + (x * y + d)) / 256 ≤ 255 := by
  have h1 : 0 ≤ x * y := Int.mul_nonneg hx0 hy0
  have h2 : x * y ≤ 255 * 255 := Int.mul_le_mul hx hy hy0 (by omega)
  omega
theorem mul_row (os za zb : List Int) (k m : Nat) (c : Int) (hk : k + m < os.length) (hm : zb.length = m) (h0 : os.getD (k + m) 0 = 0) (hV : val os + pw (k + m) * c = val (za.take k) * val zb + pw k * (za.getD k 0 * val (zb.take m))) :
    val (os.set (k + m) c) = val (za.take (k + 1)) * val zb := by
  rw [val_set0 os (k + m) c hk h0, hV, List.take_of_length_le (l := zb) (by omega), val_take_succ, Int.add_mul, Int.mul_assoc]

/-! ### FromBE -/
/-- The value of bytes, the most significant first. -/
def beVal (l : List Int) : Int := val l.reverse
theorem be_drop (l : List Int) (k : Nat) (h : ∀ j, j < k → l.getD j 0 = 0) : val (l.drop k).reverse = beVal l := by
  unfold beVal
  have e : l.reverse = (l.drop k).reverse ++ (l.take k).reverse := by rw [← List.reverse_append, List.take_append_drop]
  have hz : val (l.take k).reverse = 0 := by
    have : (l.take k).reverse = List.replicate (l.take k).reverse.length 0 := by
      apply List.eq_replicate_of_mem
      intro z hz
      rw [List.mem_reverse] at hz
      obtain ⟨j, hj, rfl⟩ := List.getElem_of_mem hz
      rw [List.getElem_take]
      have hj' : j < k ∧ j < l.length := by rw [List.length_take] at hj; omega
      have := h j hj'.1
      rw [List.getD_eq_getElem?_getD, List.getElem?_eq_getElem hj'.2] at this
      exact this
    rw [this, val_zeros]
  rw [e, val_append, hz]
  omega
end Go.Proofs.Ygcsac
