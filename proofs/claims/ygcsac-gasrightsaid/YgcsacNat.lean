/- NATURALS AS LISTS OF DIGITS TO THE BASE 256, the least first: plain arithmetic; no Go in sight. -/
namespace Go.Proofs.Ygcsac

def val : List Int → Int
  | [] => 0
  | d :: l => d + 256 * val l
def Dgs (l : List Int) : Prop := ∀ z ∈ l, 0 ≤ z ∧ z ≤ 255
/-- No zero digit at the top. -/
def Nrm (l : List Int) : Prop := l = [] ∨ l.getD (l.length - 1) 0 ≠ 0
def pw (k : Nat) : Int := 256 ^ k
theorem pw_succ (k : Nat) : pw (k + 1) = pw k * 256 := by unfold pw; exact Int.pow_succ _ _
theorem pw_zero : pw 0 = 1 := rfl
theorem pw_pos (k : Nat) : 0 < pw k := by
  induction k with
  | zero => decide
  | succ k ih => rw [pw_succ]; omega
theorem pw_add (a b : Nat) : pw (a + b) = pw a * pw b := by unfold pw; exact Int.pow_add _ _ _

theorem Dgs.cons {d : Int} {l : List Int} (h : Dgs (d :: l)) : (0 ≤ d ∧ d ≤ 255) ∧ Dgs l :=
  ⟨h d (by simp), fun z hz => h z (by simp [hz])⟩
theorem Dgs.getD {l : List Int} (h : Dgs l) (j : Nat) : 0 ≤ l.getD j 0 ∧ l.getD j 0 ≤ 255 := by
  by_cases hj : j < l.length
  · rw [List.getD_eq_getElem?_getD, List.getElem?_eq_getElem hj]
    exact h _ (List.getElem_mem hj)
  · rw [List.getD_eq_getElem?_getD, List.getElem?_eq_none (by omega)]
    decide
theorem Dgs.take {l : List Int} (h : Dgs l) (k : Nat) : Dgs (l.take k) := fun z hz => h z (List.mem_of_mem_take hz)
theorem Dgs.set {l : List Int} (h : Dgs l) (k : Nat) (d : Int) (h0 : 0 ≤ d) (h1 : d ≤ 255) : Dgs (l.set k d) := by
  intro z hz
  rcases List.mem_or_eq_of_mem_set hz with h' | rfl
  · exact h z h'
  · exact ⟨h0, h1⟩
theorem Dgs.zeros (n : Nat) : Dgs (List.replicate n 0) := by
  intro z hz
  rw [(List.mem_replicate.1 hz).2]
  decide

theorem val_nonneg {l : List Int} (h : Dgs l) : 0 ≤ val l := by
  induction l with
  | nil => exact Int.le_refl _
  | cons d l ih =>
    obtain ⟨h1, h2⟩ := h.cons
    have := ih h2
    simp only [val]; omega
theorem val_lt {l : List Int} (h : Dgs l) : val l < pw l.length := by
  induction l with
  | nil => decide
  | cons d l ih =>
    obtain ⟨h1, h2⟩ := h.cons
    have := ih h2
    rw [List.length_cons, pw_succ]
    simp only [val]; omega
theorem val_zeros (n : Nat) : val (List.replicate n 0) = 0 := by
  induction n with
  | zero => rfl
  | succ n ih => rw [List.replicate_succ, val, ih]; rfl
theorem val_append (a b : List Int) : val (a ++ b) = val a + pw a.length * val b := by
  induction a with
  | nil => rw [List.nil_append, List.length_nil, pw_zero, val, Int.one_mul, Int.zero_add]
  | cons d a ih =>
    rw [List.cons_append, List.length_cons, pw_succ]
    simp only [val]
    rw [ih, Int.mul_add, Int.mul_comm (pw a.length) 256, Int.mul_assoc]
    omega
theorem val_take_succ (l : List Int) (k : Nat) : val (l.take (k + 1)) = val (l.take k) + pw k * l.getD k 0 := by
  by_cases hk : k < l.length
  · rw [List.take_succ_eq_append_getElem hk, val_append, List.length_take, Nat.min_eq_left (by omega), List.getD_eq_getElem?_getD, List.getElem?_eq_getElem hk]
    simp [val]
  · rw [List.take_of_length_le (by omega), List.take_of_length_le (by omega), List.getD_eq_getElem?_getD, List.getElem?_eq_none (by omega)]
    simp
theorem val_set (l : List Int) (k : Nat) (d : Int) (hk : k < l.length) : val (l.set k d) = val l + pw k * (d - l.getD k 0) := by
  induction l generalizing k with
  | nil => simp at hk
  | cons x l ih =>
    cases k with
    | zero =>
      simp only [List.set_cons_zero, val, pw_zero, List.getD_cons_zero]
      omega
    | succ k =>
      simp only [List.set_cons_succ, val, List.getD_cons_succ]
      rw [ih k (by simpa using hk), pw_succ, Int.mul_add, Int.mul_comm (pw k) 256, Int.mul_assoc]
      omega
theorem val_set0 (l : List Int) (k : Nat) (d : Int) (hk : k < l.length) (h0 : l.getD k 0 = 0) : val (l.set k d) = val l + pw k * d := by
  rw [val_set l k d hk, h0, Int.sub_zero]
theorem getD_set_ne (l : List Int) (k j : Nat) (d : Int) (h : j ≠ k) : (l.set k d).getD j 0 = l.getD j 0 := by
  rw [List.getD_eq_getElem?_getD, List.getD_eq_getElem?_getD, List.getElem?_set_ne (by omega)]
theorem getD_set_eq (l : List Int) (k : Nat) (d : Int) (h : k < l.length) : (l.set k d).getD k 0 = d := by
  rw [List.getD_eq_getElem?_getD, List.getElem?_set_self h]
  rfl
theorem getD_zeros (n j : Nat) : (List.replicate n (0 : Int)).getD j 0 = 0 := by
  rw [List.getD_eq_getElem?_getD, List.getElem?_replicate]
  split <;> rfl
theorem getD_take (l : List Int) (k j : Nat) (h : j < k) : (l.take k).getD j 0 = l.getD j 0 := by
  rw [List.getD_eq_getElem?_getD, List.getD_eq_getElem?_getD, List.getElem?_take_of_lt h]
theorem getD_over (l : List Int) (j : Nat) (h : l.length ≤ j) : l.getD j 0 = 0 := by
  rw [List.getD_eq_getElem?_getD, List.getElem?_eq_none h]
  rfl

/-! ### trim -/
theorem val_trim (l : List Int) (k : Nat) (h : ∀ j, k ≤ j → l.getD j 0 = 0) : val (l.take k) = val l := by
  have aux : ∀ n, val (l.take (k + n)) = val (l.take k) := by
    intro n
    induction n with
    | zero => rfl
    | succ n ih => rw [← Nat.add_assoc, val_take_succ, ih, h (k + n) (by omega)]; omega
  have := aux l.length
  rw [List.take_of_length_le (by omega)] at this
  exact this.symm
theorem nrm_take (l : List Int) (k : Nat) (hk : k ≤ l.length) (h : k = 0 ∨ l.getD (k - 1) 0 ≠ 0) : Nrm (l.take k) := by
  rcases h with rfl | h
  · exact .inl (by simp)
  · by_cases h0 : k = 0
    · subst h0; exact .inl (by simp)
    · right
      rw [List.length_take, Nat.min_eq_left hk, getD_take _ _ _ (by omega)]
      exact h
theorem Nrm.tail {d : Int} {l : List Int} (h : Nrm (d :: l)) (hl : l ≠ []) : Nrm l := by
  right
  rcases h with h | h
  · cases h
  · have : 0 < l.length := List.length_pos_iff.2 hl
    rw [List.length_cons, Nat.add_sub_cancel, show l.length = l.length - 1 + 1 from by omega, List.getD_cons_succ] at h
    exact h

/-! ### comparison -/
theorem val_lt_of_len {a b : List Int} (ha : Dgs a) (hb : Dgs b) (hn : Nrm b) (h : a.length < b.length) : val a < val b := by
  induction b generalizing a with
  | nil => simp at h
  | cons y b ih =>
    obtain ⟨hy, hb'⟩ := hb.cons
    by_cases e : b = []
    · subst e
      have : a = [] := List.eq_nil_of_length_eq_zero (by simpa using h)
      subst this
      rcases hn with hn | hn
      · cases hn
      · simp at hn
        simp only [val]; omega
    · have hn' := hn.tail e
      cases a with
      | nil =>
        have := ih (a := []) ha hb' hn' (by simpa using List.length_pos_iff.2 e)
        simp only [val] at *; omega
      | cons x a =>
        obtain ⟨hx, ha'⟩ := ha.cons
        have := ih ha' hb' hn' (by simpa using h)
        simp only [val]; omega
theorem val_lt_at {a b : List Int} (k : Nat) (ha : Dgs a) (hb : Dgs b) (hl : a.length = b.length) (hlt : a.getD k 0 < b.getD k 0) (he : ∀ j, k < j → a.getD j 0 = b.getD j 0) : val a < val b := by
  induction a generalizing b k with
  | nil =>
    have : b = [] := List.eq_nil_of_length_eq_zero (by simpa using hl.symm)
    subst this
    simp at hlt
  | cons x a ih =>
    cases b with
    | nil => simp at hl
    | cons y b =>
      obtain ⟨hx, ha'⟩ := ha.cons
      obtain ⟨hy, hb'⟩ := hb.cons
      have hl' : a.length = b.length := by simpa using hl
      cases k with
      | zero =>
        have : a = b := by
          apply List.ext_getElem hl'
          intro n h1 h2
          have := he (n + 1) (by omega)
          simpa [List.getD_eq_getElem?_getD, List.getElem?_eq_getElem h1, List.getElem?_eq_getElem h2] using this
        subst this
        simp at hlt
        simp only [val]; omega
      | succ k =>
        have := ih k ha' hb' hl' (by simpa using hlt) (fun j hj => by simpa using he (j + 1) (by omega))
        simp only [val]; omega
theorem eq_of_getD {a b : List Int} (hl : a.length = b.length) (he : ∀ j, a.getD j 0 = b.getD j 0) : a = b := by
  apply List.ext_getElem hl
  intro n h1 h2
  have := he n
  simpa [List.getD_eq_getElem?_getD, List.getElem?_eq_getElem h1, List.getElem?_eq_getElem h2] using this
/-- The answer of nat.Cmp. -/
def cmpZ (x y : Int) : Int := if x < y then -1 else if y < x then 1 else 0
theorem cmpZ_lt {x y : Int} (h : x < y) : cmpZ x y = -1 := by unfold cmpZ; rw [if_pos h]
theorem cmpZ_gt {x y : Int} (h : y < x) : cmpZ x y = 1 := by unfold cmpZ; rw [if_neg (by omega), if_pos h]
theorem cmpZ_eq {x y : Int} (h : x = y) : cmpZ x y = 0 := by unfold cmpZ; rw [if_neg (by omega), if_neg (by omega)]
/-- Normal lists of one value are of one length. -/
theorem nrm_len {a b : List Int} (ha : Dgs a) (hb : Dgs b) (na : Nrm a) (nb : Nrm b) (h : val a = val b) : a.length = b.length := by
  rcases Nat.lt_trichotomy a.length b.length with h' | h' | h'
  · have := val_lt_of_len ha hb nb h'; omega
  · exact h'
  · have := val_lt_of_len hb ha na h'; omega
theorem nrm_len_le {a b : List Int} (ha : Dgs a) (hb : Dgs b) (na : Nrm a) (h : val a ≤ val b) : a.length ≤ b.length := by
  by_cases h' : b.length < a.length
  · have := val_lt_of_len hb ha na h'; omega
  · omega

/-! ### one step of a carry -/
theorem carry_step (P s : Int) : P * (s % 256) + P * 256 * (s / 256) = P * s := by
  rw [Int.mul_assoc, ← Int.mul_add, Int.emod_add_mul_ediv]
end Go.Proofs.Ygcsac
