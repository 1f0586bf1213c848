/- A NATURAL IN MEMORY: the value '.slice ao n n' leads to the digits zs. Laws on worlds, and 'make' as a law for the walk. -/
import Derived.Test.YgcsacRows
import Derived.Test.YgcsacRow
import Derived.Test.YgcsacNat
import Derived.Test.YgcsacLaw
import Derived.Laws.CopyOwn
namespace Go.Proofs.Ygcsac
open Go.RowKit

/-- The cells of a list of digits. -/
def bytesOf (zs : List Int) : List Value := zs.map (Value.int .u8)
theorem bytesOf_length (zs : List Int) : (bytesOf zs).length = zs.length := by simp [bytesOf]
theorem bytesOf_at (zs : List Int) (j : Nat) (h : j < zs.length) : (bytesOf zs)[j]? = some (.int .u8 (zs.getD j 0)) := by
  unfold bytesOf
  rw [List.getElem?_map, List.getD_eq_getElem?_getD, List.getElem?_eq_getElem h]
  rfl
theorem bytesOf_one (zs : List Int) : ∀ v ∈ bytesOf zs, v.oneCell' = true := ints_oneCell .u8 zs
theorem bytesOf_set (zs : List Int) (j : Nat) (d : Int) : (bytesOf zs).set j (.int .u8 d) = bytesOf (zs.set j d) := by simp [bytesOf, List.map_set]
/-- n zero digits (a name of its own, so that the walk leaves it standing). -/
def zer (n : Nat) : List Int := List.replicate n 0
theorem zer_length (n : Nat) : (zer n).length = n := by simp [zer]
theorem zer_at (n j : Nat) : (zer n).getD j 0 = 0 := getD_zeros n j
theorem zer_dgs (n : Nat) : Dgs (zer n) := Dgs.zeros n
theorem zer_val (n : Nat) : val (zer n) = 0 := val_zeros n
theorem bytesOf_zeros (n : Nat) : List.replicate n (Value.int .u8 0) = bytesOf (zer n) := by simp [bytesOf, zer]

structure NatAt (w : World) (ao : Option Addr) (n : Nat) (zs : List Int) : Prop where
  len : zs.length = n
  dig : Dgs zs
  nil : ao = none → n = 0
  here : ∀ ad, ao = some ad → ∃ b off, ad = ⟨b, off, none⟩ ∧ b < w.heap.size ∧ ∀ j, j < n → w.cell? ⟨b, off + j, none⟩ = some (.int .u8 (zs.getD j 0))
theorem NatAt.zero (w : World) : NatAt w none 0 [] := ⟨rfl, fun z hz => (by cases hz), fun _ => rfl, fun _ h => (by cases h)⟩
theorem NatAt.bare (w : World) (ao : Option Addr) (n : Nat) (zs : List Int) (h : NatAt w ao n zs) (h0 : n = 0) : zs = [] := List.eq_nil_of_length_eq_zero (h.len.trans h0)
/-- Where there is a digit the address is plain. -/
theorem NatAt.opened {w : World} {ao : Option Addr} {n : Nat} {zs : List Int} (h : NatAt w ao n zs) (hp : 0 < n) :
    ∃ b off, ao = some ⟨b, off, none⟩ ∧ b < w.heap.size ∧ ∀ j, j < n → w.cell? ⟨b, off + j, none⟩ = some (.int .u8 (zs.getD j 0)) := by
  cases ao with
  | none => have := h.nil rfl; omega
  | some ad =>
    obtain ⟨b, off, rfl, h1, h2⟩ := h.here ad rfl
    exact ⟨b, off, rfl, h1, h2⟩
theorem NatAt.of {w : World} {b off n : Nat} {zs : List Int} (hl : zs.length = n) (hd : Dgs zs) (hb : b < w.heap.size) (hc : ∀ j, j < n → w.cell? ⟨b, off + j, none⟩ = some (.int .u8 (zs.getD j 0))) :
    NatAt w (some ⟨b, off, none⟩) n zs := ⟨hl, hd, fun h => (by cases h), fun ad h => ⟨b, off, by simpa using h.symm, hb, hc⟩⟩
theorem NatAt.ofRow {w : World} {g T n : Nat} {zs : List Int} (hr : Row w g T (bytesOf zs)) (hd : Dgs zs) (hn : zs.length = n) : NatAt w (some ⟨g, 0, none⟩) n zs :=
  NatAt.of hn hd hr.lt (fun j hj => by rw [Nat.zero_add, hr.cell, bytesOf_at zs j (by omega)])
theorem NatAt.below {w w' : World} {B : Nat} {ao : Option Addr} {n : Nat} {zs : List Int} (h : NatAt w ao n zs) (hb : Below B w w') (hB : w.heap.size ≤ B) : NatAt w' ao n zs :=
  ⟨h.len, h.dig, h.nil, fun ad e => by
    obtain ⟨b, off, e', h1, h2⟩ := h.here ad e
    exact ⟨b, off, e', by have := hb.size; omega, fun j hj => (hb.cell (p := ⟨b, off + j, none⟩) (by show b < B; omega)).trans (h2 j hj)⟩⟩
theorem NatAt.drewN {w : World} {ao : Option Addr} {n : Nat} {zs : List Int} (h : NatAt w ao n zs) (k : Nat) : NatAt (w.drewN k) ao n zs := ⟨h.len, h.dig, h.nil, h.here⟩
/-- What a first part of the digits reads as. -/
theorem NatAt.front {w : World} {ao : Option Addr} {n : Nat} {zs : List Int} (h : NatAt w ao n zs) (k : Nat) (hk : k ≤ n) : NatAt w ao k (zs.take k) :=
  ⟨by rw [List.length_take, h.len]; omega, h.dig.take k, fun e => by have := h.nil e; omega, fun ad e => by
    obtain ⟨b, off, e', h1, h2⟩ := h.here ad e
    exact ⟨b, off, e', h1, fun j hj => by rw [getD_take _ _ _ hj]; exact h2 j (by omega)⟩⟩

/-- A CALL GIVES A NATURAL OF VALUE X, normal, of at most N digits; nothing old has turned. -/
def Gives (w : World) (X : Int) (N : Nat) (e : Ending) (w' : World) : Prop :=
  ∃ ao n zs, e = .returned (.slice ao n n) ∧ NatAt w' ao n zs ∧ val zs = X ∧ Nrm zs ∧ n ≤ N ∧ Below w.heap.size w w'

theorem Sacg.info5 : (Sacg.prog.info? 5).map (fun i => (i.zero, i.size, i.bytes)) = some (some (.int .u8 0), 1, 1) := by kernel_rfl

theorem madeCells_one (z : Value) (n : Nat) : madeCells #[z] n = (List.replicate n z).toArray := by
  apply Array.ext'
  rw [toList_madeCells_one]
/-- 'make(Nat, n)'. -/
theorem run_make_nat (w : World) (n : Nat) (hn : n ≤ 100000) : (Instr.makeSlice 25 (.int .i64 (n : Int)) (.int .i64 (n : Int))).run Sacg.prog w =
    .ok (.slice (some ⟨w.heap.size, 0, none⟩) n n) (w.alloc (.cells (bytesOf (zer n)).toArray 5)) := by
  obtain ⟨i, hi, hz0, hz1, hz2⟩ := info_parts Sacg.info5
  have := run_make (P := Sacg.prog) w 25 5 i (.int .u8 0) Sacg.underlying25 hi hz0 .i64 .i64 (n : Int) (n : Int) (by omega) (by omega) (by rw [hz2]; omega) (by omega)
  rw [this, hz1]
  simp only [Int.toNat_natCast, Nat.mul_one]
  rw [← bytesOf_zeros, ← madeCells_one]
  rfl

/-- 'copy(out, n)', out a row just made, as long as n: the row holds n's digits. -/
theorem run_copy_nat (w : World) (g k b off : Nat) (ty : TypeId) (xs zs : List Int) (hg : Row w g 5 (bytesOf xs)) (hx : xs.length = k) (hz : zs.length = k) (hc : ∀ j, j < k → w.cell? ⟨b, off + j, none⟩ = some (.int .u8 (zs.getD j 0))) :
    ∃ w2, (Builtin.copy_ #[25, 25] ty #[.slice (some ⟨g, 0, none⟩) k k, .slice (some ⟨b, off, none⟩) k k]).run Sacg.prog w = .ok (goInt (k : Int)) w2 ∧ Row w2 g 5 (bytesOf zs) ∧ Only g w w2 := by
  have hr := run_copy_row (P := Sacg.prog) w 25 25 ty 5 g 0 k k ⟨b, off, none⟩ k k (bytesOf xs).toArray 5 (bytesOf zs) Sacg.underlying25 (by kernel_rfl) hg (by rw [bytesOf_length, hz]; simp)
    (fun j v hv => by
      have hj : j < zs.length := by
        by_cases hj : j < zs.length
        · exact hj
        · rw [List.getElem?_eq_none (by rw [bytesOf_length]; omega)] at hv; cases hv
      rw [bytesOf_at zs j hj] at hv
      cases hv
      rw [show (⟨b, off, none⟩ : Addr).add j = ⟨b, off + j, none⟩ from by simp [Addr.add]]
      exact hc j (by omega)) (by simp [bytesOf_length]; omega) (bytesOf_one zs)
  rw [bytesOf_length, hz] at hr
  refine ⟨_, hr, ?_, ?_⟩
  · unfold Row
    rw [setRow_heap w g _ _ 5 _ hg]
    have : (bytesOf xs).drop (0 + k) = [] := List.drop_eq_nil_of_le (by rw [bytesOf_length]; omega)
    simp only [List.take_zero, List.nil_append, this, List.append_nil]
  · exact ⟨rfl, rfl, rfl, by simp, fun j hj => setRow_other w g j _ hj⟩

/-! ### nat.trim -/
theorem trim_fin {w : World} {ao : Option Addr} {n k : Nat} {zs : List Int} (h : NatAt w ao n zs) (hk : k ≤ n) (hz : ∀ j, k ≤ j → zs.getD j 0 = 0) (hc : k = 0 ∨ zs.getD (k - 1) 0 ≠ 0) :
    NatAt w ao k (zs.take k) ∧ val (zs.take k) = val zs ∧ Nrm (zs.take k) := ⟨h.front k hk, val_trim zs k hz, nrm_take zs k (by have := h.len; omega) hc⟩
set_option maxHeartbeats 400000 in
theorem trim_any (w : World) (ao : Option Addr) (n : Nat) (zs : List Int) (hn : n ≤ 100000) (h : NatAt w ao n zs) :
    Calls Sacg.prog 37 #[.slice ao n n] w fun e w' => ∃ k, e = .returned (.slice ao k k) ∧ w = w' ∧ k ≤ n ∧ NatAt w ao k (zs.take k) ∧ val (zs.take k) = val zs ∧ Nrm (zs.take k) := by
  go_enter Sacg.func37, Sacg.ntmps37
  go_wp2
  go_loop [3] (fun i => ∃ k : Nat, k ≤ n ∧ i = .int .i64 k ∧ Hid (∀ j, k ≤ j → zs.getD j 0 = 0)) (fun i => (intOf i).toNat)
  case atStart => exact ⟨n, Nat.le_refl _, rfl, fun j hj => getD_over zs j (by have := h.len; omega)⟩
  case round =>
    obtain ⟨k, hk, rfl, hz⟩ := hrel
    by_cases hlt : 0 < k
    · obtain ⟨b, off, rfl, hb, hc⟩ := h.opened (by omega)
      have hc1 := hc (k - 1) (by omega)
      clear hc
      obtain ⟨x, ex⟩ : ∃ x, x = zs.getD (k - 1) 0 := ⟨_, rfl⟩
      rw [← ex] at hc1
      by_cases hx : x = 0
      · have hx0 : (x == 0) = true := by simp [hx]
        have HZ : Hid (∀ j, k - 1 ≤ j → zs.getD j 0 = 0) := fun j hj => if e : j = k - 1 then by rw [e, ← ex, hx] else hz.out j (by omega)
        clear ex hx
        go_wp2
        go_round
        case rel => exact ⟨k - 1, by omega, by go_num, HZ⟩
        case measure => simp [intOf]; omega
      · have hx0 : (x == 0) = false := by simp [hx]
        have HF : Hid (zs.getD (k - 1) 0 ≠ 0) := by rw [← ex]; exact hx
        clear ex hx
        go_wp2
        go_ret
        exact ⟨k, rfl, rfl, hk, trim_fin h hk hz.out (.inr HF.out)⟩
    · obtain rfl : k = 0 := by omega
      go_wp2
      go_ret
      exact ⟨0, rfl, rfl, Nat.zero_le _, trim_fin h (Nat.zero_le _) hz.out (.inl rfl)⟩
end Go.Proofs.Ygcsac
