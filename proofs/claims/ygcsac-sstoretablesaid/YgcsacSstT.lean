/- The table of law.sstoreHolds, and yp.Sstore's plain rule; no walk. -/
import Derived.Test.YgcsacNatE
namespace Go.Proofs.Ygcsac
open Go.RowKit

def tabL : List Int := [100, 0, 0, 20000, 0, 0, 20000, 0, 0, 100, 19900, 0, 100, 0, 0, 100, 0, 0, 100, 19900, 0, 100, 0, 0, 100, 0, 0, 100, 0, 0, 100, 2800, 4800, 100, 0, 4800, 2900, 4800, 0, 100, 0, 0, 2900, 0, 0, 100, 4800, 0, 100, 2800, 0, 100, 0, 0, 100, 0, 0, 100, 0, 4800, 100, 2800, 4800, 100, 4800, 0, 100, 0, 0, 100, 2800, 0, 2900, 4800, 0, 2900, 0, 0, 100, 0, 0]
def tabZ (i j : Nat) : Int := tabL.getD (3 * i + j) 0
theorem tab_at (i : Nat) (h : i < 27) : (#[.int .u64 100, .int .u64 0, .int .u64 0, .int .u64 20000, .int .u64 0, .int .u64 0, .int .u64 20000, .int .u64 0, .int .u64 0, .int .u64 100, .int .u64 19900, .int .u64 0, .int .u64 100, .int .u64 0, .int .u64 0, .int .u64 100, .int .u64 0, .int .u64 0, .int .u64 100, .int .u64 19900, .int .u64 0, .int .u64 100, .int .u64 0, .int .u64 0, .int .u64 100, .int .u64 0, .int .u64 0, .int .u64 100, .int .u64 0, .int .u64 0, .int .u64 100, .int .u64 2800, .int .u64 4800, .int .u64 100, .int .u64 0, .int .u64 4800, .int .u64 2900, .int .u64 4800, .int .u64 0, .int .u64 100, .int .u64 0, .int .u64 0, .int .u64 2900, .int .u64 0, .int .u64 0, .int .u64 100, .int .u64 4800, .int .u64 0, .int .u64 100, .int .u64 2800, .int .u64 0, .int .u64 100, .int .u64 0, .int .u64 0, .int .u64 100, .int .u64 0, .int .u64 0, .int .u64 100, .int .u64 0, .int .u64 4800, .int .u64 100, .int .u64 2800, .int .u64 4800, .int .u64 100, .int .u64 4800, .int .u64 0, .int .u64 100, .int .u64 0, .int .u64 0, .int .u64 100, .int .u64 2800, .int .u64 0, .int .u64 2900, .int .u64 4800, .int .u64 0, .int .u64 2900, .int .u64 0, .int .u64 0, .int .u64 100, .int .u64 0, .int .u64 0] : Array Value).extract (i * 3) (i * 3 + 3) = #[.int .u64 (tabZ i 0), .int .u64 (tabZ i 1), .int .u64 (tabZ i 2)] := by
  match i, h with
  | 0, _ => rfl
  | 1, _ => rfl
  | 2, _ => rfl
  | 3, _ => rfl
  | 4, _ => rfl
  | 5, _ => rfl
  | 6, _ => rfl
  | 7, _ => rfl
  | 8, _ => rfl
  | 9, _ => rfl
  | 10, _ => rfl
  | 11, _ => rfl
  | 12, _ => rfl
  | 13, _ => rfl
  | 14, _ => rfl
  | 15, _ => rfl
  | 16, _ => rfl
  | 17, _ => rfl
  | 18, _ => rfl
  | 19, _ => rfl
  | 20, _ => rfl
  | 21, _ => rfl
  | 22, _ => rfl
  | 23, _ => rfl
  | 24, _ => rfl
  | 25, _ => rfl
  | 26, _ => rfl
  | i + 27, h => omega
theorem tabZ_bd (i j : Nat) : 0 ≤ tabZ i j ∧ tabZ i j ≤ 20000 := by
  unfold tabZ
  have hall : ∀ z ∈ tabL, 0 ≤ z ∧ z ≤ 20000 := by decide
  by_cases h : 3 * i + j < tabL.length
  · rw [List.getD_eq_getElem?_getD, List.getElem?_eq_getElem h]
    exact hall _ (List.getElem_mem h)
  · rw [List.getD_eq_getElem?_getD, List.getElem?_eq_none (by omega)]
    decide

/-- 'a[i]' of an array by value whose elements are arrays, i in range. -/
theorem run_index_arr {P : Program} (w : World) (t e e' : TypeId) (n m : Nat) (k : IntKind) (cs : Array Value) (i : Int) (hu : P.underlying t = some (.array n e)) (he : P.underlying e = some (.array m e'))
    (s : Nat) (hs : (P.info? e).map (·.size) = some s) (h0 : 0 ≤ i) (h1 : i < (n : Int)) : (Instr.index t (.agg cs) (.int k i)).run P w = .ok (.agg (cs.extract (i.toNat * s) (i.toNat * s + s))) w := by
  obtain ⟨f, hf, hf1⟩ : ∃ f, P.info? e = some f ∧ f.size = s := by
    cases h : P.info? e with
    | none => rw [h] at hs; simp at hs
    | some f => rw [h] at hs; exact ⟨f, rfl, by simpa using hs⟩
  have hz : (sizeOf e).run P w = .ok s w := by simp [sizeOf, typeInfo, hf, hf1]
  simp [Instr.index, run_underlying hu, asIntOf, h0, h1, part, isAgg, run_underlying he, hz]
/-- The table's cells. -/
def tabA : Array Value := #[.int .u64 100, .int .u64 0, .int .u64 0, .int .u64 20000, .int .u64 0, .int .u64 0, .int .u64 20000, .int .u64 0, .int .u64 0, .int .u64 100, .int .u64 19900, .int .u64 0, .int .u64 100, .int .u64 0, .int .u64 0, .int .u64 100, .int .u64 0, .int .u64 0, .int .u64 100, .int .u64 19900, .int .u64 0, .int .u64 100, .int .u64 0, .int .u64 0, .int .u64 100, .int .u64 0, .int .u64 0, .int .u64 100, .int .u64 0, .int .u64 0, .int .u64 100, .int .u64 2800, .int .u64 4800, .int .u64 100, .int .u64 0, .int .u64 4800, .int .u64 2900, .int .u64 4800, .int .u64 0, .int .u64 100, .int .u64 0, .int .u64 0, .int .u64 2900, .int .u64 0, .int .u64 0, .int .u64 100, .int .u64 4800, .int .u64 0, .int .u64 100, .int .u64 2800, .int .u64 0, .int .u64 100, .int .u64 0, .int .u64 0, .int .u64 100, .int .u64 0, .int .u64 0, .int .u64 100, .int .u64 0, .int .u64 4800, .int .u64 100, .int .u64 2800, .int .u64 4800, .int .u64 100, .int .u64 4800, .int .u64 0, .int .u64 100, .int .u64 0, .int .u64 0, .int .u64 100, .int .u64 2800, .int .u64 0, .int .u64 2900, .int .u64 4800, .int .u64 0, .int .u64 2900, .int .u64 0, .int .u64 0, .int .u64 100, .int .u64 0, .int .u64 0]
/-- A literal of an array or a struct, its cells given outright. -/
theorem wpList_build_as {P : Program} {ops : Array Oper} {rest : List Oper} {o : Oper} {a : Act} {w : World} {Q : Exit → Act → World → Prop} (hg : o.guard = none) (t : TypeId) (parts : Array (Nat × Operand)) (ho : o.op = .build t parts)
    (cells : Array Value) (hb : P.built t (parts.map fun (i, x) => (i, a.eval x)).toList = some cells)
    (h : wpList P ops Q rest (a.put o.dst (.agg cells)) w) : wpList P ops Q (o :: rest) a w :=
  wpList_build hg t parts ho (by rw [hb]; rfl) (by rw [hb]; exact h)
theorem tab_index (i : Int) (h0 : 0 ≤ i) (h1 : i < 27) (w : World) : (Instr.index 57 (.agg tabA) (.int .u8 i)).run Sacg.prog w = .ok (.agg #[.int .u64 (tabZ i.toNat 0), .int .u64 (tabZ i.toNat 1), .int .u64 (tabZ i.toNat 2)]) w := by
  unfold tabA
  rw [run_index_arr (P := Sacg.prog) w 57 56 22 27 3 .u8 _ i Sacg.underlying57 Sacg.underlying56 3 (by kernel_rfl) h0 h1, tab_at i.toNat (by omega)]

/-! ### the rule of SSTORE -/
def sstC (O V N : Int) (cold : Bool) : Int := (if N = V ∨ V ≠ O then 100 else if O = 0 then 20000 else 2900) + (if cold = true then 2100 else 0)
def sstP (O V N : Int) : Int := if N = V then 0 else if V = O then (if O ≠ 0 ∧ N = 0 then 4800 else 0) else (if O ≠ 0 ∧ V ≠ 0 ∧ N = 0 then 4800 else 0) + (if N = O then (if O = 0 then 19900 else 2800) else 0)
def sstM (O V N : Int) : Int := if N = V ∨ V = O then 0 else if O ≠ 0 ∧ V = 0 then 4800 else 0
theorem tab_is : ∀ o v n : Fin 3, (∀ cold : Bool, sstC (o.val : Nat) (v.val : Nat) (n.val : Nat) cold = tabZ (9 * o.val + 3 * v.val + n.val) 0 + (if cold = true then 2100 else 0)) ∧
    sstP (o.val : Nat) (v.val : Nat) (n.val : Nat) = tabZ (9 * o.val + 3 * v.val + n.val) 1 ∧ sstM (o.val : Nat) (v.val : Nat) (n.val : Nat) = tabZ (9 * o.val + 3 * v.val + n.val) 2 := by decide +kernel
end Go.Proofs.Ygcsac
