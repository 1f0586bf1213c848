/-
  No cell of these rows narrows 'for every input' (looked for: loops, veiled, ifaces, maps, wideKeys, modest, calm, conditions, laid).
  DERIVED. THE GIVEN ROWS OF THIS SEAT. 5 by the template 'for every input the law returns true; each argument reads behind the call as it read before'; 0 by the template 'total and deterministic' (their statements: YgcsacTotals.lean).
  GIVEN WITH THE SEED: the statements are not yours to turn. If you find one false, say at which input.
  Laid BY PROGRAM, IN A SANDBOX (cutbox-rows.mjs): the forced cells as the released guide's own fill.sh prints them over the translation 287295643177a60d… (all of the seat's roots in one cut). By AI agents, Wed Nov 11 2026. No macro, syntax, notation, axiom, sorry.
-/
import Derived.Test.YgcsacChecked
import GoSem.Claim
import GoSem.ClaimJoined
import GoSem.ClaimMapViews
import Derived.JoinedTies
import Derived.KernelRfl
namespace Go.Proofs.Ygcsac
/- THE CELL 'sum', in the pinned program and in every row, IS THE sha256 OF THE DUMP (.gsa) THAT YgcsacProg.lean LOADS. Nothing in Lean hashes anything: it is a label: what it is worth is what the hold of that sum in a sandbox is worth. -/
noncomputable def Sacg.pinned : Pinned := { name := "ygcsac", sum := "287295643177a60da8974b85bad9aab1124a592fb28d8db0de361c8014567263", checked := Sacg.checked }
namespace Rows
def none {H : Type} : Left H := { results := [], args := [] }

/-- 'law.GasRight': WHATEVER THE INPUT: true; the input reads as it did. -/
def gasRightSpec : ChangeSpec := { name := "gasRight", fn := fun _ => fun
  | [d1, d2, d3, d4, d5] => { results := [.lit (.bool true)], args := [d1, d2, d3, d4, d5] }
  | _ => none }
def gasRightRow : OpenClaim := { program := "ygcsac", sum := "287295643177a60da8974b85bad9aab1124a592fb28d8db0de361c8014567263", func := "yellow/law.GasRight", spec := "gasRight", apart := false }
def GasRightSaid : Prop := gasRightRow.holds Sacg.pinned (OpenSpec.ofChange gasRightSpec)

/-- ITS FALSE NEIGHBOUR: 'it returns false'. Refute it at one input. -/
def gasRightWrong : ChangeSpec := { name := "gasRight", fn := fun _ => fun
  | [d1, d2, d3, d4, d5] => { results := [.lit (.bool false)], args := [d1, d2, d3, d4, d5] }
  | _ => none }
def GasRightWrongFalsely : Prop := gasRightRow.holds Sacg.pinned (OpenSpec.ofChange gasRightWrong)

/-- 'law.SstoreTable': WHATEVER THE INPUT: true; the input reads as it did. -/
def sstoreTableSpec : ChangeSpec := { name := "sstoreTable", fn := fun _ => fun
  | [d1, d2, d3, d4] => { results := [.lit (.bool true)], args := [d1, d2, d3, d4] }
  | _ => none }
def sstoreTableRow : OpenClaim := { program := "ygcsac", sum := "287295643177a60da8974b85bad9aab1124a592fb28d8db0de361c8014567263", func := "yellow/law.SstoreTable", spec := "sstoreTable", apart := false }
def SstoreTableSaid : Prop := sstoreTableRow.holds Sacg.pinned (OpenSpec.ofChange sstoreTableSpec)

/-- ITS FALSE NEIGHBOUR: 'it returns false'. Refute it at one input. -/
def sstoreTableWrong : ChangeSpec := { name := "sstoreTable", fn := fun _ => fun
  | [d1, d2, d3, d4] => { results := [.lit (.bool false)], args := [d1, d2, d3, d4] }
  | _ => none }
def SstoreTableWrongFalsely : Prop := sstoreTableRow.holds Sacg.pinned (OpenSpec.ofChange sstoreTableWrong)

/-- 'law.RoundConst': WHATEVER THE INPUT: true; the input reads as it did. -/
def roundConstSpec : ChangeSpec := { name := "roundConst", fn := fun _ => fun
  | [d] => { results := [.lit (.bool true)], args := [d] }
  | _ => none }
def roundConstRow : OpenClaim := { program := "ygcsac", sum := "287295643177a60da8974b85bad9aab1124a592fb28d8db0de361c8014567263", func := "yellow/law.RoundConst", spec := "roundConst", apart := false }
def RoundConstSaid : Prop := roundConstRow.holds Sacg.pinned (OpenSpec.ofChange roundConstSpec)

/-- ITS FALSE NEIGHBOUR: 'it returns false'. Refute it at one input. -/
def roundConstWrong : ChangeSpec := { name := "roundConst", fn := fun _ => fun
  | [d] => { results := [.lit (.bool false)], args := [d] }
  | _ => none }
def RoundConstWrongFalsely : Prop := roundConstRow.holds Sacg.pinned (OpenSpec.ofChange roundConstWrong)

/-- 'law.Rotations': WHATEVER THE INPUT: true; the input reads as it did. -/
def rotationsSpec : ChangeSpec := { name := "rotations", fn := fun _ => fun
  | [d1, d2] => { results := [.lit (.bool true)], args := [d1, d2] }
  | _ => none }
def rotationsRow : OpenClaim := { program := "ygcsac", sum := "287295643177a60da8974b85bad9aab1124a592fb28d8db0de361c8014567263", func := "yellow/law.Rotations", spec := "rotations", apart := false }
def RotationsSaid : Prop := rotationsRow.holds Sacg.pinned (OpenSpec.ofChange rotationsSpec)

/-- ITS FALSE NEIGHBOUR: 'it returns false'. Refute it at one input. -/
def rotationsWrong : ChangeSpec := { name := "rotations", fn := fun _ => fun
  | [d1, d2] => { results := [.lit (.bool false)], args := [d1, d2] }
  | _ => none }
def RotationsWrongFalsely : Prop := rotationsRow.holds Sacg.pinned (OpenSpec.ofChange rotationsWrong)

/-- 'law.KmodelTables': WHATEVER THE INPUT: true; the input reads as it did. -/
def kmodelTablesSpec : ChangeSpec := { name := "kmodelTables", fn := fun _ => fun
  | [d1, d2, d3] => { results := [.lit (.bool true)], args := [d1, d2, d3] }
  | _ => none }
def kmodelTablesRow : OpenClaim := { program := "ygcsac", sum := "287295643177a60da8974b85bad9aab1124a592fb28d8db0de361c8014567263", func := "yellow/law.KmodelTables", spec := "kmodelTables", apart := false }
def KmodelTablesSaid : Prop := kmodelTablesRow.holds Sacg.pinned (OpenSpec.ofChange kmodelTablesSpec)

/-- ITS FALSE NEIGHBOUR: 'it returns false'. Refute it at one input. -/
def kmodelTablesWrong : ChangeSpec := { name := "kmodelTables", fn := fun _ => fun
  | [d1, d2, d3] => { results := [.lit (.bool false)], args := [d1, d2, d3] }
  | _ => none }
def KmodelTablesWrongFalsely : Prop := kmodelTablesRow.holds Sacg.pinned (OpenSpec.ofChange kmodelTablesWrong)

end Rows
end Go.Proofs.Ygcsac
