/-
  'Rows.KmodelTablesSaid' ('yellow/law.KmodelTables') proved: kmodel.Const turns a register of bits in memory of its own, kmodel.Offset walks the lanes; both give keccak's tables (YgcsacKecA .. YgcsacKecE). The frame is the given shell's, but that the walk says 'Below' (nothing that was there has turned) where the shell says 'Grown', as the tool's own frame for slices does.
-/
import Derived.Test.YgcsacRows
import Derived.WalkKit
import Derived.ProofKit
import Derived.OpenShut
import Derived.ShutString
import Derived.ChangeOld
import Derived.Below
import Derived.Test.YgcsacKecE
namespace Go.Proofs.Ygcsac.kmodelTables
open Go.ChangeShapes Go.WideShapes Go.ChangeAt Go.RowKit
open Go.ChangeMaps (open_string shut_string)
set_option linter.unusedVariables false      -- a walk need not use every 'w<i>' (that an integer argument fits its kind)

theorem own : ownKnob Sacg.prog.godebug = none := by kernel_rfl

/-! ### STEP 1: THE WALK: the Go text returns true. 'Grown w w'': the world has at most new blocks (Derived/RowKit3.lean). Part the cases AHEAD of 'go_enter' where a test parts the walk; take each callee by a contract of your own. -/
theorem walk (a0 : Int) (a1 : Int) (a2 : Int) (w0 : (Lit.int .u8 a0).wf = true) (w1 : (Lit.int .u8 a1).wf = true) (w2 : (Lit.int .u8 a2).wf = true) (w : World) :
    Calls Sacg.prog 7 #[.int .u8 a0, .int .u8 a1, .int .u8 a2] w fun e w' => e = .returned (.bool true) ∧ Below w.heap.size w w' := by
  obtain ⟨h0, _⟩ := bounds_u8 w0
  obtain ⟨h1, b1⟩ := bounds_u8 w1
  obtain ⟨h2, b2⟩ := bounds_u8 w2
  go_enter Sacg.func7, Sacg.ntmps7
  go_wp2_with (first | (go_at_call 23; refine (kec.const_any _ _ h0).mono ?_; rintro e w' ⟨rfl, hb⟩) | (go_at_call 24; refine (kec.offset_any _ _ _ h1 h2 b1 b2).mono ?_; rintro e w' ⟨rfl, rfl⟩) | (go_at_call 22; refine (kec.kmodelHolds_any _ _ _ _ h0 h1 h2).mono ?_; rintro e w' ⟨rfl, rfl⟩))
  go_ret
  exact ⟨rfl, hb⟩

/-! ### THE ROW's STEP: WRITTEN OUT: LEAVE IT -/
set_option maxRecDepth 100000 in
theorem lifted (os : Os) (started : os.Started) (H : Type) (enc : TypeId × Value → H) :
    ReturnsInHanded {} Sacg.checked os 7 .any (Rows.kmodelTablesSpec.pre6 enc Sacg.prog Sacg.f7 Rows.kmodelTablesRow.domain false) (Rows.kmodelTablesSpec.post enc Sacg.prog Sacg.f7 false true false false) := by
  refine returnsInHanded_of_change (C := Sacg.checked) own started (by kernel_rfl) Sacg.func7
    (ChangeSpec.witness6 (enc := enc) (C := Sacg.checked) false ⟨#[], #[.int .u8 0, .int .u8 0, .int .u8 0], []⟩ 8 (by kernel_rfl) (by kernel_rfl) (by kernel_rfl) (by kernel_rfl)) ?_
  intro W base args ds gs before hval0 hW hcnd _
  have hval : ∀ (j : Nat) t v, Sacg.f7.params[j]? = some t → args[j]? = some v → Value.okWide Sacg.prog W .any base t v := hval0
  have hW' := hW
  obtain ⟨p, q, hA0, hV, rfl, hfz, hnd⟩ := hW
  have hA : DataW.TrodAll enc Sacg.prog W 0 (fun _ => true) true Sacg.f7.params.toList args.toList ds p := hA0
  rw [Sacg.params7] at hA hval
  obtain ⟨v0, vs0, d0, ds0, p0, q0, hargs, rfl, rfl, h0, r0⟩ := trodAll_cons hA
  obtain ⟨v1, vs1, d1, ds1, p1, q1, rfl, rfl, rfl, h1, r1⟩ := trodAll_cons r0
  obtain ⟨v2, vs2, d2, ds2, p2, q2, rfl, rfl, rfl, h2, r2⟩ := trodAll_cons r1
  obtain ⟨rfl, rfl, rfl⟩ := trodAll_nil r2
  obtain rfl : args = #[v0, v1, v2] := by cases args; simp_all
  obtain ⟨rfl, rfl⟩ := trodVars_none hV
  obtain ⟨a0, rfl, rfl, rfl, w0⟩ := open_int Sacg.underlying5 (hval 0 5 v0 rfl rfl) h0
  obtain ⟨a1, rfl, rfl, rfl, w1⟩ := open_int Sacg.underlying5 (hval 1 5 v1 rfl rfl) h1
  obtain ⟨a2, rfl, rfl, rfl, w2⟩ := open_int Sacg.underlying5 (hval 2 5 v2 rfl rfl) h2
  clear hA0 hval0
  simp only [List.append_nil] at hW'
  refine (walk a0 a1 a2 w0 w1 w2 W).mono fun e W' ⟨he, hg⟩ => ?_
  subst he
  exact ⟨_, rfl, _, _, _, [], _, [], hW', trodAll_mk1 (shut_bool Sacg.underlying4 _), (trodAll_cons_mk (shut_int Sacg.underlying5 w0) (trodAll_cons_mk (shut_int Sacg.underlying5 w1) (trodAll_cons_mk (shut_int Sacg.underlying5 w2) trodAll_mk0))), rfl, hg.frame _, fun h => by cases h⟩

theorem over : Rows.kmodelTablesRow.holds Sacg.pinned (OpenSpec.ofChange Rows.kmodelTablesSpec) :=
  OpenClaim.holds_of_wide 7 Sacg.f7 rfl rfl rfl rfl rfl rfl rfl ⟨rfl, rfl, rfl, rfl, rfl⟩ rfl rfl rfl rfl rfl (by kernel_rfl) Sacg.func7 (by kernel_rfl)
    (of_decide_eq_true (by kernel_rfl)) (by unfold Func.isWrapper; first | (rw [if_pos (by decide +kernel)]; kernel_rfl) | (rw [if_neg (by decide +kernel)]; exact ⟨rfl, rfl⟩))
    (fun os started H enc _ => lifted os started H enc)

/-- ████ THE STATEMENT ████ -/
theorem proved : Rows.KmodelTablesSaid :=
  over
#print axioms proved
end Go.Proofs.Ygcsac.kmodelTables
