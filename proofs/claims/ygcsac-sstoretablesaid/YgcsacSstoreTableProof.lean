/-
  'Rows.SstoreTableSaid' ('yellow/law.SstoreTable') proved: the three naturals are one digit each; yp.Sstore gives what the plain rule says (YgcsacSstA, B, D); law.sstoreHolds finds the same in its table (YgcsacSstC). The frame is the given shell's, but that the walk says 'Below' (nothing that was there has turned) where the shell says 'Grown', as the tool's own frame for slices does.
-/
import Derived.Test.YgcsacRows
import Derived.WalkKit
import Derived.ProofKit
import Derived.OpenShut
import Derived.ShutString
import Derived.ChangeOld
import Derived.Below
import Derived.Test.YgcsacSstC
import Derived.Test.YgcsacSstD
namespace Go.Proofs.Ygcsac.sstoreTable
open Go.ChangeShapes Go.WideShapes Go.ChangeAt Go.RowKit
open Go.ChangeMaps (open_string shut_string)
set_option linter.unusedVariables false      -- a walk need not use every 'w<i>' (that an integer argument fits its kind)

theorem own : ownKnob Sacg.prog.godebug = none := by kernel_rfl

/-! ### STEP 1: THE WALK: the Go text returns true. 'Grown w w'': the world has at most new blocks (Derived/RowKit3.lean). Part the cases AHEAD of 'go_enter' where a test parts the walk; take each callee by a contract of your own. -/
theorem one_dgs (d : Int) (h0 : 0 ≤ d) (h : d < 3) : Dgs [d] := by
  intro z hz
  rw [List.mem_singleton.1 hz]
  omega
theorem val_one (d : Int) : val [d] = d := by simp [val]
theorem tab_at_mod (a b c : Int) (ha : 0 ≤ a ∧ a < 3) (hb : 0 ≤ b ∧ b < 3) (hc : 0 ≤ c ∧ c < 3) (cold : Bool) :
    sstC a b c cold = tabZ (9 * a + 3 * b + c).toNat 0 + (if cold = true then 2100 else 0) ∧ sstP a b c = tabZ (9 * a + 3 * b + c).toNat 1 ∧ sstM a b c = tabZ (9 * a + 3 * b + c).toNat 2 := by
  obtain ⟨x, rfl⟩ : ∃ x : Nat, a = (x : Int) := ⟨a.toNat, by omega⟩
  obtain ⟨y, rfl⟩ : ∃ y : Nat, b = (y : Int) := ⟨b.toNat, by omega⟩
  obtain ⟨z, rfl⟩ : ∃ z : Nat, c = (z : Int) := ⟨c.toNat, by omega⟩
  have := tab_is ⟨x, by omega⟩ ⟨y, by omega⟩ ⟨z, by omega⟩
  rw [show (9 * (x : Int) + 3 * (y : Int) + (z : Int)).toNat = 9 * x + 3 * y + z from by omega]
  exact ⟨this.1 cold, this.2⟩

theorem one_at (w : World) (d : Int) (h0 : 0 ≤ d) (h : d < 3) : NatAt (w.alloc (.cells #[.int .u8 d] 5)) (some ⟨w.heap.size, 0, none⟩) 1 [d] :=
  NatAt.ofRow (T := 5) (Row.new w 5 [.int .u8 d]) (one_dgs d h0 h) rfl
theorem one_kp (w : World) (o : Obj) : Kp w (w.alloc o) := (Below.refl _ _).alloc (Nat.le_refl _) _

set_option maxHeartbeats 2000000 in
theorem walk (a0 : Int) (a1 : Int) (a2 : Int) (a3 : Bool) (w0 : (Lit.int .u8 a0).wf = true) (w1 : (Lit.int .u8 a1).wf = true) (w2 : (Lit.int .u8 a2).wf = true) (w : World) :
    Calls Sacg.prog 4 #[.int .u8 a0, .int .u8 a1, .int .u8 a2, .bool a3] w fun e w' => e = .returned (.bool true) ∧ Below w.heap.size w w' := by
  obtain ⟨h0, b0⟩ := bounds_u8 w0
  obtain ⟨h1, b1⟩ := bounds_u8 w1
  obtain ⟨h2, b2⟩ := bounds_u8 w2
  have m0 : 0 ≤ a0 % 3 ∧ a0 % 3 < 3 := by omega
  have m1 : 0 ≤ a1 % 3 ∧ a1 % 3 < 3 := by omega
  have m2 : 0 ≤ a2 % 3 ∧ a2 % 3 < 3 := by omega
  obtain ⟨tC, tP, tM⟩ := tab_at_mod (a0 % 3) (a1 % 3) (a2 % 3) m0 m1 m2 a3
  have TC : Hid (sstC (a0 % 3) (a1 % 3) (a2 % 3) a3 = tabZ (9 * (a0 % 3) + 3 * (a1 % 3) + a2 % 3).toNat 0 + (if a3 = true then 2100 else 0)) := tC
  have TP : Hid (sstP (a0 % 3) (a1 % 3) (a2 % 3) = tabZ (9 * (a0 % 3) + 3 * (a1 % 3) + a2 % 3).toNat 1) := tP
  have TM : Hid (sstM (a0 % 3) (a1 % 3) (a2 % 3) = tabZ (9 * (a0 % 3) + 3 * (a1 % 3) + a2 % 3).toNat 2) := tM
  clear tC tP tM
  go_enter Sacg.func4, Sacg.ntmps4
  go_wp2_with fail
  refine (norm_gives _ _ 1 [a0 % 3] (by omega) (one_at w (a0 % 3) m0.1 m0.2)).mono ?_
  intro e wa hG
  obtain ⟨oo, on, zo, rfl, ho, eo, bo, ka⟩ := hG.parts
  have EO : Hid (val zo = a0 % 3) := eo.trans (val_one _)
  have hB := (one_kp w _).trans ka
  clear hG ka eo
  go_wp2_with fail
  have k1 := one_kp wa (.cells #[.int .u8 (a1 % 3)] 5)
  refine (norm_gives _ _ 1 [a1 % 3] (by omega) (one_at wa (a1 % 3) m1.1 m1.2)).mono ?_
  intro e wb hG
  obtain ⟨vo, vn, zv, rfl, hv, ev, bv, kb⟩ := hG.parts
  have EV : Hid (val zv = a1 % 3) := ev.trans (val_one _)
  replace hB := hB.trans (k1.trans kb)
  replace ho := ho.keep (k1.trans kb)
  clear hG kb ev k1
  go_wp2_with fail
  have k1 := one_kp wb (.cells #[.int .u8 (a2 % 3)] 5)
  refine (norm_gives _ _ 1 [a2 % 3] (by omega) (one_at wb (a2 % 3) m2.1 m2.2)).mono ?_
  intro e wc hG
  obtain ⟨no, nn, zn, rfl, hn, en, bn, kc⟩ := hG.parts
  have EN : Hid (val zn = a2 % 3) := en.trans (val_one _)
  replace hB := hB.trans (k1.trans kc)
  replace ho := ho.keep (k1.trans kc)
  replace hv := hv.keep (k1.trans kc)
  clear hG kc en k1
  go_wp2_with fail
  refine (sstore_any wc oo vo no on vn nn zo zv zn a3 (by omega) (by omega) (by omega) ho hv hn).mono ?_
  intro e wd hS
  rw [EO.out, EV.out, EN.out] at hS
  obtain ⟨co, cn, cz, po, pn, pz, mo, mn, mz, rfl, hc, ec, bc, hp, ep, bp, hm, em, bm, kd⟩ := hS
  have EC : Hid (val cz = tabZ (9 * (a0 % 3) + 3 * (a1 % 3) + a2 % 3).toNat 0 + (if a3 = true then 2100 else 0)) := ec.trans TC.out
  have EP : Hid (val pz = tabZ (9 * (a0 % 3) + 3 * (a1 % 3) + a2 % 3).toNat 1) := ep.trans TP.out
  have EM : Hid (val mz = tabZ (9 * (a0 % 3) + 3 * (a1 % 3) + a2 % 3).toNat 2) := em.trans TM.out
  replace hB := hB.trans kd
  clear kd ec ep em TC TP TM ho hv hn EO EV EN
  go_wp2_with fail
  refine (sstoreHolds_any wd (a0 % 3) (a1 % 3) (a2 % 3) a3 co po mo cn pn mn cz pz mz m0.1 m0.2 m1.1 m1.2 m2.1 m2.2 bc bp bm hc hp hm EC EP EM).mono ?_
  rintro e we ⟨rfl, ke⟩
  replace hB := hB.trans ke
  clear ke
  go_wp2
  go_ret
  exact ⟨rfl, hB⟩

/-! ### THE ROW's STEP: WRITTEN OUT: LEAVE IT -/
set_option maxRecDepth 100000 in
theorem lifted (os : Os) (started : os.Started) (H : Type) (enc : TypeId × Value → H) :
    ReturnsInHanded {} Sacg.checked os 4 .any (Rows.sstoreTableSpec.pre6 enc Sacg.prog Sacg.f4 Rows.sstoreTableRow.domain false) (Rows.sstoreTableSpec.post enc Sacg.prog Sacg.f4 false true false false) := by
  refine returnsInHanded_of_change (C := Sacg.checked) own started (by kernel_rfl) Sacg.func4
    (ChangeSpec.witness6 (enc := enc) (C := Sacg.checked) false ⟨#[], #[.int .u8 0, .int .u8 0, .int .u8 0, .bool false], []⟩ 8 (by kernel_rfl) (by kernel_rfl) (by kernel_rfl) (by kernel_rfl)) ?_
  intro W base args ds gs before hval0 hW hcnd _
  have hval : ∀ (j : Nat) t v, Sacg.f4.params[j]? = some t → args[j]? = some v → Value.okWide Sacg.prog W .any base t v := hval0
  have hW' := hW
  obtain ⟨p, q, hA0, hV, rfl, hfz, hnd⟩ := hW
  have hA : DataW.TrodAll enc Sacg.prog W 0 (fun _ => true) true Sacg.f4.params.toList args.toList ds p := hA0
  rw [Sacg.params4] at hA hval
  obtain ⟨v0, vs0, d0, ds0, p0, q0, hargs, rfl, rfl, h0, r0⟩ := trodAll_cons hA
  obtain ⟨v1, vs1, d1, ds1, p1, q1, rfl, rfl, rfl, h1, r1⟩ := trodAll_cons r0
  obtain ⟨v2, vs2, d2, ds2, p2, q2, rfl, rfl, rfl, h2, r2⟩ := trodAll_cons r1
  obtain ⟨v3, vs3, d3, ds3, p3, q3, rfl, rfl, rfl, h3, r3⟩ := trodAll_cons r2
  obtain ⟨rfl, rfl, rfl⟩ := trodAll_nil r3
  obtain rfl : args = #[v0, v1, v2, v3] := by cases args; simp_all
  obtain ⟨rfl, rfl⟩ := trodVars_none hV
  obtain ⟨a0, rfl, rfl, rfl, w0⟩ := open_int Sacg.underlying5 (hval 0 5 v0 rfl rfl) h0
  obtain ⟨a1, rfl, rfl, rfl, w1⟩ := open_int Sacg.underlying5 (hval 1 5 v1 rfl rfl) h1
  obtain ⟨a2, rfl, rfl, rfl, w2⟩ := open_int Sacg.underlying5 (hval 2 5 v2 rfl rfl) h2
  obtain ⟨a3, rfl, rfl, rfl⟩ := open_bool Sacg.underlying4 (hval 3 4 v3 rfl rfl) h3
  clear hA0 hval0
  simp only [List.append_nil] at hW'
  refine (walk a0 a1 a2 a3 w0 w1 w2 W).mono fun e W' ⟨he, hg⟩ => ?_
  subst he
  exact ⟨_, rfl, _, _, _, [], _, [], hW', trodAll_mk1 (shut_bool Sacg.underlying4 _), (trodAll_cons_mk (shut_int Sacg.underlying5 w0) (trodAll_cons_mk (shut_int Sacg.underlying5 w1) (trodAll_cons_mk (shut_int Sacg.underlying5 w2) (trodAll_cons_mk (shut_bool Sacg.underlying4 _) trodAll_mk0)))), rfl, hg.frame _, fun h => by cases h⟩

theorem over : Rows.sstoreTableRow.holds Sacg.pinned (OpenSpec.ofChange Rows.sstoreTableSpec) :=
  OpenClaim.holds_of_wide 4 Sacg.f4 rfl rfl rfl rfl rfl rfl rfl ⟨rfl, rfl, rfl, rfl, rfl⟩ rfl rfl rfl rfl rfl (by kernel_rfl) Sacg.func4 (by kernel_rfl)
    (of_decide_eq_true (by kernel_rfl)) (by unfold Func.isWrapper; first | (rw [if_pos (by decide +kernel)]; kernel_rfl) | (rw [if_neg (by decide +kernel)]; exact ⟨rfl, rfl⟩))
    (fun os started H enc _ => lifted os started H enc)

/-- ████ THE STATEMENT ████ -/
theorem proved : Rows.SstoreTableSaid :=
  over
#print axioms proved
end Go.Proofs.Ygcsac.sstoreTable
