/-
  'Rows.GasRightSaid' ('yellow/law.GasRight') proved: yp's gas functions give what their formulas say (YgcsacYpA), law.gasHolds reckons the same (YgcsacGasA). The frame is made after the tool's own frame for a law with slices (the world behind the call is told by 'Below'); the two arrays are opened by 'open_bytes'.
-/
import Derived.Test.YgcsacRows
import Derived.WalkKit
import Derived.ProofKit
import Derived.OpenShut
import Derived.ShutString
import Derived.ChangeOld
import Derived.Below
import Derived.Test.YgcsacGasA
namespace Go.Proofs.Ygcsac.gasRight
open Go.ChangeShapes Go.WideShapes Go.ChangeAt Go.RowKit
set_option linter.unusedVariables false

theorem own : ownKnob Sacg.prog.godebug = none := by kernel_rfl
theorem laidOut : laidOutB Sacg.prog = true := by kernel_rfl
theorem cells5 : Sacg.prog.cellsOf 5 = 1 := by kernel_rfl
theorem cells23 : Sacg.prog.cellsOf 23 = 32 := by kernel_rfl

/-! ### AN ARRAY OF 32 BYTES, BY VALUE, OPENED -/
theorem all_bytes (l : List Value) (h : ∀ i, i < l.length → ∃ n, l[i]? = some (.int .u8 n) ∧ (Lit.int .u8 n).wf = true) : ∃ zs, l = bytesOf zs ∧ zs.length = l.length ∧ Dgs zs := by
  refine ⟨l.map intOf, ?_, by simp, ?_⟩
  · apply List.ext_getElem?
    intro i
    by_cases hi : i < l.length
    · obtain ⟨n, hn, _⟩ := h i hi
      simp [bytesOf, hn, intOf]
    · rw [List.getElem?_eq_none (by omega), List.getElem?_eq_none (by simp [bytesOf]; omega)]
  · intro z hz
    obtain ⟨v, hv, rfl⟩ := List.mem_map.1 hz
    obtain ⟨i, hi, rfl⟩ := List.getElem_of_mem hv
    obtain ⟨n, hn, hw⟩ := h i hi
    rw [List.getElem?_eq_getElem hi] at hn
    simp only [Option.some.injEq] at hn
    rw [hn]
    exact bounds_u8 hw
theorem open_bytes {H : Type} {enc : TypeId × Value → H} {W : World} {base b0 : Nat} {sp : Nat → Bool} {held : Bool} {v : Value} {d : DataW H} {p : List MemPlace}
    (hval : Value.okWide Sacg.prog W .any base 23 v) (h : DataW.Trod enc Sacg.prog W b0 sp held 23 v d p) : ∃ zs, v = .agg (bytesOf zs).toArray ∧ zs.length = 32 ∧ Dgs zs := by
  obtain ⟨cs, rfl, hsz, _⟩ : ∃ cs, v = .agg cs ∧ cs.size = Sacg.prog.cellsOf 23 ∧ Row.okWide Sacg.prog W .any base 23 cs := by
    simpa [Value.okWide, Sacg.underlying23] using hval
  rw [cells23] at hsz
  obtain ⟨fuel, hf⟩ := h
  have hf' : DataW.trod enc Sacg.prog W b0 sp held fuel 23 cs.toList = some (d, p) := hf
  obtain ⟨xs, m, _, _, _, hxl, hx⟩ := DataW.trod_array Sacg.underlying23 hf'
  obtain ⟨zs, hz, hzl, hzd⟩ := all_bytes cs.toList (fun i hi => by
    have hi' : i < cs.size := by simpa using hi
    have h1 := hx i (by omega)
    rw [cells5, Nat.mul_one, List.getElem?_eq_getElem (by omega)] at h1
    obtain ⟨n, hn, _, hw⟩ := DataW.trod_int Sacg.underlying5 h1
    refine ⟨n, ?_, hw⟩
    have : ((cs.toList.drop i).take 1)[0]? = some (.int .u8 n) := by rw [hn]; rfl
    rw [List.getElem?_take_of_lt (by omega), List.getElem?_drop, Nat.add_zero] at this
    exact this)
  refine ⟨zs, ?_, by rw [hzl]; simpa using hsz, hzd⟩
  rw [← hz]

/-! ### STEP 1: THE WALK -/
theorem Row.range {w : World} {g : Nat} {T : TypeId} {xs : List Value} (h : Row w g T xs) : w.rangeAt g 0 xs := fun j v hj => by rw [Nat.zero_add, h.cell, hj]
theorem Kp.range {a b : World} (h : Kp a b) {g o : Nat} {xs : List Value} (hr : a.rangeAt g o xs) : b.rangeAt g o xs := fun j v hj => h.cell (hr j v hj)

set_option maxHeartbeats 2000000 in
theorem walk (a0 a1 a2 : Int) (az ez : List Int) (w0 : (Lit.int .u64 a0).wf = true) (w1 : (Lit.int .u64 a1).wf = true) (w2 : (Lit.int .u64 a2).wf = true) (al : az.length = 32) (ad : Dgs az) (el : ez.length = 32) (ed : Dgs ez) (w : World) :
    Calls Sacg.prog 3 #[.int .u64 a0, .int .u64 a1, .int .u64 a2, .agg (bytesOf az).toArray, .agg (bytesOf ez).toArray] w fun e w' => e = .returned (.bool true) ∧ Below w.heap.size w w' := by
  obtain ⟨A0, A1⟩ := bounds_u64 w0
  obtain ⟨B0, B1⟩ := bounds_u64 w1
  obtain ⟨C0, C1⟩ := bounds_u64 w2
  have hB : Kp w ((w.alloc (.cells (bytesOf az).toArray 23)).alloc (.cells (bytesOf ez).toArray 23)) := ((Kp.refl w).alloc _).alloc _
  have hA : Row ((w.alloc (.cells (bytesOf az).toArray 23)).alloc (.cells (bytesOf ez).toArray 23)) w.heap.size 23 (bytesOf az) := (Row.new w 23 _).alloc _
  have hE : Row ((w.alloc (.cells (bytesOf az).toArray 23)).alloc (.cells (bytesOf ez).toArray 23)) (w.heap.size + 1) 23 (bytesOf ez) := by
    have := Row.new (w.alloc (.cells (bytesOf az).toArray 23)) 23 (bytesOf ez)
    rw [World.size_alloc] at this
    exact this
  go_enter Sacg.func3, Sacg.ntmps3
  go_wp2_with fail
  refine (fromBE_any _ (some ⟨w.heap.size, 0, none⟩) 32 az (by omega) (NatAt.ofRow hA ad al)).mono ?_
  rintro e v0 ⟨qo, fa, zq, rfl, hq, _, _, _, _, _, k0⟩
  replace hB := hB.trans k0
  replace hE := hE.keep k0
  clear k0 hA
  obtain ⟨qn, eqn⟩ : ∃ qn, qn = 32 - fa := ⟨_, rfl⟩
  rw [← eqn] at hq ⊢
  have hqn : qn ≤ 32 := by omega
  clear eqn
  go_upto_region 2 with fail
  have hrange : v0.rangeAt (w.heap.size + 1) 0 (bytesOf ez) := Row.range hE
  have hu23 := Sacg.underlying23
  have hi23 : (Sacg.prog.info? 23).map (·.size) = some (bytesOf ez).length := by rw [bytesOf_length, el]; kernel_rfl
  have hl23 : (bytesOf ez).length = 32 := by rw [bytesOf_length, el]
  have h123 := bytesOf_one ez
  go_region_held3 (fun w' => w'.rangeAt (w.heap.size + 1) 0 (bytesOf ez)) (first | exact hrange | exact Kp.range (by assumption) (by assumption)) (first | (go_at_call_of 11 (Value.int .u64 a0); refine (fromU64_nt _ a0 A0 A1).mono ?_; rintro e v1 ⟨ao, an, za, rfl, ha, ea, ba, kk⟩; have Ea : Hid (val za = a0) := ea; clear ea; have hK := Kp.trans (show Kp v0 _ from (by repeat (first | exact Kp.refl _ | apply Kp.drew | apply Kp.alloc))) kk; clear kk) | (go_at_call 10; refine (memCost_nt _ ao an za (by omega) ha).mono ?_; rintro e v2 ⟨mo, mn, zm, rfl, hm, em, bm, kk⟩; have Em : Hid (val zm = 3 * a0 + a0 * a0 / 512) := (by show _ = _; rw [em, Ea.out]); clear em; replace hK := hK.trans kk; clear kk) | (go_at_call_of 11 (Value.int .u64 a1); refine (fromU64_nt _ a1 B0 B1).mono ?_; rintro e v3 ⟨no, nn, zn, rfl, hn, en, bn, kk⟩; have En : Hid (val zn = a1) := en; clear en; replace hm := hm.keep kk; replace hK := hK.trans kk; clear kk) | (go_at_call 12; refine (copyCost_nt _ no nn zn (by omega) hn).mono ?_; rintro e v4 ⟨co, cn, zc, rfl, hc, ec, bc, kk⟩; have Ec : Hid (val zc = 3 * ((a1 + 31) / 32)) := (by show _ = _; rw [ec, En.out]); clear ec; replace hm := hm.keep kk; replace hK := hK.trans kk; clear kk) | (go_at_call 8; refine (fromBE_any _ (some ⟨w.heap.size + 1, 0, none⟩) 32 ez (by omega) (NatAt.ofRow (hE.keep hK) ed el)).mono ?_; rintro e v5 ⟨yo, f, zy, rfl, hy, ey, Ny, hf, hf0, hf1, kk⟩; have HF0 : Hid (∀ j, j < f → ez.getD j 0 = 0) := hf0; have HF1 : Hid (f < 32 → ez.getD f 0 ≠ 0) := hf1; clear ey hf0 hf1; replace hm := hm.keep kk; replace hc := hc.keep kk; replace hK := hK.trans kk; clear kk) | (go_at_call 13; refine (expCost_nt _ yo (32 - f) zy (by omega) hy Ny).mono ?_; rintro e v6 ⟨xo, xn, zx, rfl, hx, ex, bx, kk⟩; have Ex : Hid (val zx = 10 + 50 * ((32 - f : Nat) : Int)) := ex; clear ex; replace hm := hm.keep kk; replace hc := hc.keep kk; replace hK := hK.trans kk; clear kk) | (go_at_call_of 11 (Value.int .u64 a2); refine (fromU64_nt _ a2 C0 C1).mono ?_; rintro e v7 ⟨lo, ln, zl, rfl, hl, el', bl, kk⟩; have El : Hid (val zl = a2) := el'; clear el'; replace hm := hm.keep kk; replace hc := hc.keep kk; replace hx := hx.keep kk; replace hK := hK.trans kk; clear kk) | (go_at_call 14; refine (sentGas_nt _ lo qo ln qn zl zq (by omega) (by omega) hl (hq.keep hK)).mono ?_; rintro e v8 ⟨so, sn, zs, rfl, hs, es, bs, kk⟩; have Es : Hid (val zs = sentZ a2 (val zq)) := (by show _ = _; rw [es, El.out]); clear es; replace hm := hm.keep kk; replace hc := hc.keep kk; replace hx := hx.keep kk; replace hK := hK.trans kk; clear kk) | (go_at_call 9; refine (gasHolds_any _ a0 a1 a2 qo mo co xo so qn mn cn xn sn f zq zm zc zx zs ez A0 A1 B0 B1 C0 C1 (by omega) (by omega) (by omega) (by omega) (by omega) (hq.keep hK) hm hc hx hs el hf HF0 HF1 Em Ec Ex Es).mono ?_; rintro e v9 ⟨rfl, kk⟩; skip; replace hm := hm.keep kk; replace hc := hc.keep kk; replace hx := hx.keep kk; replace hs := hs.keep kk; replace hK := hK.trans kk; clear kk))
  go_wp2
  go_ret
  exact ⟨rfl, hB.trans hK⟩

/-! ### THE ROW's STEP -/
set_option maxRecDepth 100000 in
theorem lifted (os : Os) (started : os.Started) (H : Type) (enc : TypeId × Value → H) :
    ReturnsInHanded {} Sacg.checked os 3 .any (Rows.gasRightSpec.pre6 enc Sacg.prog Sacg.f3 Rows.gasRightRow.domain false) (Rows.gasRightSpec.post enc Sacg.prog Sacg.f3 false true false false) := by
  refine returnsInHanded_of_change (C := Sacg.checked) own started (by kernel_rfl) Sacg.func3
    (ChangeSpec.witness6 (enc := enc) (C := Sacg.checked) false ⟨#[], #[.int .u64 0, .int .u64 0, .int .u64 0, .agg #[.int .u8 0, .int .u8 0, .int .u8 0, .int .u8 0, .int .u8 0, .int .u8 0, .int .u8 0, .int .u8 0, .int .u8 0, .int .u8 0, .int .u8 0, .int .u8 0, .int .u8 0, .int .u8 0, .int .u8 0, .int .u8 0, .int .u8 0, .int .u8 0, .int .u8 0, .int .u8 0, .int .u8 0, .int .u8 0, .int .u8 0, .int .u8 0, .int .u8 0, .int .u8 0, .int .u8 0, .int .u8 0, .int .u8 0, .int .u8 0, .int .u8 0, .int .u8 0], .agg #[.int .u8 0, .int .u8 0, .int .u8 0, .int .u8 0, .int .u8 0, .int .u8 0, .int .u8 0, .int .u8 0, .int .u8 0, .int .u8 0, .int .u8 0, .int .u8 0, .int .u8 0, .int .u8 0, .int .u8 0, .int .u8 0, .int .u8 0, .int .u8 0, .int .u8 0, .int .u8 0, .int .u8 0, .int .u8 0, .int .u8 0, .int .u8 0, .int .u8 0, .int .u8 0, .int .u8 0, .int .u8 0, .int .u8 0, .int .u8 0, .int .u8 0, .int .u8 0]], []⟩ 8 (by kernel_rfl) (by kernel_rfl) (by kernel_rfl) (by kernel_rfl)) ?_
  intro W base args ds gs before hval0 hW hcnd _
  have hval : ∀ (j : Nat) t v, Sacg.f3.params[j]? = some t → args[j]? = some v → Value.okWide Sacg.prog W .any base t v := hval0
  have hW' := hW
  obtain ⟨p, q, hA0, hV, rfl, hfz, hnd⟩ := hW
  have hA : DataW.TrodAll enc Sacg.prog W 0 (fun _ => true) true Sacg.f3.params.toList args.toList ds p := hA0
  rw [Sacg.params3] at hA hval
  obtain ⟨v0, vs0, d0, ds0, p0, q0, hargs, rfl, rfl, h0, r0⟩ := trodAll_cons hA
  obtain ⟨v1, vs1, d1, ds1, p1, q1, rfl, rfl, rfl, h1, r1⟩ := trodAll_cons r0
  obtain ⟨v2, vs2, d2, ds2, p2, q2, rfl, rfl, rfl, h2, r2⟩ := trodAll_cons r1
  obtain ⟨v3, vs3, d3, ds3, p3, q3, rfl, rfl, rfl, h3, r3⟩ := trodAll_cons r2
  obtain ⟨v4, vs4, d4, ds4, p4, q4, rfl, rfl, rfl, h4, r4⟩ := trodAll_cons r3
  obtain ⟨rfl, rfl, rfl⟩ := trodAll_nil r4
  obtain rfl : args = #[v0, v1, v2, v3, v4] := by cases args; simp_all
  obtain ⟨rfl, rfl⟩ := trodVars_none hV
  obtain ⟨a0, rfl, rfl, rfl, w0⟩ := open_int Sacg.underlying22 (hval 0 22 v0 rfl rfl) h0
  obtain ⟨a1, rfl, rfl, rfl, w1⟩ := open_int Sacg.underlying22 (hval 1 22 v1 rfl rfl) h1
  obtain ⟨a2, rfl, rfl, rfl, w2⟩ := open_int Sacg.underlying22 (hval 2 22 v2 rfl rfl) h2
  obtain ⟨az, rfl, al, ad⟩ := open_bytes (hval 3 23 v3 rfl rfl) h3
  obtain ⟨ez, rfl, el, ed⟩ := open_bytes (hval 4 23 v4 rfl rfl) h4
  have lt3 : ∀ x ∈ p3, x.block < W.heap.size := by obtain ⟨m, hm⟩ := h3; exact DataW.trod_lt m _ _ _ hm
  have lt4 : ∀ x ∈ p4, x.block < W.heap.size := by obtain ⟨m, hm⟩ := h4; exact DataW.trod_lt m _ _ _ hm
  clear hA0 hval0
  refine (walk a0 a1 a2 az ez w0 w1 w2 al ad el ed W).mono fun e W' ⟨he, bel⟩ => ?_
  subst he
  exact ⟨_, rfl, _, _, _, [], _, [], hW', trodAll_mk1 (shut_bool Sacg.underlying4 _), (trodAll_cons_mk (shut_int Sacg.underlying22 w0) (trodAll_cons_mk (shut_int Sacg.underlying22 w1) (trodAll_cons_mk (shut_int Sacg.underlying22 w2) (trodAll_cons_mk (Below.trod laidOut (by kernel_rfl) (of_decide_eq_true (by kernel_rfl)) h3 bel lt3) (trodAll_cons_mk (Below.trod laidOut (by kernel_rfl) (of_decide_eq_true (by kernel_rfl)) h4 bel lt4) trodAll_mk0))))), rfl, bel.frame _, fun h => by cases h⟩

theorem over : Rows.gasRightRow.holds Sacg.pinned (OpenSpec.ofChange Rows.gasRightSpec) :=
  OpenClaim.holds_of_wide 3 Sacg.f3 rfl rfl rfl rfl rfl rfl rfl ⟨rfl, rfl, rfl, rfl, rfl⟩ rfl rfl rfl rfl rfl (by kernel_rfl) Sacg.func3 (by kernel_rfl)
    (of_decide_eq_true (by kernel_rfl)) (by unfold Func.isWrapper; first | (rw [if_pos (by decide +kernel)]; kernel_rfl) | (rw [if_neg (by decide +kernel)]; exact ⟨rfl, rfl⟩))
    (fun os started H enc _ => lifted os started H enc)

/-- ████ THE STATEMENT ████ -/
theorem proved : Rows.GasRightSaid := over
#print axioms proved
end Go.Proofs.Ygcsac.gasRight
