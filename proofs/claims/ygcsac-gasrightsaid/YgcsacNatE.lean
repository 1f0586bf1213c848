/- 'Nothing old has turned' (Kp), and the contracts of nat.Cmp, yp.isZero, yp.num, nat.Add said with it. -/
import Derived.Test.YgcsacNatD
namespace Go.Proofs.Ygcsac
open Go.RowKit

/-- What was in memory is as it was. -/
def Kp (w w' : World) : Prop := Below w.heap.size w w'
theorem Kp.refl (w : World) : Kp w w := Below.refl _ _
theorem Kp.trans {a b c : World} (h : Kp a b) (k : Kp b c) : Kp a c := Below.trans h (Below.mono k (Below.size h))
theorem Kp.drewN (w : World) (q : Nat) : Kp w (w.drewN q) := ⟨rfl, rfl, rfl, Nat.le_refl _, fun _ _ => rfl⟩
theorem NatAt.keep {w w' : World} {ao : Option Addr} {n : Nat} {zs : List Int} (h : NatAt w ao n zs) (k : Kp w w') : NatAt w' ao n zs := h.below k (Nat.le_refl _)
theorem cmpZ_beq (x y : Int) : (cmpZ x y == 0) = (x == y) := by
  rcases Int.lt_trichotomy x y with h | h | h
  · rw [cmpZ_lt h, beq_eq_false_iff_ne.2 (show x ≠ y by omega)]; rfl
  · rw [cmpZ_eq h, beq_iff_eq.2 h]; rfl
  · rw [cmpZ_gt h, beq_eq_false_iff_ne.2 (show x ≠ y by omega)]; rfl

theorem cmp_k (w : World) (ao bo : Option Addr) (n m : Nat) (za zb : List Int) (hn : n ≤ 100000) (hm : m ≤ 100000) (ha : NatAt w ao n za) (hb : NatAt w bo m zb) :
    Calls Sacg.prog 28 #[.slice ao n n, .slice bo m m] w fun e w' => e = .returned (.int .i8 (cmpZ (val za) (val zb))) ∧ Kp w w' :=
  (cmp_any w ao bo n m za zb hn hm ha hb).mono fun _ _ ⟨he, q, hq⟩ => ⟨he, by rw [hq]; exact Kp.drewN w q⟩
theorem isZero_k (w : World) (ao : Option Addr) (n : Nat) (za : List Int) (hn : n ≤ 100000) (ha : NatAt w ao n za) :
    Calls Sacg.prog 36 #[.slice ao n n] w fun e w' => e = .returned (.bool (val za == 0)) ∧ Kp w w' :=
  (isZero_any w ao n za hn ha).mono fun _ _ ⟨he, q, hq⟩ => ⟨by rw [he, cmpZ_beq], by rw [hq]; exact Kp.drewN w q⟩
/-- The shape of what a call that gives a natural leaves. -/
theorem Gives.parts {w w' : World} {X : Int} {N : Nat} {e : Ending} (h : Gives w X N e w') : ∃ ao n zs, e = .returned (.slice ao n n) ∧ NatAt w' ao n zs ∧ val zs = X ∧ n ≤ N ∧ Kp w w' := by
  obtain ⟨ao, n, zs, h1, h2, h3, _, h5, h6⟩ := h
  exact ⟨ao, n, zs, h1, h2, h3, h5, h6⟩
/-- Three naturals of the values C, P, M; nothing old has turned. -/
def Sst3 (w : World) (C P M : Int) (e : Ending) (w' : World) : Prop :=
  ∃ co cn cz po pn pz mo mn mz, e = .returned (.tuple #[.slice co cn cn, .slice po pn pn, .slice mo mn mn]) ∧ NatAt w' co cn cz ∧ val cz = C ∧ cn ≤ 100 ∧ NatAt w' po pn pz ∧ val pz = P ∧ pn ≤ 100 ∧ NatAt w' mo mn mz ∧ val mz = M ∧ mn ≤ 100 ∧ Kp w w'

end Go.Proofs.Ygcsac
