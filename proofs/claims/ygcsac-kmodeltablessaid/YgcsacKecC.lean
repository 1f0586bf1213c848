/- kmodel's register: (*register).turn. -/
import Derived.Test.YgcsacRows
import Derived.Test.YgcsacRow
import Derived.Test.YgcsacLaw
import Derived.WalkKit
import Derived.ProofKit
import Derived.RegionTactic
import Derived.BigRegion
import Derived.ChangeAlike
namespace Go.Proofs.Ygcsac.kec
open Go.RowKit

/-- The register when places k+1 .. 7 have been shifted. -/
def shf (bs : List Bool) (k : Nat) : List Bool := (List.range 8).map fun j => if k < j then bs.getD (j - 1) false else bs.getD j false
theorem shf_length (bs : List Bool) (k : Nat) : (shf bs k).length = 8 := by simp [shf]
theorem shf_at (bs : List Bool) (k j : Nat) (h : j < 8) : ((shf bs k).map Value.bool)[j]? = some (.bool (if k < j then bs.getD (j - 1) false else bs.getD j false)) := by
  simp [shf, h]
theorem shf_start (bs : List Bool) (h : bs.length = 8) : shf bs 7 = bs := by
  apply List.ext_getElem
  · simp [shf, h]
  · intro n h1 h2
    simp only [shf, List.getElem_map, List.getElem_range]
    rw [if_neg (by omega), List.getD_eq_getElem?_getD, List.getElem?_eq_getElem h2]
    rfl
theorem shf_step (bs : List Bool) (k : Nat) (hk : 1 ≤ k) (h7 : k ≤ 7) : ((shf bs k).map Value.bool).set k (.bool (bs.getD (k - 1) false)) = (shf bs (k - 1)).map Value.bool := by
  apply List.ext_getElem
  · simp [shf]
  · intro n h1 h2
    simp only [shf, List.getElem_set, List.getElem_map, List.getElem_range]
    by_cases e : k = n
    · subst e
      rw [if_pos rfl, if_pos (by omega)]
    · rw [if_neg e]
      by_cases c : k < n
      · rw [if_pos c, if_pos (by omega)]
      · rw [if_neg c, if_neg (by omega)]

/-- One turn of the register. -/
def turnL (bs : List Bool) : List Bool :=
  [bs.getD 7 false, bs.getD 0 false, bs.getD 1 false, bs.getD 2 false, !(bs.getD 3 false == bs.getD 7 false), !(bs.getD 4 false == bs.getD 7 false), !(bs.getD 5 false == bs.getD 7 false), bs.getD 6 false]
theorem turnL_length (bs : List Bool) : (turnL bs).length = 8 := rfl
theorem turnL_is (bs : List Bool) (out x4 x5 x6 : Bool) (h : out = bs.getD 7 false) (h4 : x4 = bs.getD 3 false) (h5 : x5 = bs.getD 4 false) (h6 : x6 = bs.getD 5 false) :
    (((((shf bs 0).map Value.bool).set 0 (.bool out)).set 4 (.bool !(x4 == out))).set 5 (.bool !(x5 == out))).set 6 (.bool !(x6 == out)) = (turnL bs).map Value.bool := by
  subst h h4 h5 h6
  rfl

set_option maxHeartbeats 1000000 in
theorem turn_any (g T : Nat) (bs : List Bool) (w : World) (hl : bs.length = 8) (hr : Row w g T (bs.map Value.bool)) :
    Calls Sacg.prog 38 #[.pointer (some ⟨g, 0, none⟩)] w fun e w' => e = .returned (.tuple #[]) ∧ Row w' g T ((turnL bs).map Value.bool) ∧ Only g w w' := by
  have h7 : w.cell? ⟨g, 7, none⟩ = some (.bool (bs.getD 7 false)) := by rw [hr.cell]; simp [hl]
  obtain ⟨out, ho⟩ : ∃ out, out = bs.getD 7 false := ⟨_, rfl⟩
  rw [← ho] at h7
  have HO : Hid (out = bs.getD 7 false) := ho
  clear ho
  go_enter Sacg.func38, Sacg.ntmps38
  go_wp2
  go_loopw [3] (fun i wr => ∃ k : Nat, k ≤ 7 ∧ i = .int .i64 k ∧ Row wr g T ((shf bs k).map Value.bool) ∧ Only g w wr) (fun i _ => (intOf i).toNat)
  case atStart => exact ⟨7, by omega, rfl, by rw [shf_start bs hl]; exact hr, Only.refl _ _⟩
  case round =>
    obtain ⟨k, hk, rfl, hrow, hon⟩ := hrel
    by_cases hlt : 0 < k
    · have hc : wr.cell? ⟨g, k - 1, none⟩ = some (.bool (bs.getD (k - 1) false)) := by rw [hrow.cell, shf_at bs k (k - 1) (by omega), if_neg (by omega)]
      obtain ⟨o2, hd⟩ : ∃ o2, wr.cell? ⟨g, k, none⟩ = some o2 := by rw [hrow.cell, shf_at bs k k (by omega)]; exact ⟨_, rfl⟩
      have hf := hrow.frozen k
      go_wp2
      go_region
      go_wp2
      go_roundw
      case rel =>
        refine ⟨k - 1, by omega, by go_num, ?_, (hon.set k _).drew⟩
        rw [← shf_step bs k hlt hk, List.getD_eq_getElem?_getD]
        exact (hrow.set k _).drew
      case measure => simp [intOf]; omega
    · obtain rfl : k = 0 := by omega
      obtain ⟨x0, e0⟩ : ∃ x0, x0 = bs.getD 0 false := ⟨_, rfl⟩
      obtain ⟨x4, e4⟩ : ∃ x4, x4 = bs.getD 3 false := ⟨_, rfl⟩
      obtain ⟨x5, e5⟩ : ∃ x5, x5 = bs.getD 4 false := ⟨_, rfl⟩
      obtain ⟨x6, e6⟩ : ∃ x6, x6 = bs.getD 5 false := ⟨_, rfl⟩
      have hd0 : wr.cell? ⟨g, 0, none⟩ = some (.bool x0) := by rw [hrow.cell, shf_at bs 0 0 (by omega), if_neg (by omega), e0]
      have hd4 : wr.cell? ⟨g, 4, none⟩ = some (.bool x4) := by rw [hrow.cell, shf_at bs 0 4 (by omega), if_pos (by omega), e4]
      have hd5 : wr.cell? ⟨g, 5, none⟩ = some (.bool x5) := by rw [hrow.cell, shf_at bs 0 5 (by omega), if_pos (by omega), e5]
      have hd6 : wr.cell? ⟨g, 6, none⟩ = some (.bool x6) := by rw [hrow.cell, shf_at bs 0 6 (by omega), if_pos (by omega), e6]
      have hf0 := hrow.frozen 0
      have hf4 := hrow.frozen 4
      have hf5 := hrow.frozen 5
      have hf6 := hrow.frozen 6
      have HR : Hid (Row ((((wr.setCell ⟨g, 0, none⟩ (.bool out)).setCell ⟨g, 4, none⟩ (.bool !(x4 == out))).setCell ⟨g, 5, none⟩ (.bool !(x5 == out))).setCell ⟨g, 6, none⟩ (.bool !(x6 == out))) g T ((turnL bs).map Value.bool)) := by
        have HR := ((((hrow.set 0 (.bool out)).set 4 (.bool !(x4 == out))).set 5 (.bool !(x5 == out))).set 6 (.bool !(x6 == out)))
        rw [turnL_is bs out x4 x5 x6 HO.out e4 e5 e6] at HR
        exact HR
      have HN : Hid (Only g w ((((wr.setCell ⟨g, 0, none⟩ (.bool out)).setCell ⟨g, 4, none⟩ (.bool !(x4 == out))).setCell ⟨g, 5, none⟩ (.bool !(x5 == out))).setCell ⟨g, 6, none⟩ (.bool !(x6 == out)))) :=
        ((((hon.set 0 (.bool out)).set 4 (.bool !(x4 == out))).set 5 (.bool !(x5 == out))).set 6 (.bool !(x6 == out)))
      clear hrow hon e0 e4 e5 e6 hl hr h7 HO
      go_wp2
      go_region
      go_wp2
      go_region
      go_wp2
      go_region
      go_wp2
      go_end0
      exact ⟨rfl, HR.out, HN.out.drew.drew.drew⟩
end Go.Proofs.Ygcsac.kec
