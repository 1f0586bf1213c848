/- yp.Sstore at whatever naturals: the plain rule. -/
import Derived.Test.YgcsacSstA
import Derived.Test.YgcsacSstB
import Derived.Test.YgcsacSstT
namespace Go.Proofs.Ygcsac
open Go.RowKit

theorem cmp_yes {x y : Int} (h : x = y) : (cmpZ x y == 0) = true := by rw [cmpZ_eq h]; rfl
theorem cmp_no {x y : Int} (h : ¬ x = y) : (cmpZ x y == 0) = false := by rw [cmpZ_beq]; exact beq_eq_false_iff_ne.2 h
theorem zer_yes {x : Int} (h : x = 0) : (x == 0) = true := beq_iff_eq.2 h
theorem zer_no {x : Int} (h : ¬ x = 0) : (x == 0) = false := beq_eq_false_iff_ne.2 h
theorem Sst3.at {w w' : World} {C P M C' P' M' : Int} {e : Ending} (h : Sst3 w C P M e w') (h1 : C' = C) (h2 : P' = P) (h3 : M' = M) : Sst3 w C' P' M' e w' := by
  subst h1 h2 h3; exact h

theorem sstore_any (w : World) (oo vo no : Option Addr) (on vn nn : Nat) (zo zv zn : List Int) (cold : Bool) (bo : on ≤ 1000) (bv : vn ≤ 1000) (bn : nn ≤ 1000) (ho : NatAt w oo on zo) (hv : NatAt w vo vn zv) (hn : NatAt w no nn zn) :
    Calls Sacg.prog 15 #[.slice oo on on, .slice vo vn vn, .slice no nn nn, .bool cold] w fun e w' => Sst3 w (sstC (val zo) (val zv) (val zn) cold) (sstP (val zo) (val zv) (val zn)) (sstM (val zo) (val zv) (val zn)) e w' := by
  by_cases h_same : val zn = val zv
  · by_cases h_first : val zv = val zo
    · cases cold
      · exact (sstore_same_first_warm w oo vo no on vn nn zo zv zn bo bv bn ho hv hn (cmp_yes h_same) (cmp_yes h_first)).mono fun e w' h => h.at (by unfold sstC; (repeat' split) <;> first | omega | contradiction) (by unfold sstP; (repeat' split) <;> omega) (by unfold sstM; (repeat' split) <;> omega)
      · exact (sstore_same_first_cold w oo vo no on vn nn zo zv zn bo bv bn ho hv hn (cmp_yes h_same) (cmp_yes h_first)).mono fun e w' h => h.at (by unfold sstC; (repeat' split) <;> first | omega | contradiction) (by unfold sstP; (repeat' split) <;> omega) (by unfold sstM; (repeat' split) <;> omega)
    · cases cold
      · exact (sstore_same_not_warm w oo vo no on vn nn zo zv zn bo bv bn ho hv hn (cmp_yes h_same) (cmp_no h_first)).mono fun e w' h => h.at (by unfold sstC; (repeat' split) <;> first | omega | contradiction) (by unfold sstP; (repeat' split) <;> omega) (by unfold sstM; (repeat' split) <;> omega)
      · exact (sstore_same_not_cold w oo vo no on vn nn zo zv zn bo bv bn ho hv hn (cmp_yes h_same) (cmp_no h_first)).mono fun e w' h => h.at (by unfold sstC; (repeat' split) <;> first | omega | contradiction) (by unfold sstP; (repeat' split) <;> omega) (by unfold sstM; (repeat' split) <;> omega)
  by_cases h_first : val zv = val zo
  · by_cases h_oz : val zo = 0
    · cases cold
      · exact (sstore_first_oz_warm w oo vo no on vn nn zo zv zn bo bv bn ho hv hn (cmp_no h_same) (cmp_yes h_first) (zer_yes h_oz)).mono fun e w' h => h.at (by unfold sstC; (repeat' split) <;> first | omega | contradiction) (by unfold sstP; (repeat' split) <;> omega) (by unfold sstM; (repeat' split) <;> omega)
      · exact (sstore_first_oz_cold w oo vo no on vn nn zo zv zn bo bv bn ho hv hn (cmp_no h_same) (cmp_yes h_first) (zer_yes h_oz)).mono fun e w' h => h.at (by unfold sstC; (repeat' split) <;> first | omega | contradiction) (by unfold sstP; (repeat' split) <;> omega) (by unfold sstM; (repeat' split) <;> omega)
    by_cases h_nz : val zn = 0
    · cases cold
      · exact (sstore_first_nz_warm w oo vo no on vn nn zo zv zn bo bv bn ho hv hn (cmp_no h_same) (cmp_yes h_first) (zer_no h_oz) (zer_yes h_nz)).mono fun e w' h => h.at (by unfold sstC; (repeat' split) <;> first | omega | contradiction) (by unfold sstP; (repeat' split) <;> omega) (by unfold sstM; (repeat' split) <;> omega)
      · exact (sstore_first_nz_cold w oo vo no on vn nn zo zv zn bo bv bn ho hv hn (cmp_no h_same) (cmp_yes h_first) (zer_no h_oz) (zer_yes h_nz)).mono fun e w' h => h.at (by unfold sstC; (repeat' split) <;> first | omega | contradiction) (by unfold sstP; (repeat' split) <;> omega) (by unfold sstM; (repeat' split) <;> omega)
    · cases cold
      · exact (sstore_first_else_warm w oo vo no on vn nn zo zv zn bo bv bn ho hv hn (cmp_no h_same) (cmp_yes h_first) (zer_no h_oz) (zer_no h_nz)).mono fun e w' h => h.at (by unfold sstC; (repeat' split) <;> first | omega | contradiction) (by unfold sstP; (repeat' split) <;> omega) (by unfold sstM; (repeat' split) <;> omega)
      · exact (sstore_first_else_cold w oo vo no on vn nn zo zv zn bo bv bn ho hv hn (cmp_no h_same) (cmp_yes h_first) (zer_no h_oz) (zer_no h_nz)).mono fun e w' h => h.at (by unfold sstC; (repeat' split) <;> first | omega | contradiction) (by unfold sstP; (repeat' split) <;> omega) (by unfold sstM; (repeat' split) <;> omega)
  by_cases h_no : val zn = val zo
  · by_cases h_oz : val zo = 0
    · cases cold
      · exact (sstore_oz_no_warm w oo vo no on vn nn zo zv zn bo bv bn ho hv hn (cmp_no h_same) (cmp_no h_first) (zer_yes h_oz) (cmp_yes h_no)).mono fun e w' h => h.at (by unfold sstC; (repeat' split) <;> first | omega | contradiction) (by unfold sstP; (repeat' split) <;> omega) (by unfold sstM; (repeat' split) <;> omega)
      · exact (sstore_oz_no_cold w oo vo no on vn nn zo zv zn bo bv bn ho hv hn (cmp_no h_same) (cmp_no h_first) (zer_yes h_oz) (cmp_yes h_no)).mono fun e w' h => h.at (by unfold sstC; (repeat' split) <;> first | omega | contradiction) (by unfold sstP; (repeat' split) <;> omega) (by unfold sstM; (repeat' split) <;> omega)
    by_cases h_vz : val zv = 0
    · cases cold
      · exact (sstore_vz_no_warm w oo vo no on vn nn zo zv zn bo bv bn ho hv hn (cmp_no h_same) (cmp_no h_first) (zer_no h_oz) (zer_yes h_vz) (cmp_yes h_no)).mono fun e w' h => h.at (by unfold sstC; (repeat' split) <;> first | omega | contradiction) (by unfold sstP; (repeat' split) <;> omega) (by unfold sstM; (repeat' split) <;> omega)
      · exact (sstore_vz_no_cold w oo vo no on vn nn zo zv zn bo bv bn ho hv hn (cmp_no h_same) (cmp_no h_first) (zer_no h_oz) (zer_yes h_vz) (cmp_yes h_no)).mono fun e w' h => h.at (by unfold sstC; (repeat' split) <;> first | omega | contradiction) (by unfold sstP; (repeat' split) <;> omega) (by unfold sstM; (repeat' split) <;> omega)
    by_cases h_nz : val zn = 0
    · exact absurd (h_no.symm.trans h_nz) h_oz
    · cases cold
      · exact (sstore_else_no_warm w oo vo no on vn nn zo zv zn bo bv bn ho hv hn (cmp_no h_same) (cmp_no h_first) (zer_no h_oz) (zer_no h_vz) (zer_no h_nz) (cmp_yes h_no)).mono fun e w' h => h.at (by unfold sstC; (repeat' split) <;> first | omega | contradiction) (by unfold sstP; (repeat' split) <;> omega) (by unfold sstM; (repeat' split) <;> omega)
      · exact (sstore_else_no_cold w oo vo no on vn nn zo zv zn bo bv bn ho hv hn (cmp_no h_same) (cmp_no h_first) (zer_no h_oz) (zer_no h_vz) (zer_no h_nz) (cmp_yes h_no)).mono fun e w' h => h.at (by unfold sstC; (repeat' split) <;> first | omega | contradiction) (by unfold sstP; (repeat' split) <;> omega) (by unfold sstM; (repeat' split) <;> omega)
  · by_cases h_oz : val zo = 0
    · cases cold
      · exact (sstore_oz_else_warm w oo vo no on vn nn zo zv zn bo bv bn ho hv hn (cmp_no h_same) (cmp_no h_first) (zer_yes h_oz) (cmp_no h_no)).mono fun e w' h => h.at (by unfold sstC; (repeat' split) <;> first | omega | contradiction) (by unfold sstP; (repeat' split) <;> omega) (by unfold sstM; (repeat' split) <;> omega)
      · exact (sstore_oz_else_cold w oo vo no on vn nn zo zv zn bo bv bn ho hv hn (cmp_no h_same) (cmp_no h_first) (zer_yes h_oz) (cmp_no h_no)).mono fun e w' h => h.at (by unfold sstC; (repeat' split) <;> first | omega | contradiction) (by unfold sstP; (repeat' split) <;> omega) (by unfold sstM; (repeat' split) <;> omega)
    by_cases h_vz : val zv = 0
    · cases cold
      · exact (sstore_vz_else_warm w oo vo no on vn nn zo zv zn bo bv bn ho hv hn (cmp_no h_same) (cmp_no h_first) (zer_no h_oz) (zer_yes h_vz) (cmp_no h_no)).mono fun e w' h => h.at (by unfold sstC; (repeat' split) <;> first | omega | contradiction) (by unfold sstP; (repeat' split) <;> omega) (by unfold sstM; (repeat' split) <;> omega)
      · exact (sstore_vz_else_cold w oo vo no on vn nn zo zv zn bo bv bn ho hv hn (cmp_no h_same) (cmp_no h_first) (zer_no h_oz) (zer_yes h_vz) (cmp_no h_no)).mono fun e w' h => h.at (by unfold sstC; (repeat' split) <;> first | omega | contradiction) (by unfold sstP; (repeat' split) <;> omega) (by unfold sstM; (repeat' split) <;> omega)
    by_cases h_nz : val zn = 0
    · cases cold
      · exact (sstore_nz_warm w oo vo no on vn nn zo zv zn bo bv bn ho hv hn (cmp_no h_same) (cmp_no h_first) (zer_no h_oz) (zer_no h_vz) (zer_yes h_nz) (cmp_no h_no)).mono fun e w' h => h.at (by unfold sstC; (repeat' split) <;> first | omega | contradiction) (by unfold sstP; (repeat' split) <;> omega) (by unfold sstM; (repeat' split) <;> omega)
      · exact (sstore_nz_cold w oo vo no on vn nn zo zv zn bo bv bn ho hv hn (cmp_no h_same) (cmp_no h_first) (zer_no h_oz) (zer_no h_vz) (zer_yes h_nz) (cmp_no h_no)).mono fun e w' h => h.at (by unfold sstC; (repeat' split) <;> first | omega | contradiction) (by unfold sstP; (repeat' split) <;> omega) (by unfold sstM; (repeat' split) <;> omega)
    · cases cold
      · exact (sstore_else_else_warm w oo vo no on vn nn zo zv zn bo bv bn ho hv hn (cmp_no h_same) (cmp_no h_first) (zer_no h_oz) (zer_no h_vz) (zer_no h_nz) (cmp_no h_no)).mono fun e w' h => h.at (by unfold sstC; (repeat' split) <;> first | omega | contradiction) (by unfold sstP; (repeat' split) <;> omega) (by unfold sstM; (repeat' split) <;> omega)
      · exact (sstore_else_else_cold w oo vo no on vn nn zo zv zn bo bv bn ho hv hn (cmp_no h_same) (cmp_no h_first) (zer_no h_oz) (zer_no h_vz) (zer_no h_nz) (cmp_no h_no)).mono fun e w' h => h.at (by unfold sstC; (repeat' split) <;> first | omega | contradiction) (by unfold sstP; (repeat' split) <;> omega) (by unfold sstM; (repeat' split) <;> omega)
end Go.Proofs.Ygcsac
