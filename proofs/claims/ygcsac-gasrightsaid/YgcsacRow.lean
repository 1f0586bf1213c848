/- A ROW OF CELLS IN A BLOCK THAT IS KNOWN WHOLE, AND 'ONLY BLOCK g HAS TURNED': small laws on worlds. -/
import Derived.WalkKit
import Derived.ProofKit
import Derived.Deep.Draws
namespace Go.Proofs.Ygcsac
open Go.RowKit

/-- Block g is a row of cells xs, none of them frozen. -/
def Row (w : World) (g : Nat) (T : TypeId) (xs : List Value) : Prop := w.heap[g]? = some (.cells xs.toArray T (0, 0))
theorem Row.lt {w : World} {g : Nat} {T : TypeId} {xs : List Value} (h : Row w g T xs) : g < w.heap.size := by
  unfold Row at h
  exact (Array.getElem?_eq_some_iff.1 h).1
theorem Row.cell {w : World} {g : Nat} {T : TypeId} {xs : List Value} (h : Row w g T xs) (j : Nat) : w.cell? ⟨g, j, none⟩ = xs[j]? := by
  unfold Row at h
  simp [World.cell?, h]
theorem Row.frozen {w : World} {g : Nat} {T : TypeId} {xs : List Value} (h : Row w g T xs) (j : Nat) : w.frozen? ⟨g, j, none⟩ = false := by
  unfold Row at h
  simp [World.frozen?, h]
theorem Row.drew {w : World} {g : Nat} {T : TypeId} {xs : List Value} (h : Row w g T xs) : Row w.drew g T xs := h
theorem Row.drewN {w : World} {g : Nat} {T : TypeId} {xs : List Value} (h : Row w g T xs) (n : Nat) : Row (w.drewN n) g T xs := h
theorem Row.set {w : World} {g : Nat} {T : TypeId} {xs : List Value} (h : Row w g T xs) (j : Nat) (v : Value) : Row (w.setCell ⟨g, j, none⟩ v) g T (xs.set j v) := by
  unfold Row at *
  rw [setCell_eq_setRow w g j _ T _ v h]
  rw [setRow_heap w g _ _ T _ h]
  simp
theorem Row.alloc {w : World} {g : Nat} {T : TypeId} {xs : List Value} (h : Row w g T xs) (o : Obj) : Row (w.alloc o) g T xs := by
  have := h.lt
  unfold Row at *
  rw [Below.heap_alloc w o g this, h]
theorem Row.new (w : World) (T : TypeId) (xs : List Value) : Row (w.alloc (.cells xs.toArray T)) w.heap.size T xs := by
  unfold Row
  exact (MapKept.heap_alloc w _).1

/-- Nothing but block g has turned. -/
structure Only (g : Nat) (w w' : World) : Prop where
  os : w'.os = w.os
  tape : w'.tape = w.tape
  output : w'.output = w.output
  size : w'.heap.size = w.heap.size
  block : ∀ k, k ≠ g → w'.heap[k]? = w.heap[k]?
theorem Only.refl (g : Nat) (w : World) : Only g w w := ⟨rfl, rfl, rfl, rfl, fun _ _ => rfl⟩
theorem Only.trans {g : Nat} {a b c : World} (h : Only g a b) (k : Only g b c) : Only g a c :=
  ⟨k.os.trans h.os, k.tape.trans h.tape, k.output.trans h.output, k.size.trans h.size, fun i hi => (k.block i hi).trans (h.block i hi)⟩
theorem Only.drew {g : Nat} {a b : World} (h : Only g a b) : Only g a b.drew := ⟨h.os, h.tape, h.output, h.size, h.block⟩
theorem Only.drewN {g : Nat} {a b : World} (h : Only g a b) (n : Nat) : Only g a (b.drewN n) := ⟨h.os, h.tape, h.output, h.size, h.block⟩
theorem Only.set {g : Nat} {a b : World} (h : Only g a b) (j : Nat) (v : Value) : Only g a (b.setCell ⟨g, j, none⟩ v) :=
  ⟨h.os, h.tape, h.output, by simpa using h.size, fun k hk => (Below.heap_setCell b ⟨g, j, none⟩ v k hk).trans (h.block k hk)⟩
theorem Only.row {g : Nat} {a b : World} (h : Only g a b) {k : Nat} {T : TypeId} {xs : List Value} (hr : Row a k T xs) (hk : k ≠ g) : Row b k T xs := by
  unfold Row at *
  rw [h.block k hk, hr]
theorem Only.below {g B : Nat} {a b : World} (h : Only g a b) (hB : B ≤ g) : Below B a b :=
  ⟨h.os, h.tape, h.output, by rw [h.size]; exact Nat.le_refl _, fun k hk => h.block k (by omega)⟩
theorem Only.cell {g : Nat} {a b : World} (h : Only g a b) {p : Addr} (hp : p.block ≠ g) : b.cell? p = a.cell? p := World.cell?_of_block (h.block p.block hp)
theorem Below.row {B : Nat} {a b : World} (h : Below B a b) {k : Nat} {T : TypeId} {xs : List Value} (hr : Row a k T xs) (hk : k < B) : Row b k T xs := by
  unfold Row at *
  rw [h.block k hk, hr]
end Go.Proofs.Ygcsac
