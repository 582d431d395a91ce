/- Walks: pieces. -/
import Derived.Test.YthbdcmaloojngaaDoorW1
set_option linter.unusedVariables false
namespace Go.Proofs.YthbdcmaloojngaaDoor
open Go.RowKit

def pieceR (p : Pc) : Bool := textV (bs p.2) && (prOf (bs p.2) == p.1)
theorem below1 {w : World} (o : Obj) (n : Nat) : Below w.heap.size w ((w.alloc o).drewN n) := Below_drewN ((Below.refl _ _).alloc (Nat.le_refl _) o) n

def szT (left n : Int) : Int := if left < n then -1 else left - n
theorem below3 {w : World} (o1 o2 o3 : Obj) : Below w.heap.size w (((w.alloc o1).alloc o2).alloc o3) :=
  (((Below.refl _ _).alloc (Nat.le_refl _) o1).alloc (by simp) o2).alloc (by simp; omega) o3
theorem box_cell {w w1 : World} {cs : Array Value} {E : TypeId} (hb : Below (w.alloc (.cells cs E)).heap.size (w.alloc (.cells cs E)) w1) (k : Nat) {u : Value} (hu : cs[k]? = some u) : w1.cell? ⟨w.heap.size, k, none⟩ = some u := by
  rw [hb.cell (p := ⟨w.heap.size, k, none⟩) (by simp), cell_of_row _ _ k _ E (0, 0) (heap_alloc_new w _)]; exact hu

end Go.Proofs.YthbdcmaloojngaaDoor
