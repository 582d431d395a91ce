/- Drawn inputs: texts, some of which are none; lists of texts. -/
import Derived.Test.YtkglfmgmmnfmbaaDoorGa8
import Derived.Test.YtkglfmgmmnfmbaaDoorGa9
import Derived.Deep.RegionWith
set_option linter.unusedVariables false
namespace Go.Proofs.YtkglfmgmmnfmbaaDoor
open Go.RowKit

/-- A block of the call's own, which is not the reader's. -/
def Blk (W : World) (g b : Nat) (cs : Array Value) (E : TypeId) : Prop := b ≠ g ∧ W.heap[b]? = some (.cells cs E (0, 0))
theorem Blk.only {W W' : World} {g b : Nat} {cs : Array Value} {E : TypeId} (h : Blk W g b cs E) (ho : Only g W W') : Blk W' g b cs E :=
  ⟨h.1, (ho.block b (Array.getElem?_eq_some_iff.1 h.2).1 (by intro e; injection e with e; exact h.1 e)).trans h.2⟩
theorem Blk.new {W : World} {g : Nat} {cs : Array Value} {E : TypeId} (hg : g < W.heap.size) : Blk (W.alloc (.cells cs E)) g W.heap.size cs E := ⟨by omega, heap_alloc_new W _⟩
theorem Blk.cell {W : World} {g b k : Nat} {cs : Array Value} {E : TypeId} {u : Value} (h : Blk W g b cs E) (hu : cs[k]? = some u) : W.cell? ⟨b, k, none⟩ = some u := by
  rw [cell_of_row W b k cs E _ h.2]; exact hu
theorem only_alloc (g : Nat) (W : World) (o : Obj) : Only g W (W.alloc o) := Only.of_below ((Below.refl _ _).alloc (Nat.le_refl _) o)
end Go.Proofs.YtkglfmgmmnfmbaaDoor
