/- Drawn stores: paths, contents, steps, stores; BundlePrint's and BundleLines' inputs. -/
import Derived.Test.YtkglfmgmmnfmbaaGreatDoorS3
import Derived.Test.YtkglfmgmmnfmbaaGreatDoorGb7
import Derived.Test.YtkglfmgmmnfmbaaGreatDoorGa4
import Derived.Test.YtkglfmgmmnfmbaaGreatDoorGa8
set_option linter.unusedVariables false
namespace Go.Proofs.YtkglfmgmmnfmbaaGreatDoor
open Go.RowKit
/-- What is known of a drawn store. -/
structure StOk (n : Int) (l : List Pc) (root : Int) : Prop where
  good : storeV l = true → Good NoZ l
  fit : ∀ q ∈ l, q.2.size ≤ 60
  len : l.length ≤ 41
  pos : 0 < l.length
  drawn : n = 0 → ∃ k, k ≤ 5 ∧ DrawnS k l root
theorem store_fit60 {l : List Pc} (h : storeV l = true) : ∀ q ∈ l, q.2.size ≤ 60 := fun q hq => textV_size (pieceOk_iff.1 (storeV_piece h hq)).1
/-! ### one piece more, in whatever order -/
abbrev rowPc (y : Pc) : Obj := .cells #[.int .i64 y.1, .string y.2] 107
def RowPc (w : World) (g : Nat) (y : Pc) : Prop := w.cell? ⟨g, 0, none⟩ = some (.int .i64 y.1) ∧ w.cell? ⟨g, 1, none⟩ = some (.string y.2)
theorem RowPc.new (w : World) (y : Pc) : RowPc (w.alloc (rowPc y)) w.heap.size y := ⟨new_cell rfl, new_cell rfl⟩
theorem RowPc.alloc {w : World} {g : Nat} {y : Pc} (h : RowPc w g y) (x : Obj) : RowPc (w.alloc x) g y := ⟨cell_alloc h.1, cell_alloc h.2⟩
theorem RowPc.grew {w w' : World} {g : Nat} {y : Pc} {v : Value} (h : RowPc w g y) (hg : Grew v w w') (hv : v.ownBlock ≠ some g) : RowPc w' g y := ⟨hg.cell hv h.1, hg.cell hv h.2⟩
theorem RowPc.below {w w' : World} {g : Nat} {y : Pc} (h : RowPc w g y) (hb : Below w.heap.size w w') : RowPc w' g y := ⟨Below_cells hb _ _ _ h.1, Below_cells hb _ _ _ h.2⟩
section
variable {ops : Array Oper} {rest : List Oper} {o : Oper} {a : Act} {K : Act → World → Prop} {Q : Exit → Act → World → Prop} {E' : Prop} {w0 w1 wr : World} {l m : List Pc} {A : Option Addr} {c : Nat} {y : Pc} {s x : Operand} {v : Value}
end
end Go.Proofs.YtkglfmgmmnfmbaaGreatDoor
