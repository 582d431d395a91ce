/- Arguments that came in, opened: structs by value, slices of strings, numbers, structs. -/
import Derived.Test.YtbefbenihahdnaaOpen
import Derived.Lib.SmallJoins
set_option linter.unusedVariables false
namespace Go.Proofs.Ytbefbenihahdnaa
open Go.ChangeShapes Go.WideShapes Go.ChangeAt Go.RowKit
open Go.ChangeMaps (open_string shut_string)
section
variable {H : Type} {enc : TypeId × Value → H} {W : World} {a : Option Addr} {n c : Nat} {d : DataW H} {p : List MemPlace}

set_option maxRecDepth 100000 in
theorem openPiece {base : Nat} {v : Value} (hv : Value.okWide Try.prog W .any base 27 v) (h : DataW.Trod enc Try.prog W 0 (fun _ => true) true 27 v d p) :
    ∃ (x : Int) (t : ByteArray), v = .agg #[.int .i64 x, .string t] ∧ t.size ≤ maxLen := by
  obtain ⟨v0, v1, y0, y1, m, rfl, rfl, rfl, h0, h1⟩ := Go.Joins.open_agg2 Try.underlying27 (by kernel_rfl) (by kernel_rfl) hv h
  obtain ⟨x, e0, _, _⟩ := DataW.trod_int Try.underlying3 h0
  obtain ⟨t, e1, _, ht⟩ := DataW.trod_string Try.underlying9 h1
  simp at e0 e1
  subst e0 e1
  exact ⟨x, t, rfl, ht⟩
end
end Go.Proofs.Ytbefbenihahdnaa
