/- A tag that came in, opened. -/
import Derived.Test.YtbefbenihahdnaaOpen2
set_option linter.unusedVariables false
namespace Go.Proofs.Ytbefbenihahdnaa
open Go.ChangeShapes Go.WideShapes Go.ChangeAt Go.RowKit
open Go.ChangeMaps (open_string shut_string)
section
variable {H : Type} {enc : TypeId × Value → H} {W : World} {a : Option Addr} {n c : Nat} {d : DataW H} {p : List MemPlace}
def TagIn (v : Value) : Prop := ∃ (t : ByteArray) (x y z : Int), v = .agg #[.string t, .int .i64 x, .int .i64 y, .int .i64 z] ∧ t.size ≤ maxLen
set_option maxRecDepth 100000 in
theorem openTag {base : Nat} {v : Value} (hv : Value.okWide Try.prog W .any base 89 v) (h : DataW.Trod enc Try.prog W 0 (fun _ => true) true 89 v d p) : TagIn v := by
  obtain ⟨v0, v1, v2, v3, y0, y1, y2, y3, m, rfl, rfl, rfl, h0, h1, h2, h3⟩ := Go.Joins.open_agg4 Try.underlying89 (by kernel_rfl) (by kernel_rfl) hv h
  obtain ⟨t, e0, _, ht⟩ := DataW.trod_string Try.underlying9 h0
  obtain ⟨x, e1, _, _⟩ := DataW.trod_int Try.underlying3 h1
  obtain ⟨y, e2, _, _⟩ := DataW.trod_int Try.underlying3 h2
  obtain ⟨z, e3, _, _⟩ := DataW.trod_int Try.underlying3 h3
  simp at e0 e1 e2 e3
  subst e0 e1 e2 e3
  exact ⟨t, x, y, z, rfl, ht⟩
end
end Go.Proofs.Ytbefbenihahdnaa
