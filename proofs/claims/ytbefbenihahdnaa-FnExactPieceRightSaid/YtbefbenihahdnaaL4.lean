/- Laws' walks: FnExactPieceRight. -/
import Derived.Test.YtbefbenihahdnaaL1
import Derived.Test.YtbefbenihahdnaaDr3
set_option linter.unusedVariables false
namespace Go.Proofs.Ytbefbenihahdnaa
open Go.RowKit

theorem wFnExactPieceRight (v : Value) (w : World) (h : ∃ (x : Int) (t : ByteArray), v = .agg #[.int .i64 x, .string t] ∧ t.size ≤ maxLen) : Calls Try.prog 5 #[v] w (LawOk w) := by
  obtain ⟨x, t, rfl, ht⟩ := h
  exact wFnExactPieceRight_at x t w ht
end Go.Proofs.Ytbefbenihahdnaa
