/- Slices of numbers and of strings, as a law copies, measures, compares and marks them: in one shape with slices of structs. -/
import Derived.Test.YtjadgjlidejjpaaSt
import Derived.Test.YtjadgjlidejjpaaL8a
set_option linter.unusedVariables false
namespace Go.Proofs.Ytjadgjlidejjpaa
open Go.RowKit

/-! ### marks of strings -/
def markStrL (k n : Nat) : List ByteArray := (List.range n).map fun j => mk (markT (k + j))
theorem markStrL_len (k n : Nat) : (markStrL k n).length = n := by simp [markStrL]
theorem markStrL_succ (k n : Nat) : markStrL k (n + 1) = markStrL k n ++ [mk (markT (k + n))] := by simp [markStrL, List.range_succ]
theorem markStrL_at {k n j : Nat} (h : j < n) : (markStrL k n)[j]'(by rw [markStrL_len]; exact h) = mk (markT (k + j)) := by simp [markStrL]
end Go.Proofs.Ytjadgjlidejjpaa
