/- Tags: copies, sizes, comparisons and marks of their slices, as laws make them. Written by structgen.py. -/
import Derived.Test.YtjadgjlidejjpaaDoorSt
set_option linter.unusedVariables false
namespace Go.Proofs.YtjadgjlidejjpaaDoor
open Go.RowKit

def markTagL (k n : Nat) : List Tg := (List.range n).map fun j => (mk (markT (k + 4 * j + 0)), ((k + 4 * j + 1 : Nat) : Int), ((k + 4 * j + 2 : Nat) : Int), ((k + 4 * j + 3 : Nat) : Int))
theorem markTagL_len (k n : Nat) : (markTagL k n).length = n := by simp [markTagL]
theorem markTagL_succ (k n : Nat) : markTagL k (n + 1) = markTagL k n ++ [(mk (markT (k + 4 * n + 0)), ((k + 4 * n + 1 : Nat) : Int), ((k + 4 * n + 2 : Nat) : Int), ((k + 4 * n + 3 : Nat) : Int))] := by simp [markTagL, List.range_succ]
theorem markTagL_at {k n j : Nat} (h : j < n) : (markTagL k n)[j]'(by rw [markTagL_len]; exact h) = (mk (markT (k + 4 * j + 0)), ((k + 4 * j + 1 : Nat) : Int), ((k + 4 * j + 2 : Nat) : Int), ((k + 4 * j + 3 : Nat) : Int)) := by simp [markTagL]
/-- What is told of a slice of such structs that came in. -/
def TagsIn (w : World) (A : Option Addr) (n c : Nat) : Prop := ∃ l : List Tg, l.length = n ∧ n ≤ c ∧ c ≤ maxLen ∧ Sl w encT 4 A l ∧ ∀ p ∈ l, p.1.size ≤ maxLen
end Go.Proofs.YtjadgjlidejjpaaDoor
