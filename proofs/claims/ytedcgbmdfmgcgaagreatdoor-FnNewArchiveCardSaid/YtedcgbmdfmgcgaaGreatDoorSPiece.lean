/- Pieces: copies, sizes, comparisons and marks of their slices, as laws make them. Written by structgen.py. -/
import Derived.Test.YtedcgbmdfmgcgaaGreatDoorGa1
set_option linter.unusedVariables false
namespace Go.Proofs.YtedcgbmdfmgcgaaGreatDoor
open Go.RowKit

theorem encP_info : (Tryz.prog.info? 83).map (fun i => (i.zero, i.size, i.bytes)) = some (some (.agg #[.int .i64 0, .string ⟨#[]⟩]), 2, 24) := pc_info
def markPieceL (k n : Nat) : List Pc := (List.range n).map fun j => (((k + 2 * j + 0 : Nat) : Int), mk (markT (k + 2 * j + 1)))
theorem markPieceL_len (k n : Nat) : (markPieceL k n).length = n := by simp [markPieceL]
theorem markPieceL_succ (k n : Nat) : markPieceL k (n + 1) = markPieceL k n ++ [(((k + 2 * n + 0 : Nat) : Int), mk (markT (k + 2 * n + 1)))] := by simp [markPieceL, List.range_succ]
theorem markPieceL_at {k n j : Nat} (h : j < n) : (markPieceL k n)[j]'(by rw [markPieceL_len]; exact h) = (((k + 2 * j + 0 : Nat) : Int), mk (markT (k + 2 * j + 1))) := by simp [markPieceL]
/-- What is told of a slice of such structs that came in. -/
def PiecesIn (w : World) (A : Option Addr) (n c : Nat) : Prop := ∃ l : List Pc, l.length = n ∧ n ≤ c ∧ c ≤ maxLen ∧ Sl w encP 2 A l ∧ ∀ p ∈ l, p.2.size ≤ maxLen
end Go.Proofs.YtedcgbmdfmgcgaaGreatDoor
