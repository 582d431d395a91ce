/- Drawn inputs: names, prints, and the like. -/
import Derived.Test.YtjadgjlidejjpaaDoorRd
set_option linter.unusedVariables false
namespace Go.Proofs.YtjadgjlidejjpaaDoor
open Go.RowKit

def ShortStr (m : Nat) (v : Value) : Prop := ∃ s : ByteArray, v = .string s ∧ s.size ≤ m
theorem size_lit (a : Array UInt8) : (ByteArray.mk a).size = a.size := rfl

theorem lit_cell {w w1 : World} {g : Nat} {cs : Array Value} {E : TypeId} (ho : Only g (w.alloc (.cells cs E)) w1) (hg : g < w.heap.size) {k : Nat} {u : Value} (hu : cs[k]? = some u) : w1.cell? ⟨w.heap.size, k, none⟩ = some u :=
  ho.cell (by omega) (by rw [cell_of_row _ _ k _ E (0, 0) (heap_alloc_new w _)]; exact hu)

def shortB (m : Nat) : Value → Bool | .string s => decide (s.size ≤ m) | _ => false
def intB (lo hi : Int) : Value → Bool | .int .i64 n => decide (lo ≤ n) && decide (n ≤ hi) | _ => false
theorem shortB_iff {m : Nat} {v : Value} (h : shortB m v = true) : ∃ s, v = .string s ∧ s.size ≤ m := by
  unfold shortB at h; split at h
  · exact ⟨_, rfl, by simpa using h⟩
  · cases h
theorem intB_iff {lo hi : Int} {v : Value} (h : intB lo hi v = true) : ∃ n, v = .int .i64 n ∧ lo ≤ n ∧ n ≤ hi := by
  unfold intB at h; split at h
  · exact ⟨_, rfl, by simpa using h⟩
  · cases h
/-- A drawn result of a 'Draw..' function: no memory that was there has turned. -/
def Drawn (P : Value → Prop) (w : World) (e : Ending) (w' : World) : Prop := ∃ v, e = .returned v ∧ P v ∧ Below w.heap.size w w'
end Go.Proofs.YtjadgjlidejjpaaDoor
