/- Walks: pieces. -/
import Derived.Test.YtjadgjlidejjpaaDoorW1
set_option linter.unusedVariables false
namespace Go.Proofs.YtjadgjlidejjpaaDoor
open Go.RowKit

def pieceR (p : Pc) : Bool := textV (bs p.2) && (prOf (bs p.2) == p.1)
theorem below1 {w : World} (o : Obj) (n : Nat) : Below w.heap.size w ((w.alloc o).drewN n) := Below_drewN ((Below.refl _ _).alloc (Nat.le_refl _) o) n

def szT (left n : Int) : Int := if left < n then -1 else left - n
set_option maxHeartbeats 2000000 in
set_option maxRecDepth 100000 in
theorem szPiece_any (a left : Int) (t : ByteArray) (w : World) (hs : t.size ≤ maxLen) (h0 : 0 ≤ left) (h1 : left ≤ 1048576) :
    Calls Tryd.prog 13 #[.agg #[.int .i64 a, .string t], .int .i64 left] w fun e w' => e = .returned (.int .i64 (szT left t.size)) ∧ Below w.heap.size w w' := by
  unfold maxLen at hs
  by_cases h : left < t.size
  · have e : szT left t.size = -1 := by unfold szT; rw [if_pos h]
    rw [e]; clear e
    go_enter Tryd.func13, Tryd.ntmps13
    go_wp2
    go_ret
    exact ⟨rfl, below1 _ 0⟩
  · have e : szT left t.size = left - t.size := by unfold szT; rw [if_neg h]
    rw [e]; clear e
    go_enter Tryd.func13, Tryd.ntmps13
    go_wp2
    go_ret
    exact ⟨rfl, below1 _ 0⟩
theorem below3 {w : World} (o1 o2 o3 : Obj) : Below w.heap.size w (((w.alloc o1).alloc o2).alloc o3) :=
  (((Below.refl _ _).alloc (Nat.le_refl _) o1).alloc (by simp) o2).alloc (by simp; omega) o3
set_option maxHeartbeats 2000000 in
set_option maxRecDepth 100000 in
theorem toPiece_any (a : Int) (t : ByteArray) (w : World) :
    Calls Tryd.prog 16 #[.agg #[.int .i64 a, .string t]] w fun e w' => e = .returned (.agg #[.int .i64 a, .string t]) ∧ Below w.heap.size w w' := by
  go_enter Tryd.func16, Tryd.ntmps16
  go_wp2
  exact bodyPost_ret (v := .agg #[.int .i64 a, .string t]) (by simp [results, Tryd.results16, go_sem]) rfl ⟨rfl, below3 _ _ _⟩
theorem box_cell {w w1 : World} {cs : Array Value} {E : TypeId} (hb : Below (w.alloc (.cells cs E)).heap.size (w.alloc (.cells cs E)) w1) (k : Nat) {u : Value} (hu : cs[k]? = some u) : w1.cell? ⟨w.heap.size, k, none⟩ = some u := by
  rw [hb.cell (p := ⟨w.heap.size, k, none⟩) (by simp), cell_of_row _ _ k _ E (0, 0) (heap_alloc_new w _)]; exact hu

end Go.Proofs.YtjadgjlidejjpaaDoor
