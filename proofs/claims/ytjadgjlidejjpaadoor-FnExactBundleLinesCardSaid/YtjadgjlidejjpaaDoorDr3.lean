/- Drawn inputs: texts, pieces. -/
import Derived.Test.YtjadgjlidejjpaaDoorDr2
import Derived.Test.YtjadgjlidejjpaaDoorW3
set_option linter.unusedVariables false
namespace Go.Proofs.YtjadgjlidejjpaaDoor
open Go.RowKit

theorem Only.frozen {g : Nat} {w w1 : World} (h : Only g w w1) {b o : Nat} (hb : b ≠ g) (hlt : b < w.heap.size) : w1.frozen? ⟨b, o, none⟩ = w.frozen? ⟨b, o, none⟩ :=
  World.frozen?_of_block (w := w) (h.block b hlt (by intro e; injection e; contradiction))
theorem Only.setNew {g : Nat} {w w1 : World} (h : Only g w w1) {p : Addr} (hp : w.heap.size ≤ p.block) (u : Value) : Only g w (w1.setCell p u) :=
  ⟨h.os, h.tape, h.output, by simpa [World.setCell] using h.size, fun k hk hne => (Below.heap_setCell _ _ _ _ (by omega)).trans (h.block k hk hne)⟩
/-- A block of the call's own: what it holds, and that it is not frozen. -/
theorem new_cell {w : World} {cs : Array Value} {E : TypeId} {k : Nat} {u : Value} (hu : cs[k]? = some u) : (w.alloc (.cells cs E)).cell? ⟨w.heap.size, k, none⟩ = some u := by
  rw [cell_of_row _ _ k _ E (0, 0) (heap_alloc_new w _)]; exact hu
theorem new_free {w : World} {cs : Array Value} {E : TypeId} (k : Nat) : (w.alloc (.cells cs E)).frozen? ⟨w.heap.size, k, none⟩ = false := by
  have h := heap_alloc_new w (.cells cs E)
  unfold World.frozen?
  simp only [h]
  simp

/-- A drawn text: valid, and with another print than the one text that a law puts in its place. -/
def txB : Value → Bool | .string s => textV (bs s) && decide (s.size ≤ 60) && !(prOf (bs s) == prOf (bs ⟨#[113, 117, 105, 116, 101, 32, 111, 116, 104, 101, 114]⟩)) | _ => false
def Txt (v : Value) : Prop := ∃ s : ByteArray, v = .string s ∧ s.size ≤ 60 ∧ textV (bs s) = true ∧ prOf (bs s) ≠ prOf (bs ⟨#[113, 117, 105, 116, 101, 32, 111, 116, 104, 101, 114]⟩)
theorem txB_iff {v : Value} (h : txB v = true) : Txt v := by
  unfold txB at h; split at h
  · simp only [Bool.and_eq_true, decide_eq_true_eq, Bool.not_eq_true', beq_eq_false_iff_ne] at h
    exact ⟨_, rfl, h.1.2, h.1.1, h.2⟩
  · cases h
theorem flat3 {a0 a1 a2 : Int} {t0 t1 t2 : ByteArray} (x : Nat) (hx : x < 3) : ∃ (a : Int) (t : ByteArray), (#[Value.int .i64 a0, .string t0, .int .i64 a1, .string t1, .int .i64 a2, .string t2] : Array Value)[x * 2]? = some (.int .i64 a) ∧
    (#[Value.int .i64 a0, .string t0, .int .i64 a1, .string t1, .int .i64 a2, .string t2] : Array Value)[x * 2 + 1]? = some (.string t) ∧ (a = a0 ∨ a = a1 ∨ a = a2) ∧ (t = t0 ∨ t = t1 ∨ t = t2) := by
  match x, hx with
  | 0, _ => exact ⟨a0, t0, rfl, rfl, .inl rfl, .inl rfl⟩
  | 1, _ => exact ⟨a1, t1, rfl, rfl, .inr (.inl rfl), .inr (.inl rfl)⟩
  | 2, _ => exact ⟨a2, t2, rfl, rfl, .inr (.inr rfl), .inr (.inr rfl)⟩
def PcV (v : Value) : Prop := ∃ (a : Int) (t : ByteArray), v = .agg #[.int .i64 a, .string t] ∧ -1 ≤ a ∧ a ≤ 16777212 ∧ t.size ≤ 60
def DrawnPc (w : World) (e : Ending) (w' : World) : Prop := ∃ (a : Int) (t : ByteArray), e = .returned (.agg #[.int .i64 a, .string t]) ∧ -1 ≤ a ∧ a ≤ 16777212 ∧ t.size ≤ 60 ∧ Below w.heap.size w w'
end Go.Proofs.YtjadgjlidejjpaaDoor
