/- Slices of the law's own: made and filled; sizes. -/
import Derived.Test.YtjadgjlidejjpaaDoorW1
set_option linter.unusedVariables false
namespace Go.Proofs.YtjadgjlidejjpaaDoor
open Go.RowKit

/-- Block g is a row of N cells whose first cells are 'done'. -/
def Filled (wr : World) (g N : Nat) (E : TypeId) (done : List Value) : Prop :=
  ∃ cs : Array Value, wr.heap[g]? = some (.cells cs E (0, 0)) ∧ cs.size = N ∧ done.length ≤ N ∧ cs.toList.take done.length = done
section
variable {wr : World} {g N : Nat} {E : TypeId} {done : List Value}
theorem Filled.cell (h : Filled wr g N E done) {j : Nat} (hj : j < N) : ∃ u, wr.cell? ⟨g, j, none⟩ = some u := by
  obtain ⟨cs, hg, hs, _, _⟩ := h
  exact ⟨cs[j], by rw [cell_of_row wr g j cs E (0, 0) hg, Array.getElem?_eq_getElem (by omega)]⟩
theorem Filled.free (h : Filled wr g N E done) (j : Nat) : wr.frozen? ⟨g, j, none⟩ = false := by
  obtain ⟨cs, hg, _⟩ := h
  exact frozen_of_row wr g j cs E hg
theorem Filled.store (h : Filled wr g N E done) (u : Value) (hj : done.length < N) : Filled (wr.setCell ⟨g, done.length, none⟩ u) g N E (done ++ [u]) := by
  obtain ⟨cs, hg, hs, hd, ht⟩ := h
  refine ⟨cs.setIfInBounds done.length u, heap_setCell_same wr g _ cs E u hg, by simpa using hs, by simp; omega, ?_⟩
  rw [List.length_append, List.length_singleton, Array.toList_setIfInBounds, List.take_succ_eq_append_getElem (by simp; omega)]
  rw [List.take_set_of_le (by omega), ht]
  simp
theorem Filled.drew (h : Filled wr g N E done) : Filled wr.drew g N E done := h
theorem Filled.drewN (h : Filled wr g N E done) (n : Nat) : Filled (wr.drewN n) g N E done := h
theorem Filled.below (h : Filled wr g N E done) {w' : World} (hb : Below wr.heap.size wr w') : Filled w' g N E done := by
  obtain ⟨cs, hg, r⟩ := h
  exact ⟨cs, (hb.block g (Array.getElem?_eq_some_iff.1 hg).1).trans hg, r⟩
theorem Filled.own {α : Type} {enc : α → List Value} {l : List α} {size base : Nat} (h : Filled wr g (l.length * size) E (flat enc l)) (he : ∀ x, (enc x).length = size) (hb : base ≤ g) (hm : l.length ≤ maxLen) :
    Own wr base E size enc (.slice (some ⟨g, 0, none⟩) l.length l.length) l := by
  obtain ⟨cs, hg, hs, hd, ht⟩ := h
  refine ⟨flat_length he l, .inr ⟨g, l.length, cs, rfl, hb, hg, Nat.le_refl _, hm, hs, ?_⟩⟩
  rw [← flat_length he l]; exact ht
end
theorem Filled.made (w : World) (z : Array Value) (N : Nat) (E : TypeId) : Filled (w.alloc (.cells (madeCells z N) E)) w.heap.size N E [] :=
  ⟨_, heap_alloc_new w _, size_madeCells z N, Nat.zero_le _, rfl⟩
theorem make_row {P : Program} (t e : TypeId) (i : TypeInfo) (z : Value) (ht : P.underlying t = some (.slice e)) (hi : P.info? e = some i) (hz : i.zero = some z) (n : Nat) (hn : n ≤ 16777216) (hb : i.bytes ≤ 256) (w : World) :
    (Instr.makeSlice t (.int .i64 (n : Int)) (.int .i64 (n : Int))).run P w = .ok (.slice (some ⟨w.heap.size, 0, none⟩) n n) (w.alloc (.cells (madeCells z.cells (n * i.size)) e)) := by
  have hbb : (i.bytes : Int) * (n : Int) ≤ 281474976710656 := by
    have h : i.bytes * n ≤ 256 * 16777216 := Nat.mul_le_mul hb hn
    have h2 : ((i.bytes * n : Nat) : Int) ≤ 281474976710656 := by omega
    rwa [Int.natCast_mul] at h2
  have hr := run_make (P := P) w t e i z ht hi hz .i64 .i64 (n : Int) (n : Int) (by omega) (Int.le_refl _) hbb (by omega)
  simpa using hr

/-! ### slices of strings -/
theorem flatS_len (l : List ByteArray) : (flat encS l).length = l.length := by rw [flat_length (size := 1) (fun _ => rfl), Nat.mul_one]
theorem flatS_take {l : List ByteArray} {k : Nat} (h : k < l.length) : flat encS (l.take (k + 1)) = flat encS (l.take k) ++ [.string l[k]] := by
  rw [List.take_succ_eq_append_getElem h, flat_snoc]; rfl
/-- What is told of a slice of numbers that came in. -/
def IntsIn (w : World) (A : Option Addr) (n c : Nat) : Prop := ∃ l : List Int, l.length = n ∧ n ≤ c ∧ c ≤ maxLen ∧ Sl w encI 1 A l
/-- What is told of a slice of strings that came in. -/
def StrsIn (w : World) (A : Option Addr) (n c : Nat) : Prop := ∃ ss : List ByteArray, ss.length = n ∧ n ≤ c ∧ c ≤ maxLen ∧ Sl w encS 1 A ss ∧ ∀ s ∈ ss, s.size ≤ maxLen
end Go.Proofs.YtjadgjlidejjpaaDoor
