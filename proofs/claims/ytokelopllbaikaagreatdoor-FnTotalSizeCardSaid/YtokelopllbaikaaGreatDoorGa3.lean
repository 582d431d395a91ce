/- Texts in one: Fi, Fi2, Eq, Far, Sl, W3. -/
import Derived.Test.YtokelopllbaikaaGreatDoorGa1
import Derived.Laws.BitsAllLaws
import Derived.Laws.BitsLemmas
import Derived.Test.YtokelopllbaikaaGreatDoorGa4
/- Filters: the plain law, and the walks of the program and of the reference. -/
set_option linter.unusedVariables false
namespace Go.Proofs.YtokelopllbaikaaGreatDoor
open Go.RowKit

/-! ### the plain law -/
/-! ### bits of int64 -/
/-! ### the walks -/
end Go.Proofs.YtokelopllbaikaaGreatDoor

/- Filters: FilterHas, FilterJoin, FilterWanted; drawn prints and filters. -/
set_option linter.unusedVariables false
namespace Go.Proofs.YtokelopllbaikaaGreatDoor
open Go.RowKit

end Go.Proofs.YtokelopllbaikaaGreatDoor

/- Comparisons of two slices that hold the same. -/
set_option linter.unusedVariables false
namespace Go.Proofs.YtokelopllbaikaaGreatDoor
open Go.RowKit
/-- wr is w after some draws. -/
def Drawn_ (w wr : World) : Prop := ∃ n, wr = w.drewN n
theorem Drawn_.drewN {w wr : World} (h : Drawn_ w wr) (m : Nat) : Drawn_ w (wr.drewN m) := by
  obtain ⟨n, rfl⟩ := h; exact ⟨n + m, by rw [World.drewN_drewN]⟩
theorem Drawn_.below {w wr : World} (h : Drawn_ w wr) : Below w.heap.size w wr := by
  obtain ⟨n, rfl⟩ := h; exact Below_drewN (Below.refl _ _) n

end Go.Proofs.YtokelopllbaikaaGreatDoor

/- Regions that draw their order and whose calls make memory of their own: ONE walk, in the order of the text, in every world that is as this one below its heap's size. -/
set_option linter.unusedVariables false
namespace Go.Proofs.YtokelopllbaikaaGreatDoor
open Go.RowKit

/-- What may have come since: new blocks, and a count of draws. -/
structure Since where
  os : Array Obj
  n : Nat
instance : Inhabited Since := ⟨⟨#[], 0⟩⟩
def far (w : World) (p : Since) : World := { w with heap := w.heap ++ p.os, drawn := p.n }
theorem far_size (w : World) (p : Since) : (far w p).heap.size = w.heap.size + p.os.size := by simp [far]
theorem far_below (w : World) (p : Since) : Below w.heap.size w (far w p) := ⟨rfl, rfl, rfl, by rw [far_size]; omega, fun k hk => by simp [far, Array.getElem?_append, hk]⟩
theorem below_far {w w' : World} (h : Below w.heap.size w w') : ∃ p, w' = far w p := by
  refine ⟨⟨w'.heap.extract w.heap.size w'.heap.size, w'.drawn⟩, ?_⟩
  obtain ⟨h1, h2, h3, h4, h5⟩ := h
  obtain ⟨hp, t, d, o, out⟩ := w'
  simp only at h1 h2 h3 h4 h5
  subst h1 h2 h3
  have e : hp = w.heap ++ hp.extract w.heap.size hp.size := by
    apply Array.ext_getElem?
    intro k
    by_cases hk : k < w.heap.size
    · rw [h5 k hk, Array.getElem?_append_left hk]
    · rw [Array.getElem?_append_right (by omega), Array.getElem?_extract]
      have e : w.heap.size + (k - w.heap.size) = k := by omega
      rw [e]
      split
      · rfl
      · rename_i hn
        rw [Array.getElem?_eq_none]
        omega
  unfold far
  exact congrArg (fun h => (⟨h, w.tape, d, w.os, w.output⟩ : World)) e
theorem far_cell {w : World} {a : Addr} {v : Value} (h : w.cell? a = some v) (p : Since) : (far w p).cell? a = some v :=
  ((far_below w p).cell (World.block_lt_of_cell? w _ h)).trans h
theorem wp_region_far {P : Program} {id : Nat} {Q : Exit → Act → World → Prop} {a : Act} {w : World} {l : List Oper} (hm : P.follows .mixedOrders = true) (hB : Region.lexB .any l.toArray = true)
    (h : wpQuiet P l.toArray (fun w' => ∃ p : Since, w' = far w p) (fun a' => ∀ w', (∃ p : Since, w' = far w p) → Q .normal a' w') l a) : (Code.region id l.toArray true).wp P Q a w :=
  wp_region_quiet (C := fun w' => ∃ p : Since, w' = far w p) hm hB (below_far ((Below.refl _ w).drew)) (by simpa using h)
section
variable {P : Program} {f : FuncId} {args : Array Value} {w : World} {p : Since} {v : Value}
theorem far_call (h : Calls P f args (far w p) fun e w' => e = .returned v ∧ Below (far w p).heap.size (far w p) w') : Calls P f args (far w p) fun e w'' => e = .returned v ∧ ∃ q : Since, w'' = far w q :=
  h.mono fun _ _ ⟨he, hb⟩ => ⟨he, below_far (Below_then (far_below w p) hb (Nat.le_refl _))⟩
theorem far_same (h : Calls P f args (far w p) fun e w' => e = .returned v ∧ far w p = w') : Calls P f args (far w p) fun e w'' => e = .returned v ∧ ∃ q : Since, w'' = far w q :=
  h.mono fun _ _ ⟨he, hb⟩ => ⟨he, p, hb.symm⟩
end
theorem Below_drew {w w1 : World} (h : Below w.drew.heap.size w.drew w1) : Below w.heap.size w w1 := ⟨h.os, h.tape, h.output, h.size, h.block⟩
end Go.Proofs.YtokelopllbaikaaGreatDoor

/- Slices of the law's own: made and filled; sizes. -/
set_option linter.unusedVariables false
namespace Go.Proofs.YtokelopllbaikaaGreatDoor
open Go.RowKit

/-- Block g is a row of N cells whose first cells are 'done'. -/
def Filled (wr : World) (g N : Nat) (E : TypeId) (done : List Value) : Prop :=
  ∃ cs : Array Value, wr.heap[g]? = some (.cells cs E (0, 0)) ∧ cs.size = N ∧ done.length ≤ N ∧ cs.toList.take done.length = done
section
variable {wr : World} {g N : Nat} {E : TypeId} {done : List Value}
theorem Filled.cell (h : Filled wr g N E done) {j : Nat} (hj : j < N) : ∃ u, wr.cell? ⟨g, j, none⟩ = some u := by
  obtain ⟨cs, hg, hs, _, _⟩ := h
  exact ⟨cs[j], by rw [cell_of_row wr g j cs E (0, 0) hg, Array.getElem?_eq_getElem (by omega)]⟩
theorem Filled.free (h : Filled wr g N E done) (j : Nat) : wr.frozen? ⟨g, j, none⟩ = false := by
  obtain ⟨cs, hg, _⟩ := h
  exact frozen_of_row wr g j cs E hg
theorem Filled.store (h : Filled wr g N E done) (u : Value) (hj : done.length < N) : Filled (wr.setCell ⟨g, done.length, none⟩ u) g N E (done ++ [u]) := by
  obtain ⟨cs, hg, hs, hd, ht⟩ := h
  refine ⟨cs.setIfInBounds done.length u, heap_setCell_same wr g _ cs E u hg, by simpa using hs, by simp; omega, ?_⟩
  rw [List.length_append, List.length_singleton, Array.toList_setIfInBounds, List.take_succ_eq_append_getElem (by simp; omega)]
  rw [List.take_set_of_le (by omega), ht]
  simp
theorem Filled.drew (h : Filled wr g N E done) : Filled wr.drew g N E done := h
theorem Filled.drewN (h : Filled wr g N E done) (n : Nat) : Filled (wr.drewN n) g N E done := h
theorem Filled.below (h : Filled wr g N E done) {w' : World} (hb : Below wr.heap.size wr w') : Filled w' g N E done := by
  obtain ⟨cs, hg, r⟩ := h
  exact ⟨cs, (hb.block g (Array.getElem?_eq_some_iff.1 hg).1).trans hg, r⟩
theorem Filled.own {α : Type} {enc : α → List Value} {l : List α} {size base : Nat} (h : Filled wr g (l.length * size) E (flat enc l)) (he : ∀ x, (enc x).length = size) (hb : base ≤ g) (hm : l.length ≤ maxLen) :
    Own wr base E size enc (.slice (some ⟨g, 0, none⟩) l.length l.length) l := by
  obtain ⟨cs, hg, hs, hd, ht⟩ := h
  refine ⟨flat_length he l, .inr ⟨g, l.length, cs, rfl, hb, hg, Nat.le_refl _, hm, hs, ?_⟩⟩
  rw [← flat_length he l]; exact ht
end
theorem Filled.made (w : World) (z : Array Value) (N : Nat) (E : TypeId) : Filled (w.alloc (.cells (madeCells z N) E)) w.heap.size N E [] :=
  ⟨_, heap_alloc_new w _, size_madeCells z N, Nat.zero_le _, rfl⟩
theorem make_row {P : Program} (t e : TypeId) (i : TypeInfo) (z : Value) (ht : P.underlying t = some (.slice e)) (hi : P.info? e = some i) (hz : i.zero = some z) (n : Nat) (hn : n ≤ 16777216) (hb : i.bytes ≤ 256) (w : World) :
    (Instr.makeSlice t (.int .i64 (n : Int)) (.int .i64 (n : Int))).run P w = .ok (.slice (some ⟨w.heap.size, 0, none⟩) n n) (w.alloc (.cells (madeCells z.cells (n * i.size)) e)) := by
  have hbb : (i.bytes : Int) * (n : Int) ≤ 281474976710656 := by
    have h : i.bytes * n ≤ 256 * 16777216 := Nat.mul_le_mul hb hn
    have h2 : ((i.bytes * n : Nat) : Int) ≤ 281474976710656 := by omega
    rwa [Int.natCast_mul] at h2
  have hr := run_make (P := P) w t e i z ht hi hz .i64 .i64 (n : Int) (n : Int) (by omega) (Int.le_refl _) hbb (by omega)
  simpa using hr

/-! ### slices of strings -/
end Go.Proofs.YtokelopllbaikaaGreatDoor

/- Walks: pieces. -/
set_option linter.unusedVariables false
namespace Go.Proofs.YtokelopllbaikaaGreatDoor
open Go.RowKit

end Go.Proofs.YtokelopllbaikaaGreatDoor
