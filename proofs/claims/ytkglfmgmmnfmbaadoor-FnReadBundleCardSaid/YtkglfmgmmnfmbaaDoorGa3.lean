/- Texts in one: Fi, Fi2, Eq, Far, Sl, W3. -/
import Derived.Test.YtkglfmgmmnfmbaaDoorGa1
import Derived.Laws.BitsAllLaws
import Derived.Laws.BitsLemmas
import Derived.Test.YtkglfmgmmnfmbaaDoorGa4
/- Filters: the plain law, and the walks of the program and of the reference. -/
set_option linter.unusedVariables false
namespace Go.Proofs.YtkglfmgmmnfmbaaDoor
open Go.RowKit

/-! ### the plain law -/
/-! ### bits of int64 -/
/-! ### the walks -/
end Go.Proofs.YtkglfmgmmnfmbaaDoor

/- Filters: FilterHas, FilterJoin, FilterWanted; drawn prints and filters. -/
set_option linter.unusedVariables false
namespace Go.Proofs.YtkglfmgmmnfmbaaDoor
open Go.RowKit

end Go.Proofs.YtkglfmgmmnfmbaaDoor

/- Comparisons of two slices that hold the same. -/
set_option linter.unusedVariables false
namespace Go.Proofs.YtkglfmgmmnfmbaaDoor
open Go.RowKit
/-- wr is w after some draws. -/
def Drawn_ (w wr : World) : Prop := ∃ n, wr = w.drewN n
theorem Drawn_.drewN {w wr : World} (h : Drawn_ w wr) (m : Nat) : Drawn_ w (wr.drewN m) := by
  obtain ⟨n, rfl⟩ := h; exact ⟨n + m, by rw [World.drewN_drewN]⟩
theorem Drawn_.below {w wr : World} (h : Drawn_ w wr) : Below w.heap.size w wr := by
  obtain ⟨n, rfl⟩ := h; exact Below_drewN (Below.refl _ _) n

end Go.Proofs.YtkglfmgmmnfmbaaDoor

/- Regions that draw their order and whose calls make memory of their own: ONE walk, in the order of the text, in every world that is as this one below its heap's size. -/
set_option linter.unusedVariables false
namespace Go.Proofs.YtkglfmgmmnfmbaaDoor
open Go.RowKit

/-- What may have come since: new blocks, and a count of draws. -/
structure Since where
  os : Array Obj
  n : Nat
instance : Inhabited Since := ⟨⟨#[], 0⟩⟩
def far (w : World) (p : Since) : World := { w with heap := w.heap ++ p.os, drawn := p.n }
theorem far_size (w : World) (p : Since) : (far w p).heap.size = w.heap.size + p.os.size := by simp [far]
theorem far_below (w : World) (p : Since) : Below w.heap.size w (far w p) := ⟨rfl, rfl, rfl, by rw [far_size]; omega, fun k hk => by simp [far, Array.getElem?_append, hk]⟩
theorem below_far {w w' : World} (h : Below w.heap.size w w') : ∃ p, w' = far w p := by
  refine ⟨⟨w'.heap.extract w.heap.size w'.heap.size, w'.drawn⟩, ?_⟩
  obtain ⟨h1, h2, h3, h4, h5⟩ := h
  obtain ⟨hp, t, d, o, out⟩ := w'
  simp only at h1 h2 h3 h4 h5
  subst h1 h2 h3
  have e : hp = w.heap ++ hp.extract w.heap.size hp.size := by
    apply Array.ext_getElem?
    intro k
    by_cases hk : k < w.heap.size
    · rw [h5 k hk, Array.getElem?_append_left hk]
    · rw [Array.getElem?_append_right (by omega), Array.getElem?_extract]
      have e : w.heap.size + (k - w.heap.size) = k := by omega
      rw [e]
      split
      · rfl
      · rename_i hn
        rw [Array.getElem?_eq_none]
        omega
  unfold far
  exact congrArg (fun h => (⟨h, w.tape, d, w.os, w.output⟩ : World)) e
theorem far_cell {w : World} {a : Addr} {v : Value} (h : w.cell? a = some v) (p : Since) : (far w p).cell? a = some v :=
  ((far_below w p).cell (World.block_lt_of_cell? w _ h)).trans h
theorem wp_region_far {P : Program} {id : Nat} {Q : Exit → Act → World → Prop} {a : Act} {w : World} {l : List Oper} (hm : P.follows .mixedOrders = true) (hB : Region.lexB .any l.toArray = true)
    (h : wpQuiet P l.toArray (fun w' => ∃ p : Since, w' = far w p) (fun a' => ∀ w', (∃ p : Since, w' = far w p) → Q .normal a' w') l a) : (Code.region id l.toArray true).wp P Q a w :=
  wp_region_quiet (C := fun w' => ∃ p : Since, w' = far w p) hm hB (below_far ((Below.refl _ w).drew)) (by simpa using h)
section
variable {P : Program} {f : FuncId} {args : Array Value} {w : World} {p : Since} {v : Value}
theorem far_call (h : Calls P f args (far w p) fun e w' => e = .returned v ∧ Below (far w p).heap.size (far w p) w') : Calls P f args (far w p) fun e w'' => e = .returned v ∧ ∃ q : Since, w'' = far w q :=
  h.mono fun _ _ ⟨he, hb⟩ => ⟨he, below_far (Below_then (far_below w p) hb (Nat.le_refl _))⟩
theorem far_same (h : Calls P f args (far w p) fun e w' => e = .returned v ∧ far w p = w') : Calls P f args (far w p) fun e w'' => e = .returned v ∧ ∃ q : Since, w'' = far w q :=
  h.mono fun _ _ ⟨he, hb⟩ => ⟨he, p, hb.symm⟩
end
theorem Below_drew {w w1 : World} (h : Below w.drew.heap.size w.drew w1) : Below w.heap.size w w1 := ⟨h.os, h.tape, h.output, h.size, h.block⟩
end Go.Proofs.YtkglfmgmmnfmbaaDoor

/- Slices of the law's own: made and filled; sizes. -/
set_option linter.unusedVariables false
namespace Go.Proofs.YtkglfmgmmnfmbaaDoor
open Go.RowKit

/-- Block g is a row of N cells whose first cells are 'done'. -/
def Filled (wr : World) (g N : Nat) (E : TypeId) (done : List Value) : Prop :=
  ∃ cs : Array Value, wr.heap[g]? = some (.cells cs E (0, 0)) ∧ cs.size = N ∧ done.length ≤ N ∧ cs.toList.take done.length = done
section
variable {wr : World} {g N : Nat} {E : TypeId} {done : List Value}
theorem Filled.cell (h : Filled wr g N E done) {j : Nat} (hj : j < N) : ∃ u, wr.cell? ⟨g, j, none⟩ = some u := by
  obtain ⟨cs, hg, hs, _, _⟩ := h
  exact ⟨cs[j], by rw [cell_of_row wr g j cs E (0, 0) hg, Array.getElem?_eq_getElem (by omega)]⟩
theorem Filled.free (h : Filled wr g N E done) (j : Nat) : wr.frozen? ⟨g, j, none⟩ = false := by
  obtain ⟨cs, hg, _⟩ := h
  exact frozen_of_row wr g j cs E hg
theorem Filled.store (h : Filled wr g N E done) (u : Value) (hj : done.length < N) : Filled (wr.setCell ⟨g, done.length, none⟩ u) g N E (done ++ [u]) := by
  obtain ⟨cs, hg, hs, hd, ht⟩ := h
  refine ⟨cs.setIfInBounds done.length u, heap_setCell_same wr g _ cs E u hg, by simpa using hs, by simp; omega, ?_⟩
  rw [List.length_append, List.length_singleton, Array.toList_setIfInBounds, List.take_succ_eq_append_getElem (by simp; omega)]
  rw [List.take_set_of_le (by omega), ht]
  simp
theorem Filled.drew (h : Filled wr g N E done) : Filled wr.drew g N E done := h
theorem Filled.drewN (h : Filled wr g N E done) (n : Nat) : Filled (wr.drewN n) g N E done := h
theorem Filled.below (h : Filled wr g N E done) {w' : World} (hb : Below wr.heap.size wr w') : Filled w' g N E done := by
  obtain ⟨cs, hg, r⟩ := h
  exact ⟨cs, (hb.block g (Array.getElem?_eq_some_iff.1 hg).1).trans hg, r⟩
theorem Filled.own {α : Type} {enc : α → List Value} {l : List α} {size base : Nat} (h : Filled wr g (l.length * size) E (flat enc l)) (he : ∀ x, (enc x).length = size) (hb : base ≤ g) (hm : l.length ≤ maxLen) :
    Own wr base E size enc (.slice (some ⟨g, 0, none⟩) l.length l.length) l := by
  obtain ⟨cs, hg, hs, hd, ht⟩ := h
  refine ⟨flat_length he l, .inr ⟨g, l.length, cs, rfl, hb, hg, Nat.le_refl _, hm, hs, ?_⟩⟩
  rw [← flat_length he l]; exact ht
end
theorem Filled.made (w : World) (z : Array Value) (N : Nat) (E : TypeId) : Filled (w.alloc (.cells (madeCells z N) E)) w.heap.size N E [] :=
  ⟨_, heap_alloc_new w _, size_madeCells z N, Nat.zero_le _, rfl⟩
/-! ### slices of strings -/
end Go.Proofs.YtkglfmgmmnfmbaaDoor

/- Walks: pieces. -/
set_option linter.unusedVariables false
namespace Go.Proofs.YtkglfmgmmnfmbaaDoor
open Go.RowKit

def pieceR (p : Pc) : Bool := textV (bs p.2) && (prOf (bs p.2) == p.1)
theorem below1 {w : World} (o : Obj) (n : Nat) : Below w.heap.size w ((w.alloc o).drewN n) := Below_drewN ((Below.refl _ _).alloc (Nat.le_refl _) o) n

set_option maxHeartbeats 2000000 in
set_option maxRecDepth 100000 in
theorem iPieceRight_any (a : Int) (t : ByteArray) (w : World) (hs : t.size ≤ 16777216) :
    Calls Tryd.prog 27 #[.agg #[.int .i64 a, .string t]] w fun e w' => e = .returned (.bool (pieceR (a, t))) ∧ Below w.heap.size w w' := by
  cases ht : textV (bs t)
  · have hp : pieceR (a, t) = false := by unfold pieceR; rw [ht]; rfl
    rw [hp]
    clear hp
    go_enter Tryd.func27, Tryd.ntmps27
    go_wp2
    go_quiet ((first | (go_at_call 33; exact quiet_left (iTextValid_any _ _ hs)) | (go_at_call 34; exact quiet_left (iPrintOf_any _ _ hs))))
    go_wp2
    go_ret
    exact ⟨rfl, below1 _ _⟩
  · have hp : pieceR (a, t) = (prOf (bs t) == a) := by unfold pieceR; rw [ht]; rfl
    rw [hp]
    clear hp
    generalize hq : prOf (bs t) = q at *
    have hP := iPrintOf_any t
    rw [hq] at hP
    have HP := Lib.hid hP
    clear hP hq
    go_enter Tryd.func27, Tryd.ntmps27
    go_wp2
    go_quiet ((first | (go_at_call 33; exact quiet_left (iTextValid_any _ _ hs)) | (go_at_call 34; exact quiet_left (HP.out _ hs))))
    go_wp2
    go_ret
    exact ⟨rfl, below1 _ _⟩
theorem box_cell {w w1 : World} {cs : Array Value} {E : TypeId} (hb : Below (w.alloc (.cells cs E)).heap.size (w.alloc (.cells cs E)) w1) (k : Nat) {u : Value} (hu : cs[k]? = some u) : w1.cell? ⟨w.heap.size, k, none⟩ = some u := by
  rw [hb.cell (p := ⟨w.heap.size, k, none⟩) (by simp), cell_of_row _ _ k _ E (0, 0) (heap_alloc_new w _)]; exact hu

end Go.Proofs.YtkglfmgmmnfmbaaDoor
