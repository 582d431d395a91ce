/- Regions that draw their order and whose calls make memory of their own: ONE walk, in the order of the text, in every world that is as this one below its heap's size. -/
import Derived.Test.YtjadgjlidejjpaaDoorW1
import Derived.Test.YtjadgjlidejjpaaDoorEq
set_option linter.unusedVariables false
namespace Go.Proofs.YtjadgjlidejjpaaDoor
open Go.RowKit

/-- What may have come since: new blocks, and a count of draws. -/
structure Since where
  os : Array Obj
  n : Nat
instance : Inhabited Since := ⟨⟨#[], 0⟩⟩
def far (w : World) (p : Since) : World := { w with heap := w.heap ++ p.os, drawn := p.n }
theorem far_size (w : World) (p : Since) : (far w p).heap.size = w.heap.size + p.os.size := by simp [far]
theorem far_below (w : World) (p : Since) : Below w.heap.size w (far w p) := ⟨rfl, rfl, rfl, by rw [far_size]; omega, fun k hk => by simp [far, Array.getElem?_append, hk]⟩
theorem below_far {w w' : World} (h : Below w.heap.size w w') : ∃ p, w' = far w p := by
  refine ⟨⟨w'.heap.extract w.heap.size w'.heap.size, w'.drawn⟩, ?_⟩
  obtain ⟨h1, h2, h3, h4, h5⟩ := h
  obtain ⟨hp, t, d, o, out⟩ := w'
  simp only at h1 h2 h3 h4 h5
  subst h1 h2 h3
  have e : hp = w.heap ++ hp.extract w.heap.size hp.size := by
    apply Array.ext_getElem?
    intro k
    by_cases hk : k < w.heap.size
    · rw [h5 k hk, Array.getElem?_append_left hk]
    · rw [Array.getElem?_append_right (by omega), Array.getElem?_extract]
      have e : w.heap.size + (k - w.heap.size) = k := by omega
      rw [e]
      split
      · rfl
      · rename_i hn
        rw [Array.getElem?_eq_none]
        omega
  unfold far
  exact congrArg (fun h => (⟨h, w.tape, d, w.os, w.output⟩ : World)) e
theorem far_cell {w : World} {a : Addr} {v : Value} (h : w.cell? a = some v) (p : Since) : (far w p).cell? a = some v :=
  ((far_below w p).cell (World.block_lt_of_cell? w _ h)).trans h
theorem wp_region_far {P : Program} {id : Nat} {Q : Exit → Act → World → Prop} {a : Act} {w : World} {l : List Oper} (hm : P.follows .mixedOrders = true) (hB : Region.lexB .any l.toArray = true)
    (h : wpQuiet P l.toArray (fun w' => ∃ p : Since, w' = far w p) (fun a' => ∀ w', (∃ p : Since, w' = far w p) → Q .normal a' w') l a) : (Code.region id l.toArray true).wp P Q a w :=
  wp_region_quiet (C := fun w' => ∃ p : Since, w' = far w p) hm hB (below_far ((Below.refl _ w).drew)) (by simpa using h)
section
variable {P : Program} {f : FuncId} {args : Array Value} {w : World} {p : Since} {v : Value}
theorem far_call (h : Calls P f args (far w p) fun e w' => e = .returned v ∧ Below (far w p).heap.size (far w p) w') : Calls P f args (far w p) fun e w'' => e = .returned v ∧ ∃ q : Since, w'' = far w q :=
  h.mono fun _ _ ⟨he, hb⟩ => ⟨he, below_far (Below_then (far_below w p) hb (Nat.le_refl _))⟩
theorem far_same (h : Calls P f args (far w p) fun e w' => e = .returned v ∧ far w p = w') : Calls P f args (far w p) fun e w'' => e = .returned v ∧ ∃ q : Since, w'' = far w q :=
  h.mono fun _ _ ⟨he, hb⟩ => ⟨he, p, hb.symm⟩
theorem far_drawn (h : Calls P f args (far w p) fun e w' => e = .returned v ∧ ∃ n, w' = (far w p).drewN n) : Calls P f args (far w p) fun e w'' => e = .returned v ∧ ∃ q : Since, w'' = far w q :=
  far_call (h.mono fun _ _ ⟨he, n, hn⟩ => ⟨he, by rw [hn]; exact Below_drewN (Below.refl _ _) n⟩)
theorem far_drawn_ (h : Calls P f args (far w p) fun e w' => e = .returned v ∧ Drawn_ (far w p) w') : Calls P f args (far w p) fun e w'' => e = .returned v ∧ ∃ q : Since, w'' = far w q :=
  far_drawn h
end
theorem Below_drew {w w1 : World} (h : Below w.drew.heap.size w.drew w1) : Below w.heap.size w w1 := ⟨h.os, h.tape, h.output, h.size, h.block⟩
theorem Sl.far {α : Type} {enc : α → List Value} {w : World} {size : Nat} {A : Option Addr} {l : List α} (h : Sl w enc size A l) (p : Since) : Sl (far w p) enc size A l := h.below (far_below w p)
end Go.Proofs.YtjadgjlidejjpaaDoor
