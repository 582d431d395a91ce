/- Archives by value: sizes, copies, comparisons, marks, walked. -/
import Derived.Test.YtedcgbmdfmgcgaaGreatDoorGa0
import Derived.Test.YtedcgbmdfmgcgaaGreatDoorGa1
import Derived.Test.YtedcgbmdfmgcgaaGreatDoorSPiece
set_option linter.unusedVariables false
namespace Go.Proofs.YtedcgbmdfmgcgaaGreatDoor
open Go.RowKit
/-- Two rows in different blocks. -/
def ApartV (u v : Value) : Prop := ∀ g, u.ownBlock = some g → v.ownBlock ≠ some g
theorem ApartV.symm {u v : Value} (h : ApartV u v) : ApartV v u := fun g h1 h2 => h g h2 h1
theorem ApartV.nil (u : Value) : ApartV u (.slice none 0 0) := fun g _ h => by cases h
theorem World.alloc_size_ (w : World) (o : Obj) : (w.alloc o).heap.size = w.heap.size + 1 := by simp
theorem Row3.grew {w w' : World} {b : Nat} {v v0 v1 v2 : Value} (h : Row3 w b v0 v1 v2) (hg : Grew v w w') (hne : v.ownBlock ≠ some b) : Row3 w' b v0 v1 v2 := by
  obtain ⟨⟨h0, h1, h2⟩, hf, hlt⟩ := h
  have hblk : w'.heap[b]? = w.heap[b]? := hg.block b hlt (fun e => hne e.symm)
  have hc : ∀ o, w'.cell? ⟨b, o, none⟩ = w.cell? ⟨b, o, none⟩ := fun o => by unfold World.cell?; simp only [hblk]
  refine ⟨⟨(hc _).trans h0, (hc _).trans h1, (hc _).trans h2⟩, fun o => (World.frozen?_of_block (w := w) hblk).trans (hf o), Nat.lt_of_lt_of_le hlt hg.size⟩
theorem Own.slm {w : World} {base : Nat} {A : Option Addr} {n c : Nat} {E : TypeId} {α : Type} {enc : α → List Value} {size : Nat} {l : List α} (h : Own w base E size enc (.slice A n c) l) : Sl w enc size A l := by
  obtain ⟨A', c', e, _, hs, _⟩ := h.sl
  injection e with e1 _ _
  rw [e1]; exact hs
def ToAr (l : List Pc) (x : Int) (m : List Vr) (w : World) (e : Ending) (w' : World) : Prop :=
  ∃ p q, e = .returned (.agg #[p, .int .i64 x, q]) ∧ Own w' w.heap.size 83 2 encP p l ∧ Own w' w.heap.size 68 3 encV q m ∧ ApartV p q ∧ Below w.heap.size w w'
theorem ToAr.mk {l : List Pc} {x : Int} {m : List Vr} {w w' : World} {A B : Option Addr} {c d : Nat} (h1 : Own w' w.heap.size 83 2 encP (.slice A l.length c) l) (h2 : Own w' w.heap.size 68 3 encV (.slice B m.length d) m) (h3 : ApartV (.slice A l.length c) (.slice B m.length d)) (h4 : Below w.heap.size w w') :
    ToAr l x m w (.returned (.agg #[.slice A l.length c, .int .i64 x, .slice B m.length d])) w' := ⟨_, _, rfl, h1, h2, h3, h4⟩
def MarkAr (base : Nat) (p q : Value) (n m k : Nat) (w : World) (e : Ending) (w' : World) : Prop :=
  e = .returned (.int .i64 ((k + 2 * n + 3 * m : Nat) : Int)) ∧ Own w' base 83 2 encP p (markPieceL k n) ∧ Own w' base 68 3 encV q (markVersionL (k + 2 * n) m) ∧ ∃ w1, Grew p w w1 ∧ Grew q w1 w'
end Go.Proofs.YtedcgbmdfmgcgaaGreatDoor
