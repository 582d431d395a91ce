/- Words for slices of structs: several cells written one after the other; marks at a number. -/
import Derived.Test.YtjadgjlidejjpaaDoorMk
import Derived.Test.YtjadgjlidejjpaaDoorW3
import Derived.Test.YtjadgjlidejjpaaDoorFar
set_option linter.unusedVariables false
namespace Go.Proofs.YtjadgjlidejjpaaDoor
open Go.RowKit

/-- Cells stored one after the other. -/
def setAll (w : World) (g : Nat) : Nat → List Value → World
  | _, [] => w
  | j, u :: r => setAll (w.setCell ⟨g, j, none⟩ u) g (j + 1) r
theorem Filled.stores_of {wr : World} {g N : Nat} {E : TypeId} : ∀ {done : List Value} (us : List Value) {j : Nat}, Filled wr g N E done → done.length = j → j + us.length ≤ N → Filled (setAll wr g j us) g N E (done ++ us) := by
  intro done us
  induction us generalizing wr done with
  | nil => intro j h _ _; rw [List.append_nil]; exact h
  | cons u r ih =>
    intro j h hd hl
    simp only [List.length_cons] at hl
    have h1 := h.store u (by omega)
    rw [hd] at h1
    have h2 := ih h1 (j := j + 1) (by simp; omega) (by omega)
    have e : done ++ u :: r = done ++ [u] ++ r := by simp
    rw [e]; exact h2
theorem Filled.stores {wr : World} {g N : Nat} {E : TypeId} {done : List Value} (h : Filled wr g N E done) (us : List Value) (hl : done.length + us.length ≤ N) : Filled (setAll wr g done.length us) g N E (done ++ us) :=
  Filled.stores_of us h rfl hl
theorem Own.sl' {α : Type} {enc : α → List Value} {w : World} {base size : Nat} {E : TypeId} {A : Option Addr} {n c : Nat} {l : List α} (h : Own w base E size enc (.slice A n c) l) : Sl w enc size A l := by
  obtain ⟨A', c', e, _, hs, _⟩ := h.sl
  injection e with e1 _ _
  rw [e1]; exact hs
theorem Own.up {α : Type} {enc : α → List Value} {w : World} {base size : Nat} {E : TypeId} {v : Value} {l : List α} (h : Own w base E size enc v l) : ∀ g, v.ownBlock = some g → g < w.heap.size := fun g hg => (h.blk g hg).2
theorem apart_of {u v : Value} {m n : Nat} (hu : ∀ g, u.ownBlock = some g → g < m) (hv : ∀ g, v.ownBlock = some g → n ≤ g) (h : m ≤ n) : ∀ g, u.ownBlock = some g → v.ownBlock ≠ some g := fun g h1 h2 => by
  have a := hu g h1; have b := hv g h2; exact absurd a (by omega)
theorem apart_of' {u v : Value} {m n : Nat} (hu : ∀ g, u.ownBlock = some g → n ≤ g) (hv : ∀ g, v.ownBlock = some g → g < m) (h : m ≤ n) : ∀ g, u.ownBlock = some g → v.ownBlock ≠ some g := fun g h1 h2 => by
  have a := hu g h1; have b := hv g h2; exact absurd b (by omega)
theorem Own.lo {α : Type} {enc : α → List Value} {w : World} {base size : Nat} {E : TypeId} {v : Value} {l : List α} (h : Own w base E size enc v l) : ∀ g, v.ownBlock = some g → base ≤ g := fun g hg => (h.blk g hg).1
theorem markText_at (x : Int) (k : Nat) (hx : x = k) (w : World) (hk : k ≤ 1000000000) :
    Calls Tryd.prog 20 #[.int .i64 x] w fun e w' => e = .returned (.string (mk (markT k))) ∧ Below w.heap.size w w' := by
  subst hx; exact markText_any k w hk
end Go.Proofs.YtjadgjlidejjpaaDoor
