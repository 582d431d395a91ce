/- Texts in one: Rb, Dr4, Zc, Bl. -/
import Derived.Test.YtkglfmgmmnfmbaaGreatDoorGb4
import Derived.Test.YtkglfmgmmnfmbaaGreatDoorGa9
import Derived.Test.YtkglfmgmmnfmbaaGreatDoorGb2
import Derived.Test.YtkglfmgmmnfmbaaGreatDoorGa6
import Derived.Test.YtkglfmgmmnfmbaaGreatDoorGa8
import Derived.Test.YtkglfmgmmnfmbaaGreatDoorGa0
import Derived.Test.YtkglfmgmmnfmbaaGreatDoorSto
import Derived.Test.YtkglfmgmmnfmbaaGreatDoorGa7
import Derived.Deep.RegionHeld3
/- ReadBundle, walked. -/
set_option linter.unusedVariables false
namespace Go.Proofs.YtkglfmgmmnfmbaaGreatDoor
open Go.RowKit
theorem fit_store {st : List Pc} (h : storeV st = true) : FitP st := fun p hp => by
  have := textV_size (pieceOk_iff.1 (storeV_piece h hp)).1; omega
end Go.Proofs.YtkglfmgmmnfmbaaGreatDoor

/- Drawn inputs: lists of pieces, lists of names. -/
set_option linter.unusedVariables false
namespace Go.Proofs.YtkglfmgmmnfmbaaGreatDoor
open Go.RowKit

section
variable {ops : Array Oper} {rest : List Oper} {o : Oper} {a : Act} {Q : Exit → Act → World → Prop} {w0 wr : World} {v : Value} {g : Nat}
theorem app_str_only {l : List ByteArray} {y : ByteArray} {s x : Operand} (hgd : o.guard = none) (ho : o.op = .call { callee := .builtin .append, args := #[s, x], argTypes := #[37, 37] })
    (hs : a.eval s = v) (hx : a.eval x = .slice (some ⟨wr.heap.size, 0, none⟩) 1 1)
    (hown : Own wr w0.heap.size 9 1 encS v l) (hb : Only g w0 wr) (hn : l.length ≤ 16777216)
    (h : ∀ v' w', Own w' w0.heap.size 9 1 encS v' (l ++ [y]) → Below w0.heap.size wr w' → wpList Tryz.prog ops Q rest (a.put o.dst v') w') :
    wpList Tryz.prog ops Q (o :: rest) a (wr.alloc (.cells #[.string y] 9)) := by
  obtain ⟨i0, hi0, hz0, hz1, hz2⟩ := info_parts str_info
  exact wpList_app1 Tryz.underlying37 hi0 hz0 hz1 hz2 rfl (by decide) (by decide) hgd s x ho hs hx hown (Below.refl w0.heap.size wr) (Nat.le_refl _) hb.size hn y _ rfl rfl (by intro u hu; simp [encS] at hu; subst hu; rfl) h
end
def FewP (l : List Pc) : Prop := l.length ≤ 8 ∧ ∀ p ∈ l, -1 ≤ p.1 ∧ p.1 ≤ 16777212 ∧ p.2.size ≤ 60
theorem FewP.fit {l : List Pc} (h : FewP l) : FitP l := fun p hp => Nat.le_trans (h.2 p hp).2.2 (by omega)
/-! ### names -/
end Go.Proofs.YtkglfmgmmnfmbaaGreatDoor

/- Sizes of files, files with a word, quotas that are passed: their laws. Plain Lean, no program in sight. -/
set_option linter.unusedVariables false
namespace Go.Proofs.YtkglfmgmmnfmbaaGreatDoor
/-! ### a file more -/
def nameZ : Bs := [122, 122]
/-! ### found ones stand in their order -/
/-! ### quotas -/
end Go.Proofs.YtkglfmgmmnfmbaaGreatDoor

/- BundleLines, walked. -/
set_option linter.unusedVariables false
namespace Go.Proofs.YtkglfmgmmnfmbaaGreatDoor
open Go.RowKit
--BEGIN
end Go.Proofs.YtkglfmgmmnfmbaaGreatDoor
