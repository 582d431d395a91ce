/- Drawn inputs: lists of pieces, lists of names. -/
import Derived.Test.YthbdcmaloojngaaDoorDr2
import Derived.Test.YthbdcmaloojngaaDoorDr3
import Derived.Test.YthbdcmaloojngaaDoorDm
set_option linter.unusedVariables false
namespace Go.Proofs.YthbdcmaloojngaaDoor
open Go.RowKit

section
variable {ops : Array Oper} {rest : List Oper} {o : Oper} {a : Act} {Q : Exit → Act → World → Prop} {w0 wr : World} {v : Value} {g : Nat}
theorem app_str_only {l : List ByteArray} {y : ByteArray} {s x : Operand} (hgd : o.guard = none) (ho : o.op = .call { callee := .builtin .append, args := #[s, x], argTypes := #[22, 22] })
    (hs : a.eval s = v) (hx : a.eval x = .slice (some ⟨wr.heap.size, 0, none⟩) 1 1)
    (hown : Own wr w0.heap.size 9 1 encS v l) (hb : Only g w0 wr) (hn : l.length ≤ 16777216)
    (h : ∀ v' w', Own w' w0.heap.size 9 1 encS v' (l ++ [y]) → Below w0.heap.size wr w' → wpList Tryd.prog ops Q rest (a.put o.dst v') w') :
    wpList Tryd.prog ops Q (o :: rest) a (wr.alloc (.cells #[.string y] 9)) := by
  obtain ⟨i0, hi0, hz0, hz1, hz2⟩ := info_parts str_info
  exact wpList_app1 Tryd.underlying22 hi0 hz0 hz1 hz2 rfl (by decide) (by decide) hgd s x ho hs hx hown (Below.refl w0.heap.size wr) (Nat.le_refl _) hb.size hn y _ rfl rfl (by intro u hu; simp [encS] at hu; subst hu; rfl) h
end
def FewP (l : List Pc) : Prop := l.length ≤ 8 ∧ ∀ p ∈ l, -1 ≤ p.1 ∧ p.1 ≤ 16777212 ∧ p.2.size ≤ 60
theorem FewP.fit {l : List Pc} (h : FewP l) : FitP l := fun p hp => Nat.le_trans (h.2 p hp).2.2 (by omega)
/-! ### names -/
def FewN (m : Nat) (l : List ByteArray) : Prop := l.length ≤ m ∧ ∀ s ∈ l, s.size ≤ 60
def DrawnStrs (m : Nat) (w : World) (e : Ending) (w' : World) : Prop :=
  ∃ (v : Value) (l : List ByteArray), e = .returned v ∧ Own w' w.heap.size 9 1 encS v l ∧ FewN m l ∧ Below w.heap.size w w'
end Go.Proofs.YthbdcmaloojngaaDoor
