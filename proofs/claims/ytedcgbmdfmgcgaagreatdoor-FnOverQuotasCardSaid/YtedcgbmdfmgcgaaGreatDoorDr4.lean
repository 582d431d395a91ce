/- Drawn inputs: lists of pieces, lists of names. -/
import Derived.Test.YtedcgbmdfmgcgaaGreatDoorGa1
set_option linter.unusedVariables false
namespace Go.Proofs.YtedcgbmdfmgcgaaGreatDoor
open Go.RowKit

section
variable {ops : Array Oper} {rest : List Oper} {o : Oper} {a : Act} {Q : Exit → Act → World → Prop} {w0 wr : World} {v : Value} {g : Nat}
theorem app_pc_only {l : List Pc} {y : Pc} {s x : Operand} (hgd : o.guard = none) (ho : o.op = .call { callee := .builtin .append, args := #[s, x], argTypes := #[23, 23] })
    (hs : a.eval s = v) (hx : a.eval x = .slice (some ⟨wr.heap.size, 0, none⟩) 1 1)
    (hown : Own wr w0.heap.size 83 2 encP v l) (hb : Only g w0 wr) (hn : l.length ≤ 16777216)
    (h : ∀ v' w', Own w' w0.heap.size 83 2 encP v' (l ++ [y]) → Below w0.heap.size wr w' → wpList Tryz.prog ops Q rest (a.put o.dst v') w') :
    wpList Tryz.prog ops Q (o :: rest) a (wr.alloc (.cells #[.int .i64 y.1, .string y.2] 83)) := by
  obtain ⟨i0, hi0, hz0, hz1, hz2⟩ := info_parts pc_info
  exact wpList_app1 Tryz.underlying23 hi0 hz0 hz1 hz2 rfl (by decide) (by decide) hgd s x ho hs hx hown (Below.refl w0.heap.size wr) (Nat.le_refl _) hb.size hn y _ rfl rfl (by intro u hu; simp [encP] at hu; rcases hu with rfl | rfl <;> rfl) h
theorem app_str_only {l : List ByteArray} {y : ByteArray} {s x : Operand} (hgd : o.guard = none) (ho : o.op = .call { callee := .builtin .append, args := #[s, x], argTypes := #[33, 33] })
    (hs : a.eval s = v) (hx : a.eval x = .slice (some ⟨wr.heap.size, 0, none⟩) 1 1)
    (hown : Own wr w0.heap.size 9 1 encS v l) (hb : Only g w0 wr) (hn : l.length ≤ 16777216)
    (h : ∀ v' w', Own w' w0.heap.size 9 1 encS v' (l ++ [y]) → Below w0.heap.size wr w' → wpList Tryz.prog ops Q rest (a.put o.dst v') w') :
    wpList Tryz.prog ops Q (o :: rest) a (wr.alloc (.cells #[.string y] 9)) := by
  obtain ⟨i0, hi0, hz0, hz1, hz2⟩ := info_parts str_info
  exact wpList_app1 Tryz.underlying33 hi0 hz0 hz1 hz2 rfl (by decide) (by decide) hgd s x ho hs hx hown (Below.refl w0.heap.size wr) (Nat.le_refl _) hb.size hn y _ rfl rfl (by intro u hu; simp [encS] at hu; subst hu; rfl) h
end
def FewP (l : List Pc) : Prop := l.length ≤ 8 ∧ ∀ p ∈ l, -1 ≤ p.1 ∧ p.1 ≤ 16777212 ∧ p.2.size ≤ 60
theorem FewP.fit {l : List Pc} (h : FewP l) : FitP l := fun p hp => Nat.le_trans (h.2 p hp).2.2 (by omega)
def DrawnPcs2 (w : World) (e : Ending) (w' : World) : Prop :=
  ∃ (v1 v2 : Value) (l1 l2 : List Pc), e = .returned (.tuple #[v1, v2]) ∧ Own w' w.heap.size 83 2 encP v1 l1 ∧ Own w' w.heap.size 83 2 encP v2 l2 ∧ FewP l1 ∧ FewP l2 ∧ Below w.heap.size w w'
/-! ### names -/
def FewN (m : Nat) (l : List ByteArray) : Prop := l.length ≤ m ∧ ∀ s ∈ l, s.size ≤ 60
def DrawnStrs (m : Nat) (w : World) (e : Ending) (w' : World) : Prop :=
  ∃ (v : Value) (l : List ByteArray), e = .returned v ∧ Own w' w.heap.size 9 1 encS v l ∧ FewN m l ∧ Below w.heap.size w w'
end Go.Proofs.YtedcgbmdfmgcgaaGreatDoor
