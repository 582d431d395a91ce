/- Repaired pieces, and free names, in plain Lean. -/
import Derived.Test.YtjadgjlidejjpaaDoorW3
import Derived.Test.YtjadgjlidejjpaaDoorNm
set_option linter.unusedVariables false
namespace Go.Proofs.YtjadgjlidejjpaaDoor
--BEGIN
def goodCopy (p : Int) (copies : List Pc) : Option Pc := copies.find? fun c => c.1 == p && pieceR c
/-- A piece, repaired; and how many were (0, 1). -/
def repair1 (copies : List Pc) (p : Pc) : Pc × Int := if pieceR p then (p, 0) else match goodCopy p.1 copies with | some c => (c, 1) | none => (p, 0)
def repairs (copies : List Pc) (l : List Pc) : List Pc := l.map fun p => (repair1 copies p).1
def many (copies : List Pc) : List Pc → Int
  | [] => 0
  | p :: r => (repair1 copies p).2 + many copies r
def damaged (l : List Pc) : List Int := (l.filter fun p => !pieceR p).map (·.1)
theorem many_append (copies : List Pc) : ∀ a b : List Pc, many copies (a ++ b) = many copies a + many copies b
  | [], b => by simp [many]
  | p :: r, b => by rw [List.cons_append, many, many, many_append copies r b]; omega
theorem many_take {copies l : List Pc} {k : Nat} (h : k < l.length) : many copies (l.take (k + 1)) = many copies (l.take k) + (repair1 copies l[k]).2 := by
  rw [List.take_succ_eq_append_getElem h, many_append]; simp [many]
theorem repair1_bd (copies : List Pc) (p : Pc) : 0 ≤ (repair1 copies p).2 ∧ (repair1 copies p).2 ≤ 1 := by
  unfold repair1; split
  · simp
  · split <;> simp
theorem many_bd (copies : List Pc) : ∀ l : List Pc, 0 ≤ many copies l ∧ many copies l ≤ l.length
  | [] => by simp [many]
  | p :: r => by
    have := many_bd copies r
    have := repair1_bd copies p
    rw [many, List.length_cons]; omega
theorem goodCopy_some {p : Int} {copies : List Pc} {c : Pc} (h : goodCopy p copies = some c) : c.1 = p ∧ pieceR c = true := by
  have := List.find?_some h
  simp only [Bool.and_eq_true, beq_iff_eq] at this
  exact this
theorem repair1_print (copies : List Pc) (p : Pc) : (repair1 copies p).1.1 = p.1 := by
  unfold repair1; split
  · rfl
  · split
    · rename_i c h; exact (goodCopy_some h).1
    · rfl
theorem repair1_right {copies : List Pc} {p : Pc} (h : pieceR p = true) : repair1 copies p = (p, 0) := by unfold repair1; rw [if_pos h]
theorem damaged_many (copies : List Pc) : ∀ l : List Pc, ((damaged (repairs copies l)).length : Int) + many copies l = (damaged l).length
  | [] => rfl
  | p :: r => by
    have ih := damaged_many copies r
    have e : repairs copies (p :: r) = (repair1 copies p).1 :: repairs copies r := rfl
    rw [e, many]
    unfold damaged at ih ⊢
    cases hp : pieceR p
    · cases hg : goodCopy p.1 copies with
      | none =>
        have e1 : repair1 copies p = (p, 0) := by unfold repair1; rw [if_neg (by simp [hp]), hg]
        rw [e1]
        simp only [List.filter_cons, hp, Bool.not_false, if_true, List.map_cons, List.length_cons]
        omega
      | some c =>
        have e1 : repair1 copies p = (c, 1) := by unfold repair1; rw [if_neg (by simp [hp]), hg]
        rw [e1]
        have hc := (goodCopy_some hg).2
        simp only [List.filter_cons, hp, hc, Bool.not_false, Bool.not_true, if_true, List.map_cons, List.length_cons]
        simp
        simp at ih
        omega
    · rw [repair1_right hp]
      simp only [List.filter_cons, hp, Bool.not_true]
      simp at ih ⊢
      omega
theorem damaged_len (l : List Pc) : (damaged l).length ≤ l.length := by
  unfold damaged; rw [List.length_map]; exact List.length_filter_le _ _
theorem damaged_take {l : List Pc} {k : Nat} (h : k < l.length) : damaged (l.take (k + 1)) = damaged (l.take k) ++ if pieceR l[k] then [] else [l[k].1] := by
  unfold damaged
  rw [List.take_succ_eq_append_getElem h, List.filter_append, List.map_append]
  congr 1
  cases hp : pieceR l[k] <;> simp [hp]
--END
end Go.Proofs.YtjadgjlidejjpaaDoor
