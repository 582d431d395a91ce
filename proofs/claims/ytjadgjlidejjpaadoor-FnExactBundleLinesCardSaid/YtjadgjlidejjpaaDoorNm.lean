/- Names: folds, Contains, ClashOf of the program. -/
import Derived.Test.YtjadgjlidejjpaaDoorW2
import Derived.Test.YtjadgjlidejjpaaDoorEq
set_option linter.unusedVariables false
namespace Go.Proofs.YtjadgjlidejjpaaDoor
open Go.RowKit
attribute [local go_sem] mk_toList
theorem eq_toList (a b : ByteArray) : (a.toList == b.toList) = (bs a == bs b) := by rw [ByteArray.toList_eq, ByteArray.toList_eq]

/-! ### plain: the first index -/
def idxIn (l : List ByteArray) (x : ByteArray) (r : Int) : Prop := if (l.any fun y => bs x == bs y) then 0 ≤ r else r < 0
def hasS (l : List ByteArray) (x : ByteArray) : Bool := l.any fun y => bs x == bs y
def NotYet (l : List ByteArray) (x : ByteArray) (k : Nat) : Prop := ∀ y ∈ l.take k, (bs x == bs y) = false
theorem NotYet.succ {l : List ByteArray} {x : ByteArray} {k : Nat} (h : NotYet l x k) (hk : k < l.length) (hx : (bs x == bs l[k]) = false) : NotYet l x (k + 1) := by
  intro y hy
  rw [List.take_succ_eq_append_getElem hk, List.mem_append, List.mem_singleton] at hy
  rcases hy with hy | rfl
  · exact h y hy
  · exact hx
theorem NotYet.none {l : List ByteArray} {x : ByteArray} {k : Nat} (h : NotYet l x k) (hk : ¬ k < l.length) : hasS l x = false := by
  unfold hasS; rw [List.any_eq_false]; intro y hy
  rw [h y (by rw [List.take_of_length_le (by omega)]; exact hy)]; simp
theorem hasS_at {l : List ByteArray} {x : ByteArray} {k : Nat} (hk : k < l.length) (hx : (bs x == bs l[k]) = true) : hasS l x = true := by
  unfold hasS; rw [List.any_eq_true]; exact ⟨l[k], by simp, hx⟩
def IndexR (l : List ByteArray) (x : ByteArray) (w : World) (e : Ending) (w' : World) : Prop := ∃ r : Int, e = .returned (.int .i64 r) ∧ (hasS l x = true → 0 ≤ r) ∧ (hasS l x = false → r = -1) ∧ w = w'


/-! ### folds -/
def folds (ss : List ByteArray) : List ByteArray := ss.map fun s => mk (foldName (bs s))
def allFold (ss : List ByteArray) : Bool := ss.all fun s => !(foldName (bs s)).isEmpty
theorem folds_take {ss : List ByteArray} {k : Nat} (h : k < ss.length) : folds (ss.take (k + 1)) = folds (ss.take k) ++ [mk (foldName (bs ss[k]))] := by
  unfold folds; rw [List.take_succ_eq_append_getElem h, List.map_append]; rfl
theorem folds_len (ss : List ByteArray) : (folds ss).length = ss.length := by simp [folds]
def FoldsR (ss : List ByteArray) (w : World) (e : Ending) (w' : World) : Prop :=
  ∃ v, e = .returned (.tuple #[v, .bool (allFold ss)]) ∧ Own w' w.heap.size 9 1 encS v (if allFold ss then folds ss else []) ∧ Below w.heap.size w w'

/-! ### clashes -/
/-- The first place before 'k' whose text is one before it; -1 if there is none. -/
def clashTo (fs : List ByteArray) : Nat → Int
  | 0 => -1
  | k + 1 => if 0 ≤ clashTo fs k then clashTo fs k else if hasS (fs.take k) (fs.getD k ⟨#[]⟩) then k else -1
def clashOf (ss : List ByteArray) : Int := if allFold ss then clashTo (folds ss) ss.length else -1
theorem clashTo_lt (fs : List ByteArray) : ∀ k, clashTo fs k < k ∧ -1 ≤ clashTo fs k
  | 0 => by simp [clashTo]
  | k + 1 => by
    have := clashTo_lt fs k
    unfold clashTo; split
    · omega
    · split <;> omega
theorem clashTo_no {fs : List ByteArray} {k : Nat} (h : clashTo fs k = -1) (hn : hasS (fs.take k) (fs.getD k ⟨#[]⟩) = false) : clashTo fs (k + 1) = -1 := by
  unfold clashTo; rw [if_neg (by omega), if_neg (by rw [hn]; simp)]
theorem clashTo_yes {fs : List ByteArray} {k : Nat} (h : clashTo fs k = -1) (hn : hasS (fs.take k) (fs.getD k ⟨#[]⟩) = true) : clashTo fs (k + 1) = k := by
  unfold clashTo; rw [if_neg (by omega), if_pos hn]
theorem clashTo_keep {fs : List ByteArray} {k : Nat} (h : 0 ≤ clashTo fs k) : clashTo fs (k + 1) = clashTo fs k := by
  rw [clashTo, if_pos h]
theorem clashTo_stays {fs : List ByteArray} {k : Nat} (h : 0 ≤ clashTo fs k) : ∀ n, clashTo fs (k + n) = clashTo fs k
  | 0 => rfl
  | n + 1 => by
    have ih := clashTo_stays h n
    rw [← Nat.add_assoc, clashTo_keep (by rw [ih]; exact h), ih]
theorem getD_at {fs : List ByteArray} {k : Nat} (h : k < fs.length) : fs.getD k ⟨#[]⟩ = fs[k] := by
  rw [List.getD_eq_getElem?_getD, List.getElem?_eq_getElem h]; rfl
theorem Sl.take {α : Type} {enc : α → List Value} {w : World} {size : Nat} {A : Option Addr} {l : List α} (h : Sl w enc size A l) (k : Nat) : Sl w enc size A (l.take k) := by
  intro hn
  obtain ⟨b, o, e, hc⟩ := h (by rw [List.length_take] at hn; omega)
  refine ⟨b, o, e, fun j u hu => hc j u ?_⟩
  have hf : flat enc l = flat enc (l.take k) ++ flat enc (l.drop k) := by rw [← flat_append, List.take_append_drop]
  rw [hf, List.getElem?_append_left (List.getElem?_eq_some_iff.1 hu).1]; exact hu
end Go.Proofs.YtjadgjlidejjpaaDoor
