/- Trees: valid leaves, the root, and the same of texts. -/
import Derived.Test.YtjadgjlidejjpaaDoorTr
set_option linter.unusedVariables false
namespace Go.Proofs.YtjadgjlidejjpaaDoor
open Go.RowKit

theorem lvlUp_length : ∀ (n : Nat) (l : List Int), l.length ≤ n → (lvlUp l).length = (l.length + 1) / 2
  | 0, l, h => by have : l = [] := List.eq_nil_of_length_eq_zero (by omega); subst this; rfl
  | n + 1, l, h => by
    match l, h with
    | [], _ => rfl
    | [a], _ => simp [lvlUp]
    | a :: b :: r, h =>
      have := lvlUp_length n r (by simp at h; omega)
      simp only [lvlUp, List.length_cons, this]; omega
theorem lvlUp_len (l : List Int) : (lvlUp l).length = (l.length + 1) / 2 := lvlUp_length _ l (Nat.le_refl _)
theorem lvlUp_pv : ∀ (n : Nat) (l : List Int), l.length ≤ n → l.all pv = true → (lvlUp l).all pv = true
  | 0, l, h, _ => by have : l = [] := List.eq_nil_of_length_eq_zero (by omega); subst this; rfl
  | n + 1, l, h, ha => by
    match l, h, ha with
    | [], _, _ => rfl
    | [a], _, ha => exact ha
    | a :: b :: r, h, ha =>
      simp only [List.all_cons, Bool.and_eq_true] at ha
      simp only [lvlUp, List.all_cons, Bool.and_eq_true]
      exact ⟨prPair_pv ha.1 ha.2.1, lvlUp_pv n r (by simp at h; omega) ha.2.2⟩
theorem topF_step {f : Nat} {l : List Int} (h : 1 < l.length) : topF (f + 1) l = topF f (lvlUp l) := by
  rw [topF, if_pos h]
theorem topF_one {f : Nat} {l : List Int} (h : l.length = 1) : topF f l = l.headD 0 := by
  cases f with
  | zero => rfl
  | succ f => rw [topF, if_neg (by omega)]
theorem treeRoot_bad {l : List Int} (h : leavesV l = false) : treeRoot l = -1 := by unfold treeRoot; simp [h]
theorem treeRoot_ok {l : List Int} (h : leavesV l = true) : treeRoot l = topF 5 l := by unfold treeRoot; simp [h]
theorem leavesV_iff {l : List Int} : leavesV l = true ↔ 1 ≤ l.length ∧ l.length ≤ 16 ∧ l.all pv = true := by
  unfold leavesV; rw [Bool.and_eq_true, decide_eq_true_eq, and_assoc]
theorem leavesV_len {l : List Int} (h : ¬ (1 ≤ l.length ∧ l.length ≤ 16)) : leavesV l = false := by
  cases hl : leavesV l with
  | false => rfl
  | true => exact absurd ⟨(leavesV_iff.1 hl).1, (leavesV_iff.1 hl).2.1⟩ h
theorem leavesV_all {l : List Int} (h : l.all pv = false) : leavesV l = false := by
  cases hl : leavesV l with
  | false => rfl
  | true => rw [(leavesV_iff.1 hl).2.2] at h; cases h

def lenOf : Value → Nat | .slice _ n _ => n | _ => 0
def Level (l : List Int) (v : Value) (wr : World) : Prop := ∃ (A : Option Addr) (c f : Nat) (m : List Int), v = .slice A m.length c ∧ Sl wr encI 1 A m ∧ 1 ≤ m.length ∧ m.length ≤ 16 ∧ m.length ≤ 2 ^ f ∧ topF 5 l = topF f m

end Go.Proofs.YtjadgjlidejjpaaDoor
