/- Tags, walked: right ones. -/
import Derived.Test.YtjadgjlidejjpaaDoorVe
import Derived.Test.YtjadgjlidejjpaaDoorDm
import Derived.Test.YtjadgjlidejjpaaDoorSTag
set_option linter.unusedVariables false
namespace Go.Proofs.YtjadgjlidejjpaaDoor
open Go.RowKit

theorem bytes_ext {a b : ByteArray} (h : (a.toList == b.toList) = true) : a = b := by
  have h2 := beq_iff_eq.1 h
  rw [ByteArray.toList_eq, ByteArray.toList_eq] at h2
  obtain ⟨⟨x⟩⟩ := a
  obtain ⟨⟨y⟩⟩ := b
  simp at h2; subst h2; rfl
def eqT (a b : Tg) : Bool := (a.1.toList == b.1.toList) && ((a.2.1 == b.2.1) && ((a.2.2.1 == b.2.2.1) && (a.2.2.2 == b.2.2.2)))
theorem eqT_iff {a b : Tg} : eqT a b = true ↔ a = b := by
  unfold eqT
  constructor
  · intro h
    simp only [Bool.and_eq_true, beq_iff_eq] at h
    obtain ⟨h1, h2, h3, h4⟩ := h
    obtain ⟨a1, a2, a3, a4⟩ := a
    obtain ⟨b1, b2, b3, b4⟩ := b
    simp only at h1 h2 h3 h4
    have := bytes_ext (beq_iff_eq.2 h1)
    subst this h2 h3 h4; rfl
  · rintro rfl; simp
theorem tagR_ok {l : List Vr} {t : Tg} (h : mkOk l t.1 t.2.1 = true) : tagR l t = eqT (mkT l t.1 t.2.1) t := by
  unfold mkOk at h
  cases hm : makeTag l t.1 t.2.1 with
  | none => rw [hm] at h; cases h
  | some m =>
    have e : mkT l t.1 t.2.1 = m := by unfold mkT; rw [hm]; rfl
    rw [e, Bool.eq_iff_iff, eqT_iff, tagR_iff, hm]
    exact ⟨fun h => Option.some.inj h, fun h => congrArg some h⟩
theorem tagR_no {l : List Vr} {t : Tg} (h : mkOk l t.1 t.2.1 = false) : tagR l t = false := by
  unfold mkOk at h
  cases hm : makeTag l t.1 t.2.1 with
  | none =>
    cases ht : tagR l t
    · rfl
    · rw [tagR_iff.1 ht] at hm; cases hm
  | some m => rw [hm] at h; cases h
theorem rightTags_take_yes {l : List Vr} {ts : List Tg} {k : Nat} (h : k < ts.length) (hp : tagR l ts[k] = true) : rightTags l (ts.take (k + 1)) = rightTags l (ts.take k) ++ [ts[k]] := filter_take_yes h hp
theorem rightTags_take_no {l : List Vr} {ts : List Tg} {k : Nat} (h : k < ts.length) (hp : tagR l ts[k] = false) : rightTags l (ts.take (k + 1)) = rightTags l (ts.take k) := filter_take_no h hp
def FitT (l : List Tg) : Prop := ∀ t ∈ l, t.1.size ≤ 16777216
theorem FitT.at {l : List Tg} (h : FitT l) {k : Nat} (hk : k < l.length) : l[k].1.size ≤ 16777216 := h _ (by simp)
section
variable {ops : Array Oper} {rest : List Oper} {o : Oper} {a : Act} {Q : Exit → Act → World → Prop} {w0 wr : World} {v : Value}
end
theorem rightTags_len (l : List Vr) (ts : List Tg) : (rightTags l ts).length ≤ ts.length := List.length_filter_le _ _
end Go.Proofs.YtjadgjlidejjpaaDoor
