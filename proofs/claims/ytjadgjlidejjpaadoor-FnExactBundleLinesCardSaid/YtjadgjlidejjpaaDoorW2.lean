/- Walks: words and folded names. -/
import Derived.Test.YtjadgjlidejjpaaDoorW1
set_option linter.unusedVariables false
namespace Go.Proofs.YtjadgjlidejjpaaDoor
open Go.RowKit
attribute [local go_sem] mk_size mk_append i32_byte

theorem foldC_up {c : UInt8} (h1 : 65 ≤ (c.toNat : Int)) (h2 : (c.toNat : Int) ≤ 90) : ((foldC c).toNat : Int) = (c.toNat : Int) + 32 := by
  have e : foldC c = c + 32 := by unfold foldC; rw [if_pos ⟨h1, h2⟩]
  rw [e, UInt8.toNat_add]; simp; omega
theorem foldC_same {c : UInt8} (h : ¬ (65 ≤ (c.toNat : Int) ∧ (c.toNat : Int) ≤ 90)) : foldC c = c := by unfold foldC; rw [if_neg h]
theorem up_fine {c : UInt8} (h1 : 65 ≤ (c.toNat : Int)) (h2 : (c.toNat : Int) ≤ 90) : fineC c = true := by
  have := foldC_up h1 h2
  unfold fineC smallC; rw [this]; simp [inI]; omega
theorem fine_lt {c : UInt8} (h : fineC c = true) : (foldC c).toNat < 128 := by
  unfold fineC smallC digitC inI at h
  simp at h; omega
theorem foldName_ok {s : ByteArray} {k : Nat} (h1 : 1 ≤ s.size) (h2 : s.size ≤ 8) (hk : ¬ k < s.size) (ho : AllUpto fineC s k) : foldName (bs s) = ((bs s).take k).map foldC := by
  rw [List.take_of_length_le (by rw [size_bs]; omega)]
  unfold foldName; rw [if_pos ⟨h1, h2, ho.all hk⟩]
theorem foldName_long {s : ByteArray} (h : ¬ (1 ≤ s.size ∧ s.size ≤ 8)) : foldName (bs s) = [] := by
  unfold foldName; rw [if_neg]; rintro ⟨a, b, _⟩; exact h ⟨a, b⟩
theorem foldName_bad {s : ByteArray} {k : Nat} (hk : k < s.size) (h : fineC s[k] = false) : foldName (bs s) = [] := by
  unfold foldName; rw [if_neg]; rintro ⟨_, _, a⟩
  have := List.all_eq_true.1 a s[k] (by simp [bs, ByteArray.getElem_eq_getElem_data])
  rw [h] at this; cases this
theorem take_fold {s : ByteArray} {k : Nat} (h : k < s.size) : ((bs s).take (k + 1)).map foldC = ((bs s).take k).map foldC ++ [foldC s[k]] := by
  rw [List.take_succ_eq_append_getElem (by exact h)]; simp [get_bs s k h]
theorem mk_nil : mk [] = ⟨#[]⟩ := rfl
theorem small_not_digit {n : Int} (h : inI n 97 122 = true) : inI n 48 57 = false := by simp [inI] at *; omega

theorem conv_one (w : World) (c : Int) (h0 : 0 ≤ c) (h1 : c < 256) :
    (convert 46 9 (.slice (some ⟨w.heap.size, 0, none⟩) 1 1)).run Tryd.prog (w.alloc (.cells #[.int .u8 c] 5)) = .ok (.string (mk [UInt8.ofNat c.toNat])) (w.alloc (.cells #[.int .u8 c] 5)) := by
  have h := run_convert_bytes_back (P := Tryd.prog) (w.alloc (.cells #[.int .u8 c] 5)) 46 9 5 ⟨w.heap.size, 0, none⟩ 1 [UInt8.ofNat c.toNat] Tryd.underlying46 Tryd.underlying5 Tryd.underlying9 (by
    intro j hj
    have : j = 0 := by simpa using hj
    subst this
    rw [show (⟨w.heap.size, 0, none⟩ : Addr).add 0 = ⟨w.heap.size, 0, none⟩ from rfl, cell_of_row _ _ 0 _ 5 (0, 0) (heap_alloc_new w _)]
    simp; omega)
  exact h
theorem ofNat_toNat_fold (c : UInt8) : UInt8.ofNat ((c.toNat : Int)).toNat = c := by simp

/-! ### words -/
def wordC (c : UInt8) : Bool := smallC c || digitC c
theorem wordV_bad {s : ByteArray} {k : Nat} (h : k < s.size) (hb : wordC s[k] = false) : wordV (bs s) = false := by
  unfold wordV
  rw [Bool.and_eq_false_iff]; right
  rw [List.all_eq_false]
  exact ⟨s[k], by simp [bs, ByteArray.getElem_eq_getElem_data], by unfold wordC at hb; simp [hb]⟩
theorem wordV_len {s : ByteArray} (h : ¬ (1 ≤ s.size ∧ s.size ≤ 8)) : wordV (bs s) = false := by
  unfold wordV
  have : decide (1 ≤ (bs s).length ∧ (bs s).length ≤ 8) = false := by simpa [size_bs] using h
  rw [this]; rfl
theorem head_bs {s : ByteArray} (h : 0 < s.size) : (bs s).headD 0 = s[0] := by
  have := get_bs s 0 h
  cases hb : bs s with
  | nil => have := size_bs s; rw [hb] at this; simp at this; omega
  | cons c r => simp [hb] at this ⊢; exact this
theorem wordV_dig {s : ByteArray} (h : 0 < s.size) (hd : digitC s[0] = true) : wordV (bs s) = false := by
  unfold wordV; rw [head_bs h, hd]; simp
theorem wordV_good {s : ByteArray} {k : Nat} (h1 : 1 ≤ s.size) (h2 : s.size ≤ 8) (hd : digitC s[0] = false) (hk : ¬ k < s.size) (ho : AllUpto wordC s k) : wordV (bs s) = true := by
  unfold wordV; rw [head_bs h1, hd]
  have := ho.all hk
  simp only [Bool.and_eq_true, decide_eq_true_eq, Bool.not_false, and_true, size_bs]
  exact ⟨⟨h1, h2⟩, this⟩
theorem wordV_size {s : ByteArray} (h : wordV (bs s) = true) : 1 ≤ s.size ∧ s.size ≤ 8 := by
  rcases Decidable.em (1 ≤ s.size ∧ s.size ≤ 8) with h' | h'
  · exact h'
  · rw [wordV_len h'] at h; cases h

end Go.Proofs.YtjadgjlidejjpaaDoor
