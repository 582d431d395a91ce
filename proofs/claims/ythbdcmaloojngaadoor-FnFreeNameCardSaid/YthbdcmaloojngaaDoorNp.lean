/- Clashing and free names in plain Lean. -/
import Derived.Test.YthbdcmaloojngaaDoorNm2
set_option linter.unusedVariables false
namespace Go.Proofs.YthbdcmaloojngaaDoor
--BEGIN
theorem clashTo_append (fs gs : List ByteArray) : ∀ k, k ≤ fs.length → clashTo (fs ++ gs) k = clashTo fs k
  | 0, _ => rfl
  | k + 1, h => by
    have ih := clashTo_append fs gs k (by omega)
    have e1 : (fs ++ gs).take k = fs.take k := by rw [List.take_append_of_le_length (by omega)]
    have e2 : (fs ++ gs).getD k ⟨#[]⟩ = fs.getD k ⟨#[]⟩ := by
      rw [List.getD_eq_getElem?_getD, List.getD_eq_getElem?_getD, List.getElem?_append_left (by omega)]
    rw [clashTo, clashTo, ih, e1, e2]
theorem folds_append (a b : List ByteArray) : folds (a ++ b) = folds a ++ folds b := by simp [folds]
theorem allFold_append (a b : List ByteArray) : allFold (a ++ b) = (allFold a && allFold b) := by simp [allFold, List.all_append]
theorem clashOf_bd (ss : List ByteArray) : -1 ≤ clashOf ss ∧ clashOf ss < ss.length ∨ clashOf ss = -1 := by
  unfold clashOf; split
  · have := clashTo_lt (folds ss) ss.length; omega
  · right; rfl
theorem clashOf_lo (ss : List ByteArray) : -1 ≤ clashOf ss := by rcases clashOf_bd ss with h | h <;> omega
/-- One name more, behind names without clash. -/
theorem clashOf_more {ss : List ByteArray} {x : ByteArray} (ha : allFold ss = true) (hc : clashOf ss = -1) (hx : (foldName (bs x)).isEmpty = false) :
    clashOf (ss ++ [x]) = if hasS (folds ss) (mk (foldName (bs x))) then (ss.length : Int) else -1 := by
  have h1 : allFold (ss ++ [x]) = true := by rw [allFold_append, ha]; simp [allFold, hx]
  unfold clashOf at hc ⊢
  rw [ha, if_pos rfl] at hc
  rw [h1, if_pos rfl, folds_append, List.length_append]
  have h2 : clashTo (folds ss ++ folds [x]) ss.length = -1 := by rw [clashTo_append _ _ _ (by rw [folds_len]; omega)]; exact hc
  have e1 : (folds ss ++ folds [x]).take ss.length = folds ss := by
    exact List.take_left' (folds_len ss)
  have e2 : (folds ss ++ folds [x]).getD ss.length ⟨#[]⟩ = mk (foldName (bs x)) := by
    have := folds_len ss
    rw [List.getD_eq_getElem?_getD, List.getElem?_append_right (by omega), this, Nat.sub_self]; rfl
  show clashTo _ (ss.length + 1) = _
  rw [clashTo, if_neg (by rw [h2]; omega), e1, e2]
theorem clashOf_bad {ss : List ByteArray} (h : allFold ss = false) : clashOf ss = -1 := by unfold clashOf; rw [h]; rfl
theorem hasS_iff {l : List ByteArray} {x : ByteArray} : hasS l x = true ↔ ∃ y ∈ l, bs x = bs y := by
  unfold hasS; rw [List.any_eq_true]
  constructor
  · rintro ⟨y, hy, h⟩; exact ⟨y, hy, by simpa using h⟩
  · rintro ⟨y, hy, h⟩; exact ⟨y, hy, by simpa using h⟩
/-- Where there is a clash: it is with one before, and there was none before. -/
theorem clashTo_first (fs : List ByteArray) : ∀ (m : Nat) (n : Nat), clashTo fs m = n → n < m ∧ hasS (fs.take n) (fs.getD n ⟨#[]⟩) = true ∧ clashTo fs n = -1
  | 0, n, h => by rw [clashTo] at h; omega
  | m + 1, n, h => by
    have hb := clashTo_lt fs m
    rw [clashTo] at h
    split at h
    · have := clashTo_first fs m n h
      exact ⟨by omega, this.2⟩
    · split at h
      · rename_i h1 h2
        have e : m = n := by omega
        subst e
        exact ⟨by omega, h2, by omega⟩
      · omega
theorem clashOf_first {ss : List ByteArray} {n : Nat} (h : clashOf ss = n) : ∃ hn : n < ss.length, (∃ (k : Nat) (hk : k < n), foldName (bs (ss[k]'(by omega))) = foldName (bs ss[n])) ∧ clashOf (ss.take n) = -1 := by
  by_cases ha : allFold ss = true
  · unfold clashOf at h
    rw [ha, if_pos rfl] at h
    obtain ⟨h1, h2, h3⟩ := clashTo_first _ _ _ h
    refine ⟨h1, ?_, ?_⟩
    · obtain ⟨y, hy, he⟩ := hasS_iff.1 h2
      obtain ⟨k, hk, rfl⟩ := List.getElem_of_mem hy
      rw [List.length_take, folds_len] at hk
      have hkn : k < n := by omega
      refine ⟨k, hkn, ?_⟩
      rw [List.getElem_take, folds_at (by omega)] at he
      rw [getD_at (by rw [folds_len]; exact h1), folds_at h1] at he
      exact he.symm
    · unfold clashOf
      have ha2 : allFold (ss.take n) = true := by
        unfold allFold at ha ⊢
        rw [List.all_eq_true] at ha ⊢
        exact fun x hx => ha x (List.mem_of_mem_take hx)
      rw [ha2, if_pos rfl]
      have e : folds ss = folds (ss.take n) ++ folds (ss.drop n) := by rw [← folds_append, List.take_append_drop]
      have hl : (ss.take n).length = n := by rw [List.length_take]; omega
      rw [e, clashTo_append _ _ _ (by rw [folds_len, hl]; omega)] at h3
      rw [hl]; exact h3
  · rw [clashOf_bad (by simpa using ha)] at h; omega

def digits29 : List UInt8 := [50, 51, 52, 53, 54, 55, 56, 57]
def cutName (s : Bs) (d : UInt8) : Bs := s.take 7 ++ [d]
def freeOf (names : List ByteArray) (s : Bs) : Bs :=
  if allFold names && (decide (clashOf names = -1) && !(foldName s).isEmpty) then
    if hasS (folds names) (mk (foldName s)) then
      match digits29.find? fun d => !hasS (folds names) (mk (foldName (cutName s d))) with
      | some d => cutName s d
      | none => []
    else s
  else []
theorem foldName_cut {s : Bs} {d : UInt8} (hs : (foldName s).isEmpty = false) (hd : digitC d = true) : (foldName (cutName s d)).isEmpty = false := by
  have h : 1 ≤ s.length ∧ s.length ≤ 8 ∧ s.all fineC = true := by
    by_cases h : 1 ≤ s.length ∧ s.length ≤ 8 ∧ s.all fineC = true
    · exact h
    · unfold foldName at hs; rw [if_neg h] at hs; simp at hs
  have hfd : foldC d = d := by
    unfold foldC; rw [if_neg]
    unfold digitC inI at hd; simp at hd; omega
  have h2 : 1 ≤ (cutName s d).length ∧ (cutName s d).length ≤ 8 ∧ (cutName s d).all fineC = true := by
    unfold cutName
    refine ⟨by simp, by simp; omega, ?_⟩
    rw [List.all_append, Bool.and_eq_true]
    refine ⟨?_, ?_⟩
    · rw [List.all_eq_true]; exact fun x hx => List.all_eq_true.1 h.2.2 x (List.mem_of_mem_take hx)
    · simp only [List.all_cons, List.all_nil, Bool.and_true]
      unfold fineC; rw [hfd, hd, Bool.or_true]
  have e : foldName (cutName s d) = (cutName s d).map foldC := by unfold foldName; rw [if_pos h2]
  rw [e]
  unfold cutName; simp
theorem cutName_len {s : Bs} {d : UInt8} : (cutName s d).length ≤ 8 := by unfold cutName; simp; omega
/-- A free name does not clash. -/
theorem free_fine {names : List ByteArray} {s : Bs} (h : freeOf names s ≠ []) : (foldName (freeOf names s)).isEmpty = false ∧ clashOf (names ++ [mk (freeOf names s)]) = -1 := by
  unfold freeOf at h ⊢
  split
  · rename_i hh
    rw [if_pos hh] at h
    simp only [Bool.and_eq_true, decide_eq_true_eq, Bool.not_eq_true'] at hh
    obtain ⟨ha, hc, hs⟩ := hh
    split
    · rename_i hhas
      rw [if_pos hhas] at h
      split
      · rename_i d hd
        have hm := List.mem_of_find?_eq_some hd
        have hp := List.find?_some hd
        have hdig : digitC d = true := by
          have : ∀ d ∈ digits29, digitC d = true := by decide
          exact this d hm
        have hf := foldName_cut hs hdig
        refine ⟨hf, ?_⟩
        have := clashOf_more (x := mk (cutName s d)) ha hc hf
        rw [this, if_neg]
        have e : bs (mk (cutName s d)) = cutName s d := rfl
        rw [e]; simpa using hp
      · rename_i hd; rw [hd] at h; exact absurd rfl h
    · rename_i hhas
      refine ⟨hs, ?_⟩
      have := clashOf_more (x := mk s) ha hc hs
      rw [this, if_neg]
      have e : bs (mk s) = s := rfl
      rw [e]; exact hhas
  · rename_i hh; rw [if_neg hh] at h; exact absurd rfl h
--END
end Go.Proofs.YthbdcmaloojngaaDoor
