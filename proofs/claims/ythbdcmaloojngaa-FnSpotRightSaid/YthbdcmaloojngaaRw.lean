/- Rows of structs: one element written anew; repaired pieces, walked. -/
import Derived.Test.YthbdcmaloojngaaAp2
import Derived.Test.YthbdcmaloojngaaDm
import Derived.Test.YthbdcmaloojngaaRd
set_option linter.unusedVariables false
namespace Go.Proofs.Ythbdcmaloojngaa
open Go.RowKit

theorem setAll_cells {g : Nat} {E : TypeId} {m : Nat × Nat} : ∀ (us : List Value) (w : World) (j : Nat) (cs : Array Value), w.heap[g]? = some (.cells cs E (0, 0)) →
    ∃ cs' : Array Value, (setAll w g j us).heap[g]? = some (.cells cs' E (0, 0)) ∧ cs'.size = cs.size ∧ ∀ p, cs'[p]? = if j ≤ p ∧ p < j + us.length ∧ p < cs.size then us[p - j]? else cs[p]?
  | [], w, j, cs, h => ⟨cs, h, rfl, fun p => by rw [if_neg]; simp; omega⟩
  | u :: r, w, j, cs, h => by
    obtain ⟨cs', h1, h2, h3⟩ := setAll_cells (m := m) r (w.setCell ⟨g, j, none⟩ u) (j + 1) (cs.setIfInBounds j u) (heap_setCell_same w g j cs E u h)
    refine ⟨cs', h1, by rw [h2]; simp, fun p => ?_⟩
    rw [h3 p]
    simp only [Array.size_setIfInBounds, List.length_cons]
    by_cases hp : p = j
    · subst hp
      rw [if_neg (by omega)]
      by_cases hs : p < cs.size
      · rw [if_pos (by omega)]; simp [hs]
      · rw [if_neg (by omega), Array.getElem?_eq_none (by simp; omega), Array.getElem?_eq_none (by omega)]
    · rw [Array.getElem?_setIfInBounds_ne (by omega)]
      by_cases hh : j + 1 ≤ p ∧ p < j + 1 + r.length ∧ p < cs.size
      · rw [if_pos hh, if_pos (by omega)]
        have e : p - j = p - (j + 1) + 1 := by omega
        rw [e, List.getElem?_cons_succ]
      · rw [if_neg hh, if_neg (by omega)]
/-- Element i of an owned row written anew. -/
theorem Own.setEl {α : Type} {enc : α → List Value} {w : World} {base size : Nat} {E : TypeId} {g n cap : Nat} {l : List α} (h : Own w base E size enc (.slice (some ⟨g, 0, none⟩) n cap) l) (he : ∀ x, (enc x).length = size) (hsz : 0 < size) {i : Nat} (hi : i < l.length) (x : α) :
    Own (setAll w g (i * size) (enc x)) base E size enc (.slice (some ⟨g, 0, none⟩) n cap) (l.set i x) := by
  rcases h.2 with ⟨hv, hn⟩ | ⟨g', cap', cur, hv, hg, hh, hnc, hcm, hs, ht⟩
  · injection hv with e; cases e
  · injection hv with e1 e2 e3
    injection e1 with e1; injection e1 with e1
    subst e1 e2 e3
    obtain ⟨cs', h1, h2, h3⟩ := setAll_cells (m := (0, 0)) (enc x) w (i * size) cur hh
    refine ⟨flat_length he _, .inr ⟨g, cap, cs', by rw [List.length_set], hg, h1, by rw [List.length_set]; exact hnc, hcm, by rw [h2]; exact hs, ?_⟩⟩
    have hlen : (flat enc (l.set i x)).length = l.length * size := by rw [flat_length he, List.length_set]
    have hls : l.length * size ≤ cur.size := by rw [hs]; exact Nat.mul_le_mul_right _ hnc
    have hi2 : i * size + size ≤ l.length * size := by
      have := Nat.mul_le_mul_right size (show i + 1 ≤ l.length from hi)
      rwa [Nat.succ_mul] at this
    have h0 : (flat enc l).length = l.length * size := flat_length he l
    rw [List.length_set]
    apply List.ext_getElem?
    intro p
    by_cases hp : p < l.length * size
    · rw [List.getElem?_take_of_lt hp, Array.getElem?_toList, h3 p, he]
      have hq : p / size < l.length := Nat.div_lt_of_lt_mul (by rwa [Nat.mul_comm] at hp)
      have hdm : p / size * size + p % size = p := by rw [Nat.mul_comm]; exact Nat.div_add_mod p size
      have hms := Nat.mod_lt p hsz
      have hg2 := flat_get he (l.set i x) (p / size) (by rw [List.length_set]; exact hq) (p % size) hms
      rw [hdm] at hg2
      rw [hg2, List.getElem_set]
      by_cases hqi : i = p / size
      · subst hqi
        rw [if_pos rfl, if_pos (by omega)]
        congr 1; omega
      · rw [if_neg hqi, if_neg]
        · have hg3 := flat_get he l (p / size) hq (p % size) hms
          rw [hdm] at hg3
          rw [← hg3]
          have this : (cur.toList.take (l.length * size))[p]? = (flat enc l)[p]? := by rw [ht]
          rw [List.getElem?_take_of_lt hp, Array.getElem?_toList] at this
          exact this
        · intro hh
          apply hqi
          have a1 : i ≤ p / size := (Nat.le_div_iff_mul_le hsz).2 hh.1
          have a2 : p / size < i + 1 := Nat.div_lt_of_lt_mul (by rw [Nat.mul_comm, Nat.succ_mul]; exact hh.2.1)
          omega
    · rw [List.getElem?_eq_none (by simp; omega), List.getElem?_eq_none (by omega)]
theorem Own.free' {α : Type} {enc : α → List Value} {w : World} {base size : Nat} {E : TypeId} {g n cap : Nat} {l : List α} (h : Own w base E size enc (.slice (some ⟨g, 0, none⟩) n cap) l) (j : Nat) : w.frozen? ⟨g, j, none⟩ = false := by
  rcases h.2 with ⟨hv, hn⟩ | ⟨g', cap', cur, hv, hg, hh, hnc, hcm, hs, ht⟩
  · injection hv with e; cases e
  · injection hv with e1
    injection e1 with e1; injection e1 with e1
    subst e1
    exact frozen_of_row w g j cur E hh
/-- An owned row that is not empty: its head. -/
theorem Own.head {α : Type} {enc : α → List Value} {w : World} {base size : Nat} {E : TypeId} {A : Option Addr} {n c : Nat} {l : List α} (h : Own w base E size enc (.slice A n c) l) (hl : 0 < l.length) : ∃ g, A = some ⟨g, 0, none⟩ ∧ base ≤ g ∧ g < w.heap.size := by
  obtain ⟨A', c', e, _, _, hb⟩ := h.sl
  injection e with e1
  rcases hb with ⟨hz, _⟩ | ⟨g, hg, h1, h2⟩
  · subst hz; simp at hl
  · exact ⟨g, e1.trans hg, h1, h2⟩
theorem Own.apart {α : Type} {enc : α → List Value} {w w' : World} {g base size : Nat} {E : TypeId} {v : Value} {l : List α} (h : Own w base E size enc v l) (ho : Only g w w') (hb : ∀ q, v.ownBlock = some q → q ≠ g) : Own w' base E size enc v l := by
  refine World.ownsRow.kept h (row := some g) ho ?_
  cases hv : v.ownBlock with
  | none => exact .inl rfl
  | some k => right; intro e; injection e with e; exact hb k hv e

/-! ### plain -/
theorem find_take {α : Type} (f : α → Bool) (l : List α) (j : Nat) (h : j < l.length) : (l.take (j + 1)).find? f = ((l.take j).find? f).or (if f l[j] then some l[j] else none) := by
  rw [List.take_succ_eq_append_getElem h, List.find?_append]
  congr 1
  cases h2 : f l[j] <;> simp [h2]
theorem goodCopy_take {p : Int} {copies : List Pc} {j : Nat} (h : j < copies.length) : goodCopy p (copies.take (j + 1)) = (goodCopy p (copies.take j)).or (if copies[j].1 == p && pieceR copies[j] then some copies[j] else none) :=
  find_take _ copies j h
theorem goodCopy_prefix {p : Int} {copies : List Pc} {j : Nat} {q : Pc} (h : goodCopy p (copies.take j) = some q) : goodCopy p copies = some q := by
  unfold goodCopy at *
  have e : copies = copies.take j ++ copies.drop j := (List.take_append_drop _ _).symm
  rw [e, List.find?_append, h]; rfl
theorem repair1_none {copies : List Pc} {p : Pc} (h : pieceR p = false) (hg : goodCopy p.1 copies = none) : repair1 copies p = (p, 0) := by unfold repair1; rw [if_neg (by simp [h]), hg]
theorem repair1_some {copies : List Pc} {p q : Pc} (h : pieceR p = false) (hg : goodCopy p.1 copies = some q) : repair1 copies p = (q, 1) := by unfold repair1; rw [if_neg (by simp [h]), hg]
theorem repairs_len (copies l : List Pc) : (repairs copies l).length = l.length := by simp [repairs]
theorem repairs_take {copies l : List Pc} {k : Nat} (h : k < l.length) : repairs copies (l.take (k + 1)) = repairs copies (l.take k) ++ [(repair1 copies l[k]).1] := by
  unfold repairs; rw [List.take_succ_eq_append_getElem h, List.map_append]; rfl
/-- The row while it is repaired: the first k are, the rest is not. -/
def halfRep (copies l : List Pc) (k : Nat) : List Pc := repairs copies (l.take k) ++ l.drop k
theorem halfRep_len (copies l : List Pc) (k : Nat) : (halfRep copies l k).length = l.length := by unfold halfRep; rw [List.length_append, repairs_len, List.length_take, List.length_drop]; omega
theorem halfRep_at {copies l : List Pc} {k : Nat} (h : k < l.length) : (halfRep copies l k)[k]'(by rw [halfRep_len]; exact h) = l[k] := by
  have hl : (repairs copies (l.take k)).length = k := by rw [repairs_len, List.length_take]; omega
  unfold halfRep
  rw [List.getElem_append_right (by omega), List.getElem_drop]
  congr 1; omega
theorem halfRep_succ {copies l : List Pc} {k : Nat} (h : k < l.length) : halfRep copies l (k + 1) = (halfRep copies l k).set k (repair1 copies l[k]).1 := by
  have hl : (repairs copies (l.take k)).length = k := by rw [repairs_len, List.length_take]; omega
  unfold halfRep
  rw [repairs_take h, List.set_append_right _ _ (by omega), hl, Nat.sub_self]
  have e : l.drop k = l[k] :: l.drop (k + 1) := List.drop_eq_getElem_cons h
  rw [e, List.set_cons_zero, List.append_assoc]; rfl
theorem halfRep_same {copies l : List Pc} {k : Nat} (h : k < l.length) (hr : (repair1 copies l[k]).1 = l[k]) : halfRep copies l (k + 1) = halfRep copies l k := by
  rw [halfRep_succ h, hr]
  apply List.ext_getElem (by simp)
  intro q h1 h2
  rw [List.getElem_set]
  split
  · rename_i e; subst e; exact (halfRep_at h).symm
  · rfl
theorem halfRep_done {copies l : List Pc} {k : Nat} (h : ¬ k < l.length) : halfRep copies l k = repairs copies l := by
  unfold halfRep; rw [List.take_of_length_le (by omega), List.drop_of_length_le (by omega), List.append_nil]
end Go.Proofs.Ythbdcmaloojngaa
