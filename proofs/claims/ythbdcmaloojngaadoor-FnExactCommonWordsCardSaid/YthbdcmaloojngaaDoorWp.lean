/- Words of a text, and repaired pieces, in plain Lean. -/
import Derived.Test.YthbdcmaloojngaaDoorPure
set_option linter.unusedVariables false
namespace Go.Proofs.YthbdcmaloojngaaDoor

def addW (acc : List Bs) (w : Bs) : List Bs := if wordV w && !acc.contains w then acc ++ [w] else acc
/-- The parts between spaces; 'cur' is what of the first part was read. -/
def spl : Bs → Bs → List Bs
  | cur, [] => [cur]
  | cur, c :: r => if c = 32 then cur :: spl [] r else spl (cur ++ [c]) r
def wordsOf (s : Bs) : List Bs := if textV s then (spl [] s).foldl addW [] else []
/-- The reference's way: byte by byte. -/
def wrun : List Bs → Bs → Bs → List Bs × Bs
  | out, w, [] => (out, w)
  | out, w, c :: r => if c = 32 then wrun (addW out w) [] r else wrun out (w ++ [c]) r
theorem wrun_spl : ∀ (r : Bs) (out : List Bs) (w : Bs), addW (wrun out w r).1 (wrun out w r).2 = (spl w r).foldl addW out
  | [], out, w => rfl
  | c :: r, out, w => by
    rw [wrun, spl]
    split
    · rw [wrun_spl r]; rfl
    · rw [wrun_spl r]
theorem wrun_snoc : ∀ (r : Bs) (out : List Bs) (w : Bs) (c : UInt8), wrun out w (r ++ [c]) = if c = 32 then (addW (wrun out w r).1 (wrun out w r).2, []) else ((wrun out w r).1, (wrun out w r).2 ++ [c])
  | [], out, w, c => by simp only [List.nil_append, wrun]
  | d :: r, out, w, c => by
    rw [List.cons_append, wrun, wrun]
    split
    · exact wrun_snoc r _ _ c
    · exact wrun_snoc r _ _ c
/-- All valid, none twice. -/
def WordsOk (l : List Bs) : Prop := (∀ w ∈ l, wordV w = true) ∧ l.Nodup
theorem addW_ok {l : List Bs} (w : Bs) (h : WordsOk l) : WordsOk (addW l w) := by
  unfold addW
  split
  · rename_i hh
    simp only [Bool.and_eq_true, Bool.not_eq_true', List.contains_eq_mem, decide_eq_false_iff_not] at hh
    refine ⟨fun x hx => ?_, ?_⟩
    · rw [List.mem_append, List.mem_singleton] at hx
      rcases hx with hx | rfl
      · exact h.1 x hx
      · exact hh.1
    · rw [List.nodup_append]
      refine ⟨h.2, by simp, fun a ha b hb => ?_⟩
      rw [List.mem_singleton] at hb; subst hb
      rintro rfl
      exact hh.2 ha
  · exact h
theorem foldl_ok : ∀ (ps : List Bs) (l : List Bs), WordsOk l → WordsOk (ps.foldl addW l)
  | [], l, h => h
  | p :: ps, l, h => foldl_ok ps _ (addW_ok p h)
theorem wordsOf_ok (s : Bs) : WordsOk (wordsOf s) := by
  unfold wordsOf
  split
  · exact foldl_ok _ _ ⟨by simp, List.nodup_nil⟩
  · exact ⟨by simp, List.nodup_nil⟩
theorem spl_append : ∀ (r : Bs) (cur q : Bs), spl cur (r ++ 32 :: q) = spl cur r ++ spl [] q
  | [], cur, q => by simp [spl]
  | c :: r, cur, q => by
    rw [List.cons_append, spl, spl]
    split
    · rw [spl_append r]; rfl
    · rw [spl_append r]
theorem wordsOf_zoo {s : Bs} (h : textV (s ++ [32, 122, 111, 111]) = true) : textV s = true ∧ wordsOf (s ++ [32, 122, 111, 111]) = addW (wordsOf s) [122, 111, 111] := by
  have hs : textV s = true := by
    unfold textV at *
    rw [Bool.and_eq_true, decide_eq_true_eq] at *
    rw [List.all_append, Bool.and_eq_true] at h
    refine ⟨?_, h.2.1⟩
    have := h.1; simp at this; omega
  refine ⟨hs, ?_⟩
  unfold wordsOf
  rw [if_pos h, if_pos hs, spl_append, List.foldl_append]
  rfl
theorem spl_len : ∀ (r cur : Bs), (spl cur r).length ≤ r.length + 1
  | [], cur => by simp [spl]
  | c :: r, cur => by
    rw [spl]; split
    · have := spl_len r []; simp; omega
    · have := spl_len r (cur ++ [c]); simp; omega
theorem foldl_len : ∀ (ps l : List Bs), (ps.foldl addW l).length ≤ l.length + ps.length
  | [], l => by simp
  | p :: ps, l => by
    have := foldl_len ps (addW l p)
    have h2 : (addW l p).length ≤ l.length + 1 := by unfold addW; split <;> simp
    simp only [List.foldl_cons, List.length_cons]; omega
theorem textV_le {s : Bs} (h : textV s = true) : s.length ≤ 60 := by
  unfold textV at h; rw [Bool.and_eq_true] at h; simpa using h.1
theorem wordsOf_len (s : Bs) : (wordsOf s).length ≤ 61 := by
  unfold wordsOf; split
  · rename_i h
    have h1 := foldl_len (spl [] s) []
    have h2 := spl_len s []
    have h3 := textV_le h
    simp at h1; omega
  · simp
/-- Every part is no longer than the text. -/
theorem spl_short : ∀ (r cur : Bs), ∀ p ∈ spl cur r, p.length ≤ cur.length + r.length
  | [], cur, p, h => by simp [spl] at h; subst h; simp
  | c :: r, cur, p, h => by
    rw [spl] at h
    split at h
    · rw [List.mem_cons] at h
      rcases h with rfl | h
      · omega
      · have := spl_short r [] p h; simp at this ⊢; omega
    · have := spl_short r _ p h; simp at this ⊢; omega
def commonW (a b : Bs) : List Bs := (wordsOf a).filter fun w => (wordsOf b).contains w
theorem commonW_self (a : Bs) : commonW a a = wordsOf a := by
  unfold commonW; rw [List.filter_eq_self]; intro w hw; simpa using hw
theorem commonW_len (a b : Bs) : (commonW a b).length = (commonW b a).length := by
  have h1 := wordsOf_ok a
  have h2 := wordsOf_ok b
  have hp : (commonW a b).Perm (commonW b a) := by
    refine (List.perm_ext_iff_of_nodup (h1.2.filter _) (h2.2.filter _)).2 fun w => ?_
    simp only [List.mem_filter, List.contains_eq_mem, decide_eq_true_eq]
    exact And.comm
  exact hp.length_eq
theorem commonW_le (a b : Bs) : (commonW a b).length ≤ (wordsOf a).length := List.length_filter_le _ _
end Go.Proofs.YthbdcmaloojngaaDoor
