/- Written by merge.py: Nwp, Wp, Ws, W2, Eq, Nm, Shelf, Mx, Wo, Fi, Dr1, Fi2, Ap, Far, Mk, W3, St, Qt, Nu, Fz, Za, Ct, Fb, Ht. -/
import Derived.Lib.Split
import Derived.Shelf.Small.Wraps
import Derived.Shelf.Strconv.Itoa0
import Derived.Shelf.Strconv.Itoa1
import Derived.Shelf.LaysM
import Derived.Shelf.Strconv.Itoa2
import Derived.Shelf.Strconv.Itoa3
import Derived.Shelf.Strings.Search1
import Derived.Shelf.Strings.Search2
import Derived.Shelf.Strings.Cut
import Derived.Shelf.Strings.Shaped
import Derived.Shelf.Strings.Prefix
import Derived.Ground.Names2Prog
import Derived.Shelf.Slices.SearchI
import Derived.Test.YtaghiefokmapmaaDoorProg
import Derived.Laws.BitsAllLaws
import Derived.Laws.BitsLemmas
import Derived.Lib.IndexBytes
import Derived.Test.YtaghiefokmapmaaDoorMgBundleLines1
/- Walks by names, files below a root: plain lemmas for the walks of the code. -/
set_option linter.unusedVariables false
namespace Go.Proofs.YtaghiefokmapmaaDoor
open Go.RowKit
def walkB (s : List Pc) (p : Int) (l : List ByteArray) : Option Int := walkP s p (l.map tx)
theorem walkB_step {s : List Pc} {p : Int} {l : List ByteArray} {k : Nat} (hk : k < l.length) :
    walkB s p (l.drop k) = (folderOf s p).bind fun e => (getE e (tx l[k])).bind fun q => walkB s q (l.drop (k + 1)) := by
  rw [List.drop_eq_getElem_cons hk]; rfl
theorem walkB_none {s : List Pc} {p : Int} {l : List ByteArray} {k : Nat} (hk : k < l.length) (h : folderOf s p = none) : walkB s p (l.drop k) = none := by
  rw [walkB_step hk, h]; rfl
theorem walkB_miss {s : List Pc} {p : Int} {l : List ByteArray} {k : Nat} {e : List En} (hk : k < l.length) (h : folderOf s p = some e) (h2 : getE e (tx l[k]) = none) : walkB s p (l.drop k) = none := by
  rw [walkB_step hk, h, Option.bind_some, h2]; rfl
theorem walkB_next {s : List Pc} {p q : Int} {l : List ByteArray} {k : Nat} {e : List En} (hk : k < l.length) (h : folderOf s p = some e) (h2 : getE e (tx l[k]) = some q) : walkB s p (l.drop k) = walkB s q (l.drop (k + 1)) := by
  rw [walkB_step hk, h, Option.bind_some, h2]; rfl
theorem walkB_end {s : List Pc} {p : Int} {l : List ByteArray} {k : Nat} (hk : l.length ≤ k) : walkB s p (l.drop k) = if (getT s p).isSome then some p else none := by
  rw [List.drop_eq_nil_of_le hk]; rfl
theorem walkTo_path {s : List Pc} {root : Int} {path : Bs} (h : pathP path = none) : walkTo s root path = none := by
  unfold walkTo; rw [h]; split <;> rfl
theorem walkTo_store {s : List Pc} {root : Int} {path : Bs} (h : storeV s = false) : walkTo s root path = none := by
  unfold walkTo; rw [h]; rfl
theorem walkTo_yes {s : List Pc} {root : Int} {path : Bs} {ps : List Bs} {l : List ByteArray} (h : storeV s = true) (h2 : pathP path = some ps) (hl : l = ps.map mk) : walkTo s root path = walkB s root (l.drop 0) := by
  subst hl
  unfold walkTo walkB
  rw [h, if_pos rfl, h2, Option.bind_some, List.drop_zero, List.map_map]
  congr 1
  exact (List.map_id' _).symm
theorem getE_find {l : List En} {n : Bs} {k : Nat} (hk : k < l.length) (h : ∀ j (h : j < l.length), j < k → tx l[j].1 ≠ n) (he : tx l[k].1 = n) : getE l n = some l[k].2 := by
  unfold getE
  have : l.find? (fun x => tx x.1 == n) = some l[k] := by
    rw [List.find?_eq_some_iff_getElem]
    refine ⟨by simpa using he, k, hk, rfl, fun j hj => ?_⟩
    have := h j (by omega) hj
    simpa using this
  rw [this]; rfl
theorem getE_end {l : List En} {n : Bs} (h : ∀ j (h : j < l.length), tx l[j].1 ≠ n) : getE l n = none := by
  refine getE_none_iff.2 fun x hx => ?_
  obtain ⟨i, hi, rfl⟩ := List.getElem_of_mem hx
  exact h i hi
/-! ### files below -/
def stepF (s : List Pc) (f : Nat) (ps : List Bs) (e : En) : List Bs := if (fileOf s e.2).isSome then [joinP (ps ++ [tx e.1])] else filesP s f e.2 (ps ++ [tx e.1])
theorem filesP_succ (s : List Pc) (f : Nat) (p : Int) (ps : List Bs) : filesP s (f + 1) p ps = ((folderOf s p).getD []).flatMap (stepF s f ps) := rfl
def accF (s : List Pc) (f : Nat) (ps : List Bs) (l : List En) (k : Nat) : List ByteArray := ((l.take k).flatMap (stepF s f ps)).map mk
theorem accF_zero (s : List Pc) (f : Nat) (ps : List Bs) (l : List En) : accF s f ps l 0 = [] := rfl
theorem accF_next {s : List Pc} {f : Nat} {ps : List Bs} {l : List En} {k : Nat} (hk : k < l.length) : accF s f ps l (k + 1) = accF s f ps l k ++ (stepF s f ps l[k]).map mk := by
  unfold accF
  rw [← List.take_append_getElem hk, List.flatMap_append, List.map_append]
  congr 2
  simp
theorem accF_all {s : List Pc} {f : Nat} {ps : List Bs} {l : List En} {k : Nat} (hk : l.length ≤ k) : accF s f ps l k = (l.flatMap (stepF s f ps)).map mk := by
  unfold accF; rw [List.take_of_length_le hk]
theorem folder_len {s : List Pc} {p : Int} : ((folderOf s p).getD []).length ≤ 3 := by
  cases h : folderOf s p with
  | none => simp
  | some l => exact entsV_len (folder_valid h)
theorem flatMap_len {α β : Type} (g : α → List β) (n : Nat) : ∀ l : List α, (∀ x ∈ l, (g x).length ≤ n) → (l.flatMap g).length ≤ n * l.length
  | [], _ => by simp
  | x :: r, h => by
    have h1 := h x (by simp)
    have h2 := flatMap_len g n r fun y hy => h y (by simp [hy])
    rw [List.flatMap_cons, List.length_append, List.length_cons, Nat.mul_succ]; omega
theorem filesP_len (s : List Pc) : ∀ (f : Nat) (p : Int) (ps : List Bs), (filesP s f p ps).length ≤ 3 ^ f
  | 0, _, _ => by simp [filesP]
  | f + 1, p, ps => by
    rw [filesP_succ]
    have h1 := flatMap_len (stepF s f ps) (3 ^ f) ((folderOf s p).getD []) fun e _ => by
      unfold stepF
      have hp : 0 < 3 ^ f := Nat.pow_pos (by omega)
      split
      · exact hp
      · exact filesP_len s f _ _
    have h2 := folder_len (s := s) (p := p)
    rw [Nat.pow_succ]
    exact Nat.le_trans h1 (Nat.mul_le_mul_left _ h2)
theorem stepF_len (s : List Pc) (f : Nat) (ps : List Bs) (e : En) : (stepF s f ps e).length ≤ 3 ^ f := by
  unfold stepF
  have hp : 0 < 3 ^ f := Nat.pow_pos (by omega)
  split
  · exact hp
  · exact filesP_len s f _ _
theorem accF_len {s : List Pc} {f : Nat} {ps : List Bs} {l : List En} {k : Nat} (h : l.length ≤ 3) : (accF s f ps l k).length ≤ 3 ^ f * 3 := by
  unfold accF
  rw [List.length_map]
  refine Nat.le_trans (flatMap_len _ (3 ^ f) _ fun e _ => stepF_len s f ps e) (Nat.mul_le_mul_left _ ?_)
  rw [List.length_take]; omega
theorem joinB_len : ∀ (ps : List Bs), (∀ p ∈ ps, wordV p = true) → (joinB ps).length ≤ 9 * ps.length
  | [], _ => by simp [joinB]
  | p :: r, h => by
    have h1 := h p (by simp)
    have h2 := joinB_len r fun x hx => h x (by simp [hx])
    unfold wordV at h1
    rw [Bool.and_eq_true, Bool.and_eq_true, decide_eq_true_eq] at h1
    unfold joinB at h2 ⊢
    rw [List.flatMap_cons, List.length_append, List.length_cons, List.length_cons]; omega
theorem joinP_len (ps : List Bs) : (joinP ps).length ≤ 27 := by
  unfold joinP
  split
  · rename_i h
    obtain ⟨h1, h2⟩ := partsV_iff.1 h
    split
    · simp
    · have := joinB_len ps h2; omega
  · simp
theorem filesP_size (s : List Pc) : ∀ (f : Nat) (p : Int) (ps : List Bs), ∀ x ∈ filesP s f p ps, x.length ≤ 27
  | 0, _, _, x, hx => by cases hx
  | f + 1, p, ps, x, hx => by
    rw [filesP_succ] at hx
    obtain ⟨e, _, hx⟩ := List.mem_flatMap.1 hx
    unfold stepF at hx
    split at hx
    · rw [List.mem_singleton] at hx; subst hx; exact joinP_len _
    · exact filesP_size s f _ _ x hx
theorem allF_len (s : List Pc) (root : Int) : (allF s root).length ≤ 27 := by
  unfold allF; split
  · exact filesP_len s 3 root []
  · simp
theorem allF_size (s : List Pc) (root : Int) : ∀ x ∈ allF s root, x.length ≤ 27 := by
  unfold allF; split
  · exact filesP_size s 3 root []
  · simp
/-! ### the reference's files -/
theorem specF_file {s : List Pc} {p : Int} {ps : List Bs} (h : (fileOf s p).isSome = true) (hp : ps ≠ []) : specF s p ps = [joinP ps] := by
  unfold specF
  rw [h, if_pos]; cases ps with
  | nil => exact absurd rfl hp
  | cons => rfl
theorem specF_long {s : List Pc} {p : Int} {ps : List Bs} (h : (fileOf s p).isSome = false ∨ ps = []) (hl : 3 ≤ ps.length) : specF s p ps = [] := by
  unfold specF
  rw [if_neg]
  · rw [show 3 - ps.length = 0 by omega]; rfl
  · rcases h with h | h
    · rw [h]; simp
    · subst h; simp
theorem specF_step {s : List Pc} {ps : List Bs} {e : En} (hl : ps.length < 3) : specF s e.2 (ps ++ [tx e.1]) = stepF s (2 - ps.length) ps e := by
  unfold specF stepF
  rw [show (ps ++ [tx e.1]).isEmpty = false by cases ps <;> rfl, List.length_append, List.length_singleton, show 3 - (ps.length + 1) = 2 - ps.length by omega]
  simp
theorem specF_folder {s : List Pc} {p : Int} {ps : List Bs} (h : (fileOf s p).isSome = false ∨ ps = []) (hl : ps.length < 3) : specF s p ps = ((folderOf s p).getD []).flatMap (stepF s (2 - ps.length) ps) := by
  unfold specF
  rw [if_neg]
  · rw [show 3 - ps.length = (2 - ps.length) + 1 by omega]; rfl
  · rcases h with h | h
    · rw [h]; simp
    · subst h; simp
theorem specF_root (s : List Pc) (root : Int) : specF s root [] = filesP s 3 root [] := by
  unfold specF; simp
theorem specF_len (s : List Pc) (p : Int) (ps : List Bs) : (specF s p ps).length ≤ 27 := by
  unfold specF; split
  · simp
  · refine Nat.le_trans (filesP_len s _ p ps) ?_
    exact Nat.pow_le_pow_right (n := 3) (by omega) (show 3 - ps.length ≤ 3 by omega)
end Go.Proofs.YtaghiefokmapmaaDoor

/- Words of a text, and repaired pieces, in plain Lean. -/
set_option linter.unusedVariables false
namespace Go.Proofs.YtaghiefokmapmaaDoor

def addW (acc : List Bs) (w : Bs) : List Bs := if wordV w && !acc.contains w then acc ++ [w] else acc
/-- The parts between spaces; 'cur' is what of the first part was read. -/
def spl : Bs → Bs → List Bs
  | cur, [] => [cur]
  | cur, c :: r => if c = 32 then cur :: spl [] r else spl (cur ++ [c]) r
def wordsOf (s : Bs) : List Bs := if textV s then (spl [] s).foldl addW [] else []
/-- The reference's way: byte by byte. -/
def wrun : List Bs → Bs → Bs → List Bs × Bs
  | out, w, [] => (out, w)
  | out, w, c :: r => if c = 32 then wrun (addW out w) [] r else wrun out (w ++ [c]) r
theorem wrun_spl : ∀ (r : Bs) (out : List Bs) (w : Bs), addW (wrun out w r).1 (wrun out w r).2 = (spl w r).foldl addW out
  | [], out, w => rfl
  | c :: r, out, w => by
    rw [wrun, spl]
    split
    · rw [wrun_spl r]; rfl
    · rw [wrun_spl r]
theorem wrun_snoc : ∀ (r : Bs) (out : List Bs) (w : Bs) (c : UInt8), wrun out w (r ++ [c]) = if c = 32 then (addW (wrun out w r).1 (wrun out w r).2, []) else ((wrun out w r).1, (wrun out w r).2 ++ [c])
  | [], out, w, c => by simp only [List.nil_append, wrun]
  | d :: r, out, w, c => by
    rw [List.cons_append, wrun, wrun]
    split
    · exact wrun_snoc r _ _ c
    · exact wrun_snoc r _ _ c
/-- All valid, none twice. -/
def WordsOk (l : List Bs) : Prop := (∀ w ∈ l, wordV w = true) ∧ l.Nodup
theorem addW_ok {l : List Bs} (w : Bs) (h : WordsOk l) : WordsOk (addW l w) := by
  unfold addW
  split
  · rename_i hh
    simp only [Bool.and_eq_true, Bool.not_eq_true', List.contains_eq_mem, decide_eq_false_iff_not] at hh
    refine ⟨fun x hx => ?_, ?_⟩
    · rw [List.mem_append, List.mem_singleton] at hx
      rcases hx with hx | rfl
      · exact h.1 x hx
      · exact hh.1
    · rw [List.nodup_append]
      refine ⟨h.2, by simp, fun a ha b hb => ?_⟩
      rw [List.mem_singleton] at hb; subst hb
      rintro rfl
      exact hh.2 ha
  · exact h
theorem foldl_ok : ∀ (ps : List Bs) (l : List Bs), WordsOk l → WordsOk (ps.foldl addW l)
  | [], l, h => h
  | p :: ps, l, h => foldl_ok ps _ (addW_ok p h)
theorem wordsOf_ok (s : Bs) : WordsOk (wordsOf s) := by
  unfold wordsOf
  split
  · exact foldl_ok _ _ ⟨by simp, List.nodup_nil⟩
  · exact ⟨by simp, List.nodup_nil⟩
theorem spl_append : ∀ (r : Bs) (cur q : Bs), spl cur (r ++ 32 :: q) = spl cur r ++ spl [] q
  | [], cur, q => by simp [spl]
  | c :: r, cur, q => by
    rw [List.cons_append, spl, spl]
    split
    · rw [spl_append r]; rfl
    · rw [spl_append r]
theorem wordsOf_zoo {s : Bs} (h : textV (s ++ [32, 122, 111, 111]) = true) : textV s = true ∧ wordsOf (s ++ [32, 122, 111, 111]) = addW (wordsOf s) [122, 111, 111] := by
  have hs : textV s = true := by
    unfold textV at *
    rw [Bool.and_eq_true, decide_eq_true_eq] at *
    rw [List.all_append, Bool.and_eq_true] at h
    refine ⟨?_, h.2.1⟩
    have := h.1; simp at this; omega
  refine ⟨hs, ?_⟩
  unfold wordsOf
  rw [if_pos h, if_pos hs, spl_append, List.foldl_append]
  rfl
theorem spl_len : ∀ (r cur : Bs), (spl cur r).length ≤ r.length + 1
  | [], cur => by simp [spl]
  | c :: r, cur => by
    rw [spl]; split
    · have := spl_len r []; simp; omega
    · have := spl_len r (cur ++ [c]); simp; omega
theorem foldl_len : ∀ (ps l : List Bs), (ps.foldl addW l).length ≤ l.length + ps.length
  | [], l => by simp
  | p :: ps, l => by
    have := foldl_len ps (addW l p)
    have h2 : (addW l p).length ≤ l.length + 1 := by unfold addW; split <;> simp
    simp only [List.foldl_cons, List.length_cons]; omega
theorem textV_le {s : Bs} (h : textV s = true) : s.length ≤ 60 := by
  unfold textV at h; rw [Bool.and_eq_true] at h; simpa using h.1
theorem wordsOf_len (s : Bs) : (wordsOf s).length ≤ 61 := by
  unfold wordsOf; split
  · rename_i h
    have h1 := foldl_len (spl [] s) []
    have h2 := spl_len s []
    have h3 := textV_le h
    simp at h1; omega
  · simp
/-- Every part is no longer than the text. -/
theorem spl_short : ∀ (r cur : Bs), ∀ p ∈ spl cur r, p.length ≤ cur.length + r.length
  | [], cur, p, h => by simp [spl] at h; subst h; simp
  | c :: r, cur, p, h => by
    rw [spl] at h
    split at h
    · rw [List.mem_cons] at h
      rcases h with rfl | h
      · omega
      · have := spl_short r [] p h; simp at this ⊢; omega
    · have := spl_short r _ p h; simp at this ⊢; omega
def commonW (a b : Bs) : List Bs := (wordsOf a).filter fun w => (wordsOf b).contains w
theorem commonW_self (a : Bs) : commonW a a = wordsOf a := by
  unfold commonW; rw [List.filter_eq_self]; intro w hw; simpa using hw
theorem commonW_len (a b : Bs) : (commonW a b).length = (commonW b a).length := by
  have h1 := wordsOf_ok a
  have h2 := wordsOf_ok b
  have hp : (commonW a b).Perm (commonW b a) := by
    refine (List.perm_ext_iff_of_nodup (h1.2.filter _) (h2.2.filter _)).2 fun w => ?_
    simp only [List.mem_filter, List.contains_eq_mem, decide_eq_true_eq]
    exact And.comm
  exact hp.length_eq
theorem commonW_le (a b : Bs) : (commonW a b).length ≤ (wordsOf a).length := List.length_filter_le _ _
end Go.Proofs.YtaghiefokmapmaaDoor

/- Cutting a text at a byte, in plain Lean: the library's words and ours. -/
set_option linter.unusedVariables false
namespace Go.Proofs.YtaghiefokmapmaaDoor
open Go.Lib (splitK index indexByte)
theorem index_hit (x : UInt8) (r : Bs) : index (x :: r) [x] = 0 := by rw [Go.Lib.index_one, indexByte]; simp
theorem index_skip {x c : UInt8} (h : c ≠ x) (r : Bs) : index (c :: r) [x] = if index r [x] == -1 then -1 else index r [x] + 1 := by
  rw [Go.Lib.index_one, Go.Lib.index_one, indexByte]
  have : (c == x) = false := by simpa using h
  rw [this]; simp
theorem index_nil (x : UInt8) : index [] [x] = -1 := rfl
theorem splitK_hit (x : UInt8) (k : Nat) (r : Bs) : splitK [x] 0 (k + 1) (x :: r) = [] :: splitK [x] 0 k r := by
  rw [splitK, index_hit]; rfl
theorem splitK_ne (x : UInt8) : ∀ (k : Nat) (s : Bs), splitK [x] 0 k s ≠ []
  | 0, s => by simp [splitK]
  | k + 1, s => by rw [splitK]; split <;> simp
/-- One byte more ahead, which is not the one at which it is cut. -/
def onHead (c : UInt8) : List Bs → List Bs
  | [] => []
  | p :: ps => (c :: p) :: ps
theorem splitK_skip {x c : UInt8} (h : c ≠ x) : ∀ (k : Nat) (r : Bs), splitK [x] 0 k (c :: r) = onHead c (splitK [x] 0 k r)
  | 0, r => rfl
  | k + 1, r => by
    have hge := Go.Lib.index_ge r [x]
    rw [splitK, splitK, index_skip h]
    by_cases e : index r [x] = -1
    · simp [e, onHead]
    · have e1 : (index r [x] == -1) = false := by simpa using e
      have e2 : (index r [x] + 1 == -1) = false := by simp; omega
      rw [e1]
      simp only [Bool.false_eq_true, if_false, e2]
      have e3 : (index r [x] + 1).toNat = (index r [x]).toNat + 1 := by omega
      rw [e3]
      simp [onHead]
theorem index_count (x : UInt8) : ∀ (s : Bs), (index s [x] = -1 → s.count x = 0) ∧ (∀ i : Nat, index s [x] = i → i < s.length ∧ s.count x = 1 + (s.drop (i + 1)).count x)
  | [] => ⟨fun _ => rfl, fun i h => by rw [index_nil] at h; omega⟩
  | c :: r => by
    have ih := index_count x r
    have hge := Go.Lib.index_ge r [x]
    by_cases e : c = x
    · subst e
      rw [index_hit]
      refine ⟨fun h => by omega, fun i h => ?_⟩
      have : i = 0 := by omega
      subst this
      simp; omega
    · rw [index_skip e, List.count_cons_of_ne (by simpa using e)]
      by_cases e2 : index r [x] = -1
      · rw [e2]
        refine ⟨fun _ => ih.1 e2, fun i h => ?_⟩
        simp at h
      · have e3 : (index r [x] == -1) = false := by simpa using e2
        rw [e3]
        simp only [Bool.false_eq_true, if_false]
        refine ⟨fun h => by omega, fun i h => ?_⟩
        obtain ⟨j, hj⟩ := Int.eq_ofNat_of_zero_le (show 0 ≤ index r [x] by omega)
        have h2 := ih.2 j hj
        have : i = j + 1 := by omega
        subst this
        simp only [List.length_cons, List.drop_succ_cons]
        exact ⟨by omega, h2.2⟩
theorem countFrom_one (x : UInt8) : ∀ (f : Nat) (s : Bs), s.length < f → Go.Lib.countFrom [x] f s = s.count x
  | 0, s, h => by omega
  | f + 1, s, h => by
    rw [Go.Lib.countFrom]
    have hc := index_count x s
    have hge := Go.Lib.index_ge s [x]
    by_cases e : index s [x] = -1
    · rw [e, hc.1 e]; rfl
    · have e2 : (index s [x] == -1) = false := by simpa using e
      rw [e2]
      simp only [Bool.false_eq_true, if_false]
      obtain ⟨j, hj⟩ := Int.eq_ofNat_of_zero_le (show 0 ≤ index s [x] by omega)
      have h2 := hc.2 j hj
      rw [hj, Int.toNat_natCast, h2.2]
      congr 1
      exact countFrom_one x f _ (by simp; omega)
theorem count_one (s : Bs) (x : UInt8) : Go.Lib.count s [x] = s.count x := countFrom_one x _ s (by omega)
theorem spl_splitK : ∀ (s : Bs) (k : Nat) (cur : Bs), s.count 32 ≤ k → spl cur s = match splitK [32] 0 k s with | p :: ps => (cur ++ p) :: ps | [] => []
  | [], k, cur, _ => by
    cases k <;> simp [splitK, spl, index_nil]
  | c :: r, k, cur, h => by
    rw [spl]
    by_cases e : c = 32
    · subst e
      rw [if_pos rfl]
      cases k with
      | zero => simp at h
      | succ k =>
        rw [splitK_hit]
        have ih := spl_splitK r k [] (by simp at h; omega)
        rw [ih]
        cases hs : splitK [32] 0 k r with
        | nil => exact absurd hs (splitK_ne _ _ _)
        | cons p ps => simp
    · rw [if_neg e]
      have ih := spl_splitK r k (cur ++ [c]) (by rw [List.count_cons_of_ne (by simpa using e)] at h; exact h)
      rw [ih, splitK_skip e]
      cases hs : splitK [32] 0 k r with
      | nil => exact absurd hs (splitK_ne _ _ _)
      | cons p ps => simp [onHead]
theorem split_spl (s : Bs) : splitK [32] 0 (Go.Lib.count s [32]) s = spl [] s := by
  have h := spl_splitK s (Go.Lib.count s [32]) [] (by rw [count_one]; exact Nat.le_refl _)
  rw [h]
  cases hs : splitK [32] 0 (Go.Lib.count s [32]) s with
  | nil => exact absurd hs (splitK_ne _ _ _)
  | cons p ps => simp
theorem spl_count : ∀ (r cur : Bs), (spl cur r).length = r.count 32 + 1
  | [], cur => by simp [spl]
  | c :: r, cur => by
    rw [spl]
    by_cases e : c = 32
    · subst e; rw [if_pos rfl, List.length_cons, spl_count r []]; simp
    · rw [if_neg e, spl_count r, List.count_cons_of_ne (by simpa using e)]
/-- The library's pieces, as texts. -/
theorem splitB_spl (s : ByteArray) : Go.Lib.splitB ⟨#[32]⟩ 0 (Go.Lib.countB s ⟨#[32]⟩) s = (spl [] s.data.toList).map mk := by
  have h := Go.Lib.splitB_data ⟨#[32]⟩ 0 (Go.Lib.countB s ⟨#[32]⟩) s
  have h2 : (Go.Lib.splitB ⟨#[32]⟩ 0 (Go.Lib.countB s ⟨#[32]⟩) s).map (·.data.toList) = spl [] s.data.toList := by
    rw [h]; exact split_spl _
  rw [← h2, List.map_map]
  have e : (mk ∘ fun x : ByteArray => x.data.toList) = id := by funext x; exact mk_bs x
  rw [e, List.map_id]
theorem countB_spl (s : ByteArray) : Go.Lib.countB s ⟨#[32]⟩ + 1 = (spl [] s.data.toList).length := by
  rw [spl_count]; show Go.Lib.count s.data.toList [32] + 1 = _; rw [count_one]
end Go.Proofs.YtaghiefokmapmaaDoor

/- Walks: words and folded names. -/
set_option linter.unusedVariables false
namespace Go.Proofs.YtaghiefokmapmaaDoor
open Go.RowKit
attribute [local go_sem] mk_size mk_append i32_byte

theorem foldC_up {c : UInt8} (h1 : 65 ≤ (c.toNat : Int)) (h2 : (c.toNat : Int) ≤ 90) : ((foldC c).toNat : Int) = (c.toNat : Int) + 32 := by
  have e : foldC c = c + 32 := by unfold foldC; rw [if_pos ⟨h1, h2⟩]
  rw [e, UInt8.toNat_add]; simp; omega
theorem foldC_same {c : UInt8} (h : ¬ (65 ≤ (c.toNat : Int) ∧ (c.toNat : Int) ≤ 90)) : foldC c = c := by unfold foldC; rw [if_neg h]
theorem up_fine {c : UInt8} (h1 : 65 ≤ (c.toNat : Int)) (h2 : (c.toNat : Int) ≤ 90) : fineC c = true := by
  have := foldC_up h1 h2
  unfold fineC smallC; rw [this]; simp [inI]; omega
theorem fine_lt {c : UInt8} (h : fineC c = true) : (foldC c).toNat < 128 := by
  unfold fineC smallC digitC inI at h
  simp at h; omega
theorem foldName_ok {s : ByteArray} {k : Nat} (h1 : 1 ≤ s.size) (h2 : s.size ≤ 8) (hk : ¬ k < s.size) (ho : AllUpto fineC s k) : foldName (bs s) = ((bs s).take k).map foldC := by
  rw [List.take_of_length_le (by rw [size_bs]; omega)]
  unfold foldName; rw [if_pos ⟨h1, h2, ho.all hk⟩]
theorem foldName_long {s : ByteArray} (h : ¬ (1 ≤ s.size ∧ s.size ≤ 8)) : foldName (bs s) = [] := by
  unfold foldName; rw [if_neg]; rintro ⟨a, b, _⟩; exact h ⟨a, b⟩
theorem foldName_bad {s : ByteArray} {k : Nat} (hk : k < s.size) (h : fineC s[k] = false) : foldName (bs s) = [] := by
  unfold foldName; rw [if_neg]; rintro ⟨_, _, a⟩
  have := List.all_eq_true.1 a s[k] (by simp [bs, ByteArray.getElem_eq_getElem_data])
  rw [h] at this; cases this
theorem take_fold {s : ByteArray} {k : Nat} (h : k < s.size) : ((bs s).take (k + 1)).map foldC = ((bs s).take k).map foldC ++ [foldC s[k]] := by
  rw [List.take_succ_eq_append_getElem (by exact h)]; simp [get_bs s k h]
theorem mk_nil : mk [] = ⟨#[]⟩ := rfl
theorem small_not_digit {n : Int} (h : inI n 97 122 = true) : inI n 48 57 = false := by simp [inI] at *; omega

theorem conv_one (w : World) (c : Int) (h0 : 0 ≤ c) (h1 : c < 256) :
    (convert 22 9 (.slice (some ⟨w.heap.size, 0, none⟩) 1 1)).run Tryd.prog (w.alloc (.cells #[.int .u8 c] 5)) = .ok (.string (mk [UInt8.ofNat c.toNat])) (w.alloc (.cells #[.int .u8 c] 5)) := by
  have h := run_convert_bytes_back (P := Tryd.prog) (w.alloc (.cells #[.int .u8 c] 5)) 22 9 5 ⟨w.heap.size, 0, none⟩ 1 [UInt8.ofNat c.toNat] Tryd.underlying22 Tryd.underlying5 Tryd.underlying9 (by
    intro j hj
    have : j = 0 := by simpa using hj
    subst this
    rw [show (⟨w.heap.size, 0, none⟩ : Addr).add 0 = ⟨w.heap.size, 0, none⟩ from rfl, cell_of_row _ _ 0 _ 5 (0, 0) (heap_alloc_new w _)]
    simp; omega)
  exact h
theorem ofNat_toNat_fold (c : UInt8) : UInt8.ofNat ((c.toNat : Int)).toNat = c := by simp

/-! ### words -/
def wordC (c : UInt8) : Bool := smallC c || digitC c
theorem wordV_bad {s : ByteArray} {k : Nat} (h : k < s.size) (hb : wordC s[k] = false) : wordV (bs s) = false := by
  unfold wordV
  rw [Bool.and_eq_false_iff]; right
  rw [List.all_eq_false]
  exact ⟨s[k], by simp [bs, ByteArray.getElem_eq_getElem_data], by unfold wordC at hb; simp [hb]⟩
theorem wordV_len {s : ByteArray} (h : ¬ (1 ≤ s.size ∧ s.size ≤ 8)) : wordV (bs s) = false := by
  unfold wordV
  have : decide (1 ≤ (bs s).length ∧ (bs s).length ≤ 8) = false := by simpa [size_bs] using h
  rw [this]; rfl
theorem head_bs {s : ByteArray} (h : 0 < s.size) : (bs s).headD 0 = s[0] := by
  have := get_bs s 0 h
  cases hb : bs s with
  | nil => have := size_bs s; rw [hb] at this; simp at this; omega
  | cons c r => simp [hb] at this ⊢; exact this
theorem wordV_dig {s : ByteArray} (h : 0 < s.size) (hd : digitC s[0] = true) : wordV (bs s) = false := by
  unfold wordV; rw [head_bs h, hd]; simp
theorem wordV_good {s : ByteArray} {k : Nat} (h1 : 1 ≤ s.size) (h2 : s.size ≤ 8) (hd : digitC s[0] = false) (hk : ¬ k < s.size) (ho : AllUpto wordC s k) : wordV (bs s) = true := by
  unfold wordV; rw [head_bs h1, hd]
  have := ho.all hk
  simp only [Bool.and_eq_true, decide_eq_true_eq, Bool.not_false, and_true, size_bs]
  exact ⟨⟨h1, h2⟩, this⟩
theorem wordV_size {s : ByteArray} (h : wordV (bs s) = true) : 1 ≤ s.size ∧ s.size ≤ 8 := by
  rcases Decidable.em (1 ≤ s.size ∧ s.size ≤ 8) with h' | h'
  · exact h'
  · rw [wordV_len h'] at h; cases h

set_option maxHeartbeats 2000000 in
set_option maxRecDepth 100000 in
theorem iWordValid_any (s : ByteArray) (w : World) (hs : s.size ≤ 16777216) :
    Calls Tryd.prog 26 #[.string s] w fun e w' => e = .returned (.bool (wordV (bs s))) ∧ w = w' := by
  by_cases hl1 : 1 ≤ s.size
  · by_cases hl2 : s.size ≤ 8
    · have h0 : 0 < s.size := hl1
      have hby0 := s[0].toNat_lt
      cases hd : inI s[0].toNat 48 57
      · go_enter Tryd.func26, Tryd.ntmps26
        go_wp2_with (go_at_call 48; refine (iisDigit_any _ _).mono ?_; rintro e w' ⟨rfl, rfl⟩)
        go_loop [3] (fun i => ∃ k : Nat, k ≤ s.size ∧ i = .int .i64 k ∧ AllUpto wordC s k) (fun i => s.size - (intOf i).toNat)
        case atStart => exact ⟨0, Nat.zero_le _, rfl, AllUpto.zero _ s⟩
        case round =>
          obtain ⟨k, hk, rfl, ho⟩ := hrel
          by_cases hlt : k < s.size
          · have hby := s[k].toNat_lt
            cases hs1 : inI s[k].toNat 97 122
            · cases hs2 : inI s[k].toNat 48 57
              · go_wp2_with (first | (go_at_call 49; refine (iisSmall_any _ _).mono ?_; rintro e w' ⟨rfl, rfl⟩) | (go_at_call 48; refine (iisDigit_any _ _).mono ?_; rintro e w' ⟨rfl, rfl⟩))
                go_ret
                exact ⟨ret_bool (wordV_bad hlt (by unfold wordC smallC digitC; rw [hs1, hs2]; rfl)).symm, rfl⟩
              · go_wp2_with (first | (go_at_call 49; refine (iisSmall_any _ _).mono ?_; rintro e w' ⟨rfl, rfl⟩) | (go_at_call 48; refine (iisDigit_any _ _).mono ?_; rintro e w' ⟨rfl, rfl⟩))
                go_round
                case rel => exact ⟨k + 1, by omega, by go_num, ho.succ hlt (by unfold wordC smallC digitC; rw [hs2]; simp)⟩
                case measure => simp [intOf]; omega
            · go_wp2_with (first | (go_at_call 49; refine (iisSmall_any _ _).mono ?_; rintro e w' ⟨rfl, rfl⟩) | (go_at_call 48; refine (iisDigit_any _ _).mono ?_; rintro e w' ⟨rfl, rfl⟩))
              go_round
              case rel => exact ⟨k + 1, by omega, by go_num, ho.succ hlt (by unfold wordC smallC digitC; rw [hs1]; simp)⟩
              case measure => simp [intOf]; omega
          · go_wp2
            go_ret
            exact ⟨ret_bool (wordV_good hl1 hl2 hd hlt ho).symm, rfl⟩
      · go_enter Tryd.func26, Tryd.ntmps26
        go_wp2_with (go_at_call 48; refine (iisDigit_any _ _).mono ?_; rintro e w' ⟨rfl, rfl⟩)
        go_ret
        exact ⟨ret_bool (wordV_dig h0 hd).symm, rfl⟩
    · go_enter Tryd.func26, Tryd.ntmps26
      go_wp2
      go_ret
      exact ⟨ret_bool (wordV_len (by omega)).symm, rfl⟩
  · go_enter Tryd.func26, Tryd.ntmps26
    go_wp2
    go_ret
    exact ⟨ret_bool (wordV_len (by omega)).symm, rfl⟩

set_option maxHeartbeats 2000000 in
set_option maxRecDepth 100000 in
theorem sWordValid_any (s : ByteArray) (w : World) (hs : s.size ≤ 16777216) :
    Calls Tryd.prog 59 #[.string s] w fun e w' => e = .returned (.bool (wordV (bs s))) ∧ w = w' := by
  go_enter Tryd.func59, Tryd.ntmps59
  go_wp2
  go_loop [3] (fun i => ∃ k : Nat, k ≤ s.size ∧ i = .int .i64 k ∧ AllUpto wordC s k ∧ (0 < k → ∃ h : 0 < s.size, digitC s[0] = false)) (fun i => s.size - (intOf i).toNat)
  case atStart => exact ⟨0, Nat.zero_le _, rfl, AllUpto.zero _ s, fun h => absurd h (by omega)⟩
  case round =>
    obtain ⟨k, hk, rfl, ho, hd⟩ := hrel
    have HD := Lib.hid hd
    clear hd
    by_cases hlt : k < s.size
    · have hby := s[k].toNat_lt
      by_cases h1 : 97 ≤ (s[k].toNat : Int)
      · by_cases h2 : (s[k].toNat : Int) ≤ 122
        · have hc : wordC s[k] = true := by unfold wordC smallC inI; simp; omega
          have HC := Lib.hid hc
          clear hc
          go_wp2
          go_round
          case rel => exact ⟨k + 1, by omega, by go_num, ho.succ hlt HC.out, fun _ => by
            by_cases h0 : 0 < k
            · exact HD.out h0
            · have e : k = 0 := by omega
              subst e
              exact ⟨hlt, by unfold digitC inI; simp; omega⟩⟩
          case measure => simp [intOf]; omega
        · have hc : wordC s[k] = false := by unfold wordC smallC digitC inI; simp; omega
          have HC := Lib.hid hc
          clear hc
          by_cases h0 : k = 0
          · subst h0
            go_wp2
            go_ret
            exact ⟨ret_bool (wordV_bad hlt HC.out).symm, rfl⟩
          · have h00 : ((k : Int) == 0) = false := by simp; omega
            go_wp2
            go_ret
            exact ⟨ret_bool (wordV_bad hlt HC.out).symm, rfl⟩
      · by_cases h0 : k = 0
        · subst h0
          by_cases h3 : digitC s[0] = true
          · have HC := Lib.hid h3
            clear h3
            go_wp2
            go_ret
            exact ⟨ret_bool (wordV_dig hlt HC.out).symm, rfl⟩
          · have hc : wordC s[0] = false := by unfold wordC smallC; simp [h3]; simp [inI]; omega
            have HC := Lib.hid hc
            clear hc h3
            go_wp2
            go_ret
            exact ⟨ret_bool (wordV_bad hlt HC.out).symm, rfl⟩
        · have h00 : ((k : Int) == 0) = false := by simp; omega
          by_cases h3 : 48 ≤ (s[k].toNat : Int)
          · by_cases h4 : (s[k].toNat : Int) ≤ 57
            · have hc : wordC s[k] = true := by unfold wordC digitC inI; simp; omega
              have HC := Lib.hid hc
              clear hc
              go_wp2
              go_round
              case rel => exact ⟨k + 1, by omega, by go_num, ho.succ hlt HC.out, fun _ => HD.out (by omega)⟩
              case measure => simp [intOf]; omega
            · have hc : wordC s[k] = false := by unfold wordC smallC digitC inI; simp; omega
              have HC := Lib.hid hc
              clear hc
              go_wp2
              go_ret
              exact ⟨ret_bool (wordV_bad hlt HC.out).symm, rfl⟩
          · have hc : wordC s[k] = false := by unfold wordC smallC digitC inI; simp; omega
            have HC := Lib.hid hc
            clear hc
            go_wp2
            go_ret
            exact ⟨ret_bool (wordV_bad hlt HC.out).symm, rfl⟩
    · go_wp2_with (go_at_call 47; refine (sl1In_any _ _ _ _).mono ?_; rintro e w' ⟨rfl, rfl⟩)
      go_ret
      refine ⟨ret_bool ?_, rfl⟩
      by_cases h0 : 0 < k
      · obtain ⟨_, h3⟩ := HD.out h0
        by_cases h8 : s.size ≤ 8
        · rw [wordV_good (by omega) h8 h3 hlt ho]; simp [inI]; omega
        · rw [wordV_len (by omega)]; simp [inI]; omega
      · rw [wordV_len (by omega)]; simp [inI]; omega
end Go.Proofs.YtaghiefokmapmaaDoor

/- Comparisons of two slices that hold the same. -/
set_option linter.unusedVariables false
namespace Go.Proofs.YtaghiefokmapmaaDoor
open Go.RowKit
/-- wr is w after some draws. -/
def Drawn_ (w wr : World) : Prop := ∃ n, wr = w.drewN n
theorem Drawn_.drewN {w wr : World} (h : Drawn_ w wr) (m : Nat) : Drawn_ w (wr.drewN m) := by
  obtain ⟨n, rfl⟩ := h; exact ⟨n + m, by rw [World.drewN_drewN]⟩
theorem Sl.drawn_ {α : Type} {enc : α → List Value} {w wr : World} {size : Nat} {A : Option Addr} {l : List α} (h : Sl w enc size A l) (hd : Drawn_ w wr) : Sl wr enc size A l := by
  obtain ⟨n, rfl⟩ := hd; exact h
theorem Drawn_.below {w wr : World} (h : Drawn_ w wr) : Below w.heap.size w wr := by
  obtain ⟨n, rfl⟩ := h; exact Below_drewN (Below.refl _ _) n

set_option maxHeartbeats 2000000 in
set_option maxRecDepth 100000 in
theorem l_sameTexts_same (A B : Option Addr) (c d : Nat) (l : List ByteArray) (w : World) (ha : Sl w encS 1 A l) (hb : Sl w encS 1 B l) (hl : l.length ≤ 16777216) :
    Calls Tryd.prog 8 #[.slice A l.length c, .slice B l.length d] w fun e w' => e = .returned (.bool true) ∧ Drawn_ w w' := by
  have HA := Lib.hid ha
  have HB := Lib.hid hb
  clear ha hb
  go_enter Tryd.func8, Tryd.ntmps8
  go_wp2
  go_loopw [5] (fun i wr => ∃ (k : Nat), k ≤ l.length ∧ i = .int .i64 k ∧ Drawn_ w wr) (fun i _ => l.length - (intOf i).toNat)
  case atStart => exact ⟨0, Nat.zero_le _, rfl, 0, rfl⟩
  case round =>
    obtain ⟨k, hk, rfl, hw⟩ := hrel
    by_cases hlt : k < l.length
    · obtain ⟨b1, o1, rfl, hc1⟩ := (HA.out.drawn_ hw).getS hlt
      obtain ⟨b2, o2, rfl, hc2⟩ := (HB.out.drawn_ hw).getS hlt
      go_wp2
      go_quiet (fail)
      go_wp2
      go_roundw
      case rel => exact ⟨k + 1, by omega, by go_num, hw.drewN _⟩
      case measure => simp [intOf]; omega
    · go_wp2
      go_ret
      exact ⟨rfl, hw⟩
end Go.Proofs.YtaghiefokmapmaaDoor

/- Names: folds, Contains, ClashOf of the program. -/
set_option linter.unusedVariables false
namespace Go.Proofs.YtaghiefokmapmaaDoor
open Go.RowKit
attribute [local go_sem] mk_toList
theorem eq_toList (a b : ByteArray) : (a.toList == b.toList) = (bs a == bs b) := by rw [ByteArray.toList_eq, ByteArray.toList_eq]

/-! ### plain: the first index -/
def idxIn (l : List ByteArray) (x : ByteArray) (r : Int) : Prop := if (l.any fun y => bs x == bs y) then 0 ≤ r else r < 0
def hasS (l : List ByteArray) (x : ByteArray) : Bool := l.any fun y => bs x == bs y
def NotYet (l : List ByteArray) (x : ByteArray) (k : Nat) : Prop := ∀ y ∈ l.take k, (bs x == bs y) = false
theorem NotYet.succ {l : List ByteArray} {x : ByteArray} {k : Nat} (h : NotYet l x k) (hk : k < l.length) (hx : (bs x == bs l[k]) = false) : NotYet l x (k + 1) := by
  intro y hy
  rw [List.take_succ_eq_append_getElem hk, List.mem_append, List.mem_singleton] at hy
  rcases hy with hy | rfl
  · exact h y hy
  · exact hx
theorem NotYet.none {l : List ByteArray} {x : ByteArray} {k : Nat} (h : NotYet l x k) (hk : ¬ k < l.length) : hasS l x = false := by
  unfold hasS; rw [List.any_eq_false]; intro y hy
  rw [h y (by rw [List.take_of_length_le (by omega)]; exact hy)]; simp
theorem hasS_at {l : List ByteArray} {x : ByteArray} {k : Nat} (hk : k < l.length) (hx : (bs x == bs l[k]) = true) : hasS l x = true := by
  unfold hasS; rw [List.any_eq_true]; exact ⟨l[k], by simp, hx⟩
def IndexR (l : List ByteArray) (x : ByteArray) (w : World) (e : Ending) (w' : World) : Prop := ∃ r : Int, e = .returned (.int .i64 r) ∧ (hasS l x = true → 0 ≤ r) ∧ (hasS l x = false → r = -1) ∧ w = w'


/-! ### folds -/
def folds (ss : List ByteArray) : List ByteArray := ss.map fun s => mk (foldName (bs s))
def allFold (ss : List ByteArray) : Bool := ss.all fun s => !(foldName (bs s)).isEmpty
theorem folds_take {ss : List ByteArray} {k : Nat} (h : k < ss.length) : folds (ss.take (k + 1)) = folds (ss.take k) ++ [mk (foldName (bs ss[k]))] := by
  unfold folds; rw [List.take_succ_eq_append_getElem h, List.map_append]; rfl
theorem folds_len (ss : List ByteArray) : (folds ss).length = ss.length := by simp [folds]
def FoldsR (ss : List ByteArray) (w : World) (e : Ending) (w' : World) : Prop :=
  ∃ v, e = .returned (.tuple #[v, .bool (allFold ss)]) ∧ Own w' w.heap.size 9 1 encS v (if allFold ss then folds ss else []) ∧ Below w.heap.size w w'

/-! ### clashes -/
/-- The first place before 'k' whose text is one before it; -1 if there is none. -/
def clashTo (fs : List ByteArray) : Nat → Int
  | 0 => -1
  | k + 1 => if 0 ≤ clashTo fs k then clashTo fs k else if hasS (fs.take k) (fs.getD k ⟨#[]⟩) then k else -1
def clashOf (ss : List ByteArray) : Int := if allFold ss then clashTo (folds ss) ss.length else -1
theorem clashTo_lt (fs : List ByteArray) : ∀ k, clashTo fs k < k ∧ -1 ≤ clashTo fs k
  | 0 => by simp [clashTo]
  | k + 1 => by
    have := clashTo_lt fs k
    unfold clashTo; split
    · omega
    · split <;> omega
theorem clashTo_no {fs : List ByteArray} {k : Nat} (h : clashTo fs k = -1) (hn : hasS (fs.take k) (fs.getD k ⟨#[]⟩) = false) : clashTo fs (k + 1) = -1 := by
  unfold clashTo; rw [if_neg (by omega), if_neg (by rw [hn]; simp)]
theorem clashTo_yes {fs : List ByteArray} {k : Nat} (h : clashTo fs k = -1) (hn : hasS (fs.take k) (fs.getD k ⟨#[]⟩) = true) : clashTo fs (k + 1) = k := by
  unfold clashTo; rw [if_neg (by omega), if_pos hn]
theorem clashTo_keep {fs : List ByteArray} {k : Nat} (h : 0 ≤ clashTo fs k) : clashTo fs (k + 1) = clashTo fs k := by
  rw [clashTo, if_pos h]
theorem clashTo_stays {fs : List ByteArray} {k : Nat} (h : 0 ≤ clashTo fs k) : ∀ n, clashTo fs (k + n) = clashTo fs k
  | 0 => rfl
  | n + 1 => by
    have ih := clashTo_stays h n
    rw [← Nat.add_assoc, clashTo_keep (by rw [ih]; exact h), ih]
theorem getD_at {fs : List ByteArray} {k : Nat} (h : k < fs.length) : fs.getD k ⟨#[]⟩ = fs[k] := by
  rw [List.getD_eq_getElem?_getD, List.getElem?_eq_getElem h]; rfl
theorem Sl.take {α : Type} {enc : α → List Value} {w : World} {size : Nat} {A : Option Addr} {l : List α} (h : Sl w enc size A l) (k : Nat) : Sl w enc size A (l.take k) := by
  intro hn
  obtain ⟨b, o, e, hc⟩ := h (by rw [List.length_take] at hn; omega)
  refine ⟨b, o, e, fun j u hu => hc j u ?_⟩
  have hf : flat enc l = flat enc (l.take k) ++ flat enc (l.drop k) := by rw [← flat_append, List.take_append_drop]
  rw [hf, List.getElem?_append_left (List.getElem?_eq_some_iff.1 hu).1]; exact hu
end Go.Proofs.YtaghiefokmapmaaDoor

/- The library's contracts at this dump, in plain words: written by the kit's tools lay-shelf, lay-plain; kept: strings_Cut, strings_CutPrefix, strings_SplitN, strings_Join, strings_Join_none, strings_Split and what they lean on. -/
set_option linter.unusedVariables false
namespace Go.Proofs
open Go.Shelf
def Tryd.lays103_ren : Go.Shelf.Ren := ⟨fun | 103 => 80 | 210 => 102 | 206 => 115 | n => n, fun | 9 => 9 | 4 => 4 | 24 => 61 | 3 => 3 | n => n, fun | n => n⟩
theorem Tryd.lays103 : Go.Proofs.Lays.n103 Tryd.prog Tryd.lays103_ren := {
  mixed := by kernel_rfl
  f103 := Tryd.func80.trans (congrArg some (by kernel_rfl))
  f206 := Tryd.func115.trans (congrArg some (by kernel_rfl))
  f210 := Tryd.func102.trans (congrArg some (by kernel_rfl))
  t3 := Tryd.underlying3
  a3 := Tryd.isAgg3
  z3 := Tryd.sizeOf3
  v3 := Tryd.zeroValue3
  t4 := Tryd.underlying4
  a4 := Tryd.isAgg4
  z4 := Tryd.sizeOf4
  v4 := Tryd.zeroValue4
  t9 := Tryd.underlying9
  a9 := Tryd.isAgg9
  z9 := Tryd.sizeOf9
  v9 := Tryd.zeroValue9
  t24 := Tryd.underlying61
  a24 := Tryd.isAgg61
  z24 := Tryd.sizeOf61
  v24 := Tryd.zeroValue61 }
open Go.RowKit in
theorem Tryd.strings_CutPrefix (s p : ByteArray) (w : World) :
    Calls Tryd.prog 80 #[.string s, .string p] w fun e w' => e = .returned (.tuple #[.string ⟨(Lib.trimPrefix s.data.toList p.data.toList).toArray⟩, .bool (Lib.hasPrefix s.data.toList p.data.toList)]) ∧ w' = w := Any.strings_CutPrefix Tryd.lays103 s p w
def Tryd.lays145_ren : Go.Shelf.Ren := ⟨fun | 145 => 27 | 220 => 50 | 219 => 68 | 217 => 93 | 225 => 94 | 224 => 95 | 267 => 96 | 266 => 112 | 314 => 113 | n => n, fun | 9 => 9 | 4 => 4 | 59 => 48 | 3 => 3 | 5 => 5 | 46 => 115 | 146 => 126 | 51 => 123 | n => n, fun | 1 => 0 | n => n⟩
theorem Tryd.lays145 : Go.Proofs.Lays.n145 Tryd.prog Tryd.lays145_ren := {
  mixed := by kernel_rfl
  f145 := Tryd.func27.trans (congrArg some (by kernel_rfl))
  f217 := Tryd.func93.trans (congrArg some (by kernel_rfl))
  f219 := Tryd.func68.trans (congrArg some (by kernel_rfl))
  f220 := Tryd.func50.trans (congrArg some (by kernel_rfl))
  f224 := Tryd.func95.trans (congrArg some (by kernel_rfl))
  f225 := Tryd.func94.trans (congrArg some (by kernel_rfl))
  f266 := Tryd.func112.trans (congrArg some (by kernel_rfl))
  f267 := Tryd.func96.trans (congrArg some (by kernel_rfl))
  f314 := Tryd.func113.trans (congrArg some (by kernel_rfl))
  t3 := Tryd.underlying3
  a3 := Tryd.isAgg3
  z3 := Tryd.sizeOf3
  v3 := Tryd.zeroValue3
  t4 := Tryd.underlying4
  a4 := Tryd.isAgg4
  z4 := Tryd.sizeOf4
  v4 := Tryd.zeroValue4
  t5 := Tryd.underlying5
  a5 := Tryd.isAgg5
  z5 := Tryd.sizeOf5
  v5 := Tryd.zeroValue5
  t9 := Tryd.underlying9
  a9 := Tryd.isAgg9
  z9 := Tryd.sizeOf9
  v9 := Tryd.zeroValue9
  t46 := Tryd.underlying115
  a46 := Tryd.isAgg115
  z46 := Tryd.sizeOf115
  v46 := Tryd.zeroValue115
  t51 := Tryd.underlying123
  a51 := Tryd.isAgg123
  z51 := Tryd.sizeOf123
  v51 := Tryd.zeroValue123
  t59 := Tryd.underlying48
  a59 := Tryd.isAgg48
  z59 := Tryd.sizeOf48
  v59 := Tryd.zeroValue48
  t146 := Tryd.underlying126
  a146 := Tryd.isAgg126
  z146 := Tryd.sizeOf126
  v146 := Tryd.zeroValue126
  g1 := by kernel_rfl }
open Go.RowKit Go.Lib in
theorem Tryd.strings_Cut (s sep : ByteArray) (m : Int) (w : World) (hs : s.size < 4294967281) (hm : w.cell? ⟨0, 0, none⟩ = some (.int .i64 m)) :
    Calls Tryd.prog 27 #[.string s, .string sep] w fun e w' => e = .returned (.tuple #[.string ⟨(Lib.cut s.data.toList sep.data.toList).1.toArray⟩, .string ⟨(Lib.cut s.data.toList sep.data.toList).2.1.toArray⟩, .bool (Lib.cut s.data.toList sep.data.toList).2.2]) ∧ ∃ n, w' = w.drewN n := Any.strings_Cut Tryd.lays145 s sep m w hs hm
end Go.Proofs

/- The library's variable MaxLen. -/
set_option linter.unusedVariables false
namespace Go.Proofs.YtaghiefokmapmaaDoor
open Go.RowKit
/-- The library's own variable holds some number. -/
def MaxL (w : World) : Prop := ∃ m, w.cell? ⟨0, 0, none⟩ = some (.int .i64 m)
theorem MaxL.below {w w' : World} (h : MaxL w) (hb : Below w.heap.size w w') : MaxL w' := by
  obtain ⟨m, hm⟩ := h; exact ⟨m, Below_cells hb _ _ _ hm⟩
theorem MaxL.lt {w : World} (h : MaxL w) : 0 < w.heap.size := by
  obtain ⟨m, hm⟩ := h; exact World.block_lt_of_cell? w _ hm
end Go.Proofs.YtaghiefokmapmaaDoor

/- Words of a text, walked. -/
set_option linter.unusedVariables false
namespace Go.Proofs.YtaghiefokmapmaaDoor
open Go.RowKit

def spB : ByteArray := ⟨#[32]⟩
def SplitR (s : ByteArray) (w : World) (e : Ending) (w' : World) : Prop :=
  ∃ A c, e = .returned (.slice A (spl [] (bs s)).length c) ∧ Sl w' encS 1 A ((spl [] (bs s)).map mk) ∧ Below w.heap.size w w'
theorem hasS_map (l : List Bs) (q : Bs) : hasS (l.map mk) (mk q) = l.contains q := by
  unfold hasS
  rw [List.any_map]
  rw [Bool.eq_iff_iff]
  simp only [List.any_eq_true, List.contains_eq_mem, decide_eq_true_eq]
  constructor
  · rintro ⟨y, hy, h⟩
    have h2 : (q == y) = true := h
    rw [beq_iff_eq] at h2; rw [h2]; exact hy
  · intro h
    refine ⟨q, h, ?_⟩
    show (q == q) = true
    exact beq_self_eq_true q
def wordsB (s : ByteArray) : List ByteArray := (wordsOf (bs s)).map mk
theorem wordsB_len (s : ByteArray) : (wordsB s).length ≤ 61 := by unfold wordsB; rw [List.length_map]; exact wordsOf_len _
theorem addW_no {l : List Bs} {q : Bs} (h : wordV q = false ∨ l.contains q = true) : addW l q = l := by
  unfold addW
  rcases h with h | h
  · rw [h]; rfl
  · rw [h]; simp
theorem addW_yes {l : List Bs} {q : Bs} (h : wordV q = true) (h2 : l.contains q = false) : addW l q = l ++ [q] := by
  unfold addW; rw [h, h2]; rfl
theorem foldl_take {ps : List Bs} {k : Nat} (h : k < ps.length) : (ps.take (k + 1)).foldl addW [] = addW ((ps.take k).foldl addW []) ps[k] := by
  rw [List.take_succ_eq_append_getElem h, List.foldl_append]; rfl
theorem map_at {l : List Bs} {k : Nat} (h : k < l.length) : (l.map mk)[k]'(by rw [List.length_map]; exact h) = mk l[k] := by simp
end Go.Proofs.YtaghiefokmapmaaDoor

/- Filters: the plain law, and the walks of the program and of the reference. -/
set_option linter.unusedVariables false
namespace Go.Proofs.YtaghiefokmapmaaDoor
open Go.RowKit

/-! ### the plain law -/
def maskN (P : Nat) : Nat := 2 ^ (P % 30) ||| 2 ^ (P / 30 % 30)
def filtN (l : List Int) : Nat := l.foldl (fun f p => f ||| maskN p.toNat) 0
def fv (f : Int) : Bool := inI f 0 1073741823
def filterOf (l : List Int) : Int := if l.all pv then (filtN l : Int) else -1
def filterHas (f p : Int) : Bool := fv f && pv p && (f.toNat &&& maskN p.toNat == maskN p.toNat)
def filterJoin (a b : Int) : Int := if fv a && fv b then ((a.toNat ||| b.toNat : Nat) : Int) else -1
def filterWanted (f : Int) (l : List Int) : List Int := if fv f && l.all pv then l.filter (fun p => !filterHas f p) else []

theorem fv_iff {n : Int} : fv n = true ↔ 0 ≤ n ∧ n ≤ 1073741823 := by simp [fv, inI]
theorem pow30 {x : Nat} (h : x < 30) : (2 : Nat) ^ x < 2 ^ 30 := Nat.pow_lt_pow_right (by omega) h
theorem maskN_lt (P : Nat) : maskN P < 2 ^ 30 := Nat.or_lt_two_pow (pow30 (Nat.mod_lt _ (by omega))) (pow30 (Nat.mod_lt _ (by omega)))
theorem filtN_from (l : List Int) : ∀ f : Nat, f < 2 ^ 30 → l.foldl (fun f p => f ||| maskN p.toNat) f < 2 ^ 30 ∧ f ||| l.foldl (fun f p => f ||| maskN p.toNat) f = l.foldl (fun f p => f ||| maskN p.toNat) f := by
  induction l with
  | nil => intro f hf; exact ⟨hf, Nat.or_self f⟩
  | cons p r ih =>
    intro f hf
    have h := ih (f ||| maskN p.toNat) (Nat.or_lt_two_pow hf (maskN_lt _))
    refine ⟨h.1, ?_⟩
    simp only [List.foldl_cons]
    have h2 := h.2
    generalize List.foldl (fun f p => f ||| maskN p.toNat) (f ||| maskN p.toNat) r = g at *
    rw [← h2, Nat.or_assoc, ← Nat.or_assoc f f, Nat.or_self]
theorem filtN_lt (l : List Int) : filtN l < 2 ^ 30 := (filtN_from l 0 (by decide)).1
theorem or_and_self (f m : Nat) : (f ||| m) &&& m = m := by
  apply Nat.eq_of_testBit_eq; intro i; simp [Nat.testBit_and, Nat.testBit_or]; intro h; exact .inr h
theorem and_of_or {f m g : Nat} (h : f ||| g = g) (hm : f &&& m = m) : g &&& m = m := by
  apply Nat.eq_of_testBit_eq; intro i
  have h1 := congrArg (fun x => x.testBit i) h
  have h2 := congrArg (fun x => x.testBit i) hm
  simp only [Nat.testBit_and, Nat.testBit_or] at *
  cases hb : m.testBit i <;> simp_all
theorem filtN_has (l : List Int) : ∀ f : Nat, f < 2 ^ 30 → ∀ p ∈ l, l.foldl (fun f p => f ||| maskN p.toNat) f &&& maskN p.toNat = maskN p.toNat := by
  induction l with
  | nil => intro f _ p hp; cases hp
  | cons q r ih =>
    intro f hf p hp
    have hq : f ||| maskN q.toNat < 2 ^ 30 := Nat.or_lt_two_pow hf (maskN_lt _)
    rcases List.mem_cons.1 hp with rfl | hp
    · exact and_of_or (filtN_from r _ hq).2 (or_and_self f _)
    · exact ih _ hq p hp
theorem filtN_snoc (l : List Int) (p : Int) : filtN (l ++ [p]) = filtN l ||| maskN p.toNat := by simp [filtN, List.foldl_append]
theorem has_all {l : List Int} (hl : l.all pv = true) : ∀ p ∈ l, filterHas (filterOf l) p = true := by
  intro p hp
  have hlt := filtN_lt l
  unfold filterHas filterOf
  rw [if_pos hl]
  have h1 : fv (filtN l : Int) = true := fv_iff.2 ⟨by omega, by omega⟩
  rw [h1, List.all_eq_true.1 hl p hp]
  have := filtN_has l 0 (by decide) p hp
  simp only [Bool.and_self, Bool.true_and, beq_iff_eq, Int.toNat_natCast]
  exact this
theorem filterOf_bad {l : List Int} (h : l.all pv = false) : filterOf l = -1 := by unfold filterOf; simp [h]
theorem filterOf_ok {l : List Int} (h : l.all pv = true) : filterOf l = filtN l := by unfold filterOf; simp [h]
theorem filterOf_fv {l : List Int} (h : l.all pv = true) : fv (filterOf l) = true := by
  have := filtN_lt l
  rw [filterOf_ok h]; exact fv_iff.2 ⟨by omega, by omega⟩
theorem filterOf_lt0 {l : List Int} (h : filterOf l < 0) : filterOf l = -1 := by
  cases hl : l.all pv with
  | false => exact filterOf_bad hl
  | true => rw [filterOf_ok hl] at h; omega
theorem filterOf_valid {l : List Int} (h : ¬ filterOf l < 0) : l.all pv = true := by
  cases hl : l.all pv with
  | true => rfl
  | false => exact absurd (by rw [filterOf_bad hl]; omega) h
theorem wanted_of_has {f : Int} {l : List Int} (h : ∀ p ∈ l, filterHas f p = true) : filterWanted f l = [] := by
  unfold filterWanted; split
  · exact List.filter_eq_nil_iff.2 fun p hp => by simp [h p hp]
  · rfl
theorem join_comm (a b : Int) : filterJoin a b = filterJoin b a := by
  unfold filterJoin; rw [Bool.and_comm, Nat.or_comm]
theorem join_facts {a b : Int} (h : ¬ filterJoin a b < 0) : fv a = true ∧ fv b = true ∧ filterJoin (filterJoin a b) a = filterJoin a b ∧ a ≤ filterJoin a b ∧ b ≤ filterJoin a b ∧ filterJoin a b ≤ 1073741823 := by
  by_cases hv : (fv a && fv b) = true
  · have h2 : fv a = true ∧ fv b = true := by simpa using hv
    have e : filterJoin a b = ((a.toNat ||| b.toNat : Nat) : Int) := by unfold filterJoin; rw [if_pos hv]
    have ha := fv_iff.1 h2.1
    have hb := fv_iff.1 h2.2
    have hlt : a.toNat ||| b.toNat < 2 ^ 30 := Nat.or_lt_two_pow (by omega) (by omega)
    have l1 : a.toNat ≤ a.toNat ||| b.toNat := Nat.left_le_or
    have l2 : b.toNat ≤ a.toNat ||| b.toNat := Nat.right_le_or
    refine ⟨h2.1, h2.2, ?_, by rw [e]; omega, by rw [e]; omega, by rw [e]; omega⟩
    rw [e]
    have hf : fv ((a.toNat ||| b.toNat : Nat) : Int) = true := fv_iff.2 ⟨by omega, by omega⟩
    unfold filterJoin
    rw [hf, h2.1, Int.toNat_natCast, Nat.or_assoc, Nat.or_comm b.toNat, ← Nat.or_assoc, Nat.or_self]; rfl
  · exfalso; apply h; unfold filterJoin; rw [if_neg hv]; omega
theorem join_lt0 {a b : Int} (h : filterJoin a b < 0) : filterJoin a b = -1 := by
  unfold filterJoin at h ⊢; split
  · rename_i hv; rw [if_pos hv] at h; omega
  · rfl
theorem has_of_join {f g p : Int} (hf : fv f = true) (hg : fv g = true) (h : filterHas f p = true ∨ filterHas g p = true) : filterHas (filterJoin f g) p = true := by
  have e : filterJoin f g = ((f.toNat ||| g.toNat : Nat) : Int) := by unfold filterJoin; rw [hf, hg]; rfl
  have ha := fv_iff.1 hf
  have hb := fv_iff.1 hg
  have hlt : f.toNat ||| g.toNat < 2 ^ 30 := Nat.or_lt_two_pow (by omega) (by omega)
  have hv : fv (filterJoin f g) = true := by rw [e]; exact fv_iff.2 ⟨by omega, by omega⟩
  have hp : pv p = true := by
    rcases h with h | h <;> · unfold filterHas at h; simp only [Bool.and_eq_true] at h; exact h.1.2
  unfold filterHas
  rw [hv, hp, e, Int.toNat_natCast]
  simp only [Bool.and_self, Bool.true_and, beq_iff_eq]
  rcases h with h | h
  · unfold filterHas at h; simp only [Bool.and_eq_true, beq_iff_eq] at h
    exact and_of_or (by rw [← Nat.or_assoc, Nat.or_self]) h.2
  · unfold filterHas at h; simp only [Bool.and_eq_true, beq_iff_eq] at h
    refine and_of_or ?_ h.2
    rw [Nat.or_comm f.toNat, ← Nat.or_assoc, Nat.or_self]
theorem has_full {f p : Int} (h : filterHas f p = true) : filterHas 1073741823 p = true := by
  have hp : pv p = true := by unfold filterHas at h; simp only [Bool.and_eq_true] at h; exact h.1.2
  have h1 : fv 1073741823 = true := by decide
  unfold filterHas; rw [h1, hp]
  have := maskN_lt p.toNat
  simp only [Bool.and_self, Bool.true_and, beq_iff_eq]
  show 1073741823 &&& maskN p.toNat = maskN p.toNat
  rw [Nat.and_comm]
  have e : (1073741823 : Nat) = 2 ^ 30 - 1 := rfl
  rw [e, Nat.and_two_pow_sub_one_eq_mod, Nat.mod_eq_of_lt this]
theorem has_empty (p : Int) : filterHas 0 p = false := by
  unfold filterHas
  have h : ((0 : Int).toNat &&& maskN p.toNat == maskN p.toNat) = false := by
    rw [show (0 : Int).toNat = 0 from rfl, Nat.zero_and]
    apply beq_eq_false_iff_ne.2
    have : 2 ^ (p.toNat % 30) ≤ maskN p.toNat := Nat.left_le_or
    have := Nat.two_pow_pos (p.toNat % 30)
    omega
  rw [h]; simp
theorem wanted_join {f : Int} {l : List Int} : filterWanted (filterJoin f (filterOf (filterWanted f l))) l = [] := by
  by_cases hv : (fv f && l.all pv) = true
  · have h2 : fv f = true ∧ l.all pv = true := by simpa using hv
    have e : filterWanted f l = l.filter (fun p => !filterHas f p) := by unfold filterWanted; rw [if_pos hv]
    have hx : (filterWanted f l).all pv = true := by
      rw [e, List.all_eq_true]; intro p hp; exact List.all_eq_true.1 h2.2 p (List.mem_filter.1 hp |>.1)
    refine wanted_of_has fun p hp => has_of_join h2.1 (filterOf_fv hx) ?_
    cases hh : filterHas f p with
    | true => exact .inl rfl
    | false => right; exact has_all hx p (by rw [e]; exact List.mem_filter.2 ⟨hp, by simp [hh]⟩)
  · have hf : filterWanted f l = [] := by unfold filterWanted; rw [if_neg hv]
    cases hl : l.all pv with
    | false => unfold filterWanted; simp [hl]
    | true =>
      have hff : fv f = false := by cases h : fv f <;> simp_all
      have : filterJoin f (filterOf (filterWanted f l)) = -1 := by unfold filterJoin; simp [hff]
      rw [this]; unfold filterWanted; rw [if_neg]; simp [fv, inI]

/-! ### bits of int64 -/
theorem ofInt_i64 (a : Nat) (ha : a < 9223372036854775808) : (BitVec.ofInt 64 (a : Int)).toNat = a := by
  rw [BitVec.ofInt_natCast, BitVec.toNat_ofNat]; exact Nat.mod_eq_of_lt (by omega)
theorem i64_and_nat (a b : Nat) (ha : a < 9223372036854775808) (hb : b < 9223372036854775808) : bits .and .i64 (a : Int) (b : Int) = ((a &&& b : Nat) : Int) := by
  have hx : a &&& b < 2 ^ 63 := Nat.and_lt_two_pow _ (by omega)
  show IntKind.i64.wrap ((BitVec.ofInt 64 (a : Int) &&& BitVec.ofInt 64 (b : Int)).toNat : Int) = _
  rw [BitVec.toNat_and, ofInt_i64 a ha, ofInt_i64 b hb, IntKind.wrap_i64]
  omega
theorem i64_or_nat (a b : Nat) (ha : a < 9223372036854775808) (hb : b < 9223372036854775808) : bits .or .i64 (a : Int) (b : Int) = ((a ||| b : Nat) : Int) := by
  have hx : a ||| b < 2 ^ 63 := Nat.or_lt_two_pow (by omega) (by omega)
  show IntKind.i64.wrap ((BitVec.ofInt 64 (a : Int) ||| BitVec.ofInt 64 (b : Int)).toNat : Int) = _
  rw [BitVec.toNat_or, ofInt_i64 a ha, ofInt_i64 b hb, IntKind.wrap_i64]
  omega
theorem or_pows {x y : Nat} (hx : x < 30) (hy : y < 30) : bits .or .i64 (wrap64 (2 ^ x)) (wrap64 (2 ^ y)) = ((2 ^ x ||| 2 ^ y : Nat) : Int) := by
  have h1 := pow30 hx
  have h2 := pow30 hy
  have p1 : ((2 : Int) ^ x) = ((2 ^ x : Nat) : Int) := by simp
  have p2 : ((2 : Int) ^ y) = ((2 ^ y : Nat) : Int) := by simp
  rw [p1, p2]
  generalize (2 ^ x : Nat) = X at *
  generalize (2 ^ y : Nat) = Y at *
  have e1 : wrap64 (X : Int) = X := IntWalk.wrap64_in _ (by omega)
  have e2 : wrap64 (Y : Int) = Y := IntWalk.wrap64_in _ (by omega)
  rw [e1, e2, i64_or_nat _ _ (by omega) (by omega)]

/-! ### the walks -/
theorem all_take_succ {α : Type} {p : α → Bool} {l : List α} {k : Nat} (hk : k < l.length) (h : (l.take k).all p = true) (hx : p l[k] = true) : (l.take (k + 1)).all p = true := by
  rw [List.take_succ_eq_append_getElem hk, List.all_append, h]; simp [hx]
theorem all_of_take {α : Type} {p : α → Bool} {l : List α} {k : Nat} (hk : ¬ k < l.length) (h : (l.take k).all p = true) : l.all p = true := by
  rwa [List.take_of_length_le (by omega)] at h
theorem all_bad {α : Type} {p : α → Bool} {l : List α} {k : Nat} (hk : k < l.length) (h : p l[k] = false) : l.all p = false := by
  rw [List.all_eq_false]; exact ⟨l[k], by simp, by simp [h]⟩

theorem filtN_take {l : List Int} {k : Nat} (hk : k < l.length) : filtN (l.take (k + 1)) = filtN (l.take k) ||| maskN l[k].toNat := by
  rw [List.take_succ_eq_append_getElem hk, filtN_snoc]
end Go.Proofs.YtaghiefokmapmaaDoor

/- Drawn inputs: names, prints, and the like. -/
set_option linter.unusedVariables false
namespace Go.Proofs.YtaghiefokmapmaaDoor
open Go.RowKit

/-- A drawn result that lies in no memory: 'P v'; at most 'C' bytes were read. -/
def Drew (P : Value → Prop) (C : Nat) (w : World) (g p : Nat) (e : Ending) (w' : World) : Prop :=
  ∃ (v : Value) (p' : Nat), e = .returned v ∧ P v ∧ Only g w w' ∧ Rdr w' g p' ∧ p' ≤ p + C
def ShortStr (m : Nat) (v : Value) : Prop := ∃ s : ByteArray, v = .string s ∧ s.size ≤ m
theorem size_lit (a : Array UInt8) : (ByteArray.mk a).size = a.size := rfl

theorem lit_cell {w w1 : World} {g : Nat} {cs : Array Value} {E : TypeId} (ho : Only g (w.alloc (.cells cs E)) w1) (hg : g < w.heap.size) {k : Nat} {u : Value} (hu : cs[k]? = some u) : w1.cell? ⟨w.heap.size, k, none⟩ = some u :=
  ho.cell (by omega) (by rw [cell_of_row _ _ k _ E (0, 0) (heap_alloc_new w _)]; exact hu)

def shortB (m : Nat) : Value → Bool | .string s => decide (s.size ≤ m) | _ => false
def intB (lo hi : Int) : Value → Bool | .int .i64 n => decide (lo ≤ n) && decide (n ≤ hi) | _ => false
theorem shortB_iff {m : Nat} {v : Value} (h : shortB m v = true) : ∃ s, v = .string s ∧ s.size ≤ m := by
  unfold shortB at h; split at h
  · exact ⟨_, rfl, by simpa using h⟩
  · cases h
theorem intB_iff {lo hi : Int} {v : Value} (h : intB lo hi v = true) : ∃ n, v = .int .i64 n ∧ lo ≤ n ∧ n ≤ hi := by
  unfold intB at h; split at h
  · exact ⟨_, rfl, by simpa using h⟩
  · cases h
/-- 'pick' of the place of a literal's element. -/
theorem pick_lit {w : World} {g p : Nat} {cs : Array Value} {E : TypeId} (k : Nat) (chk : Value → Bool) (hr : Rdr w g p) (hp : p ≤ 1000000000) (hk : cs.size = k) (hpos : 0 < k) (hb : k ≤ 1000) (hc : cs.toList.all chk = true) :
    Calls Tryd.prog 31 #[.pointer (some ⟨g, 0, none⟩), .int .i64 (k : Int)] (w.alloc (.cells cs E)) fun e w' =>
      ∃ (x : Nat) (u : Value), e = .returned (.int .i64 x) ∧ x < k ∧ w'.cell? ⟨w.heap.size, x, none⟩ = some u ∧ chk u = true ∧ Only g w w' ∧ Rdr w' g (p + 1) := by
  refine (pick_any (k : Int) g p _ (hr.alloc _) hp (by omega)).mono ?_
  rintro e w' ⟨x, rfl, hx, ho, hr'⟩
  have hxk : x < cs.size := by omega
  refine ⟨x, cs[x], rfl, by omega, lit_cell ho hr.lt (Array.getElem?_eq_getElem hxk), List.all_eq_true.1 hc _ (by simp), (Only.of_below ((Below.refl _ _).alloc (Nat.le_refl _) _)).trans ho, hr'⟩
theorem pick_str {w : World} {g p : Nat} {cs : Array Value} {E : TypeId} (k m : Nat) (hr : Rdr w g p) (hp : p ≤ 1000000000) (hk : cs.size = k) (hpos : 0 < k) (hb : k ≤ 1000) (hc : cs.toList.all (shortB m) = true) :
    Calls Tryd.prog 31 #[.pointer (some ⟨g, 0, none⟩), .int .i64 (k : Int)] (w.alloc (.cells cs E)) fun e w' =>
      ∃ (x : Nat) (s : ByteArray), e = .returned (.int .i64 x) ∧ x < k ∧ w'.cell? ⟨w.heap.size, x, none⟩ = some (.string s) ∧ s.size ≤ m ∧ Only g w w' ∧ Rdr w' g (p + 1) := by
  refine (pick_lit k (shortB m) hr hp hk hpos hb hc).mono ?_
  rintro e w' ⟨x, u, rfl, hx, hu, hcu, ho, hr'⟩
  obtain ⟨s, rfl, hs⟩ := shortB_iff hcu
  exact ⟨x, s, rfl, hx, hu, hs, ho, hr'⟩
theorem pick_int {w : World} {g p : Nat} {cs : Array Value} {E : TypeId} (k : Nat) (lo hi : Int) (hr : Rdr w g p) (hp : p ≤ 1000000000) (hk : cs.size = k) (hpos : 0 < k) (hb : k ≤ 1000) (hc : cs.toList.all (intB lo hi) = true) :
    Calls Tryd.prog 31 #[.pointer (some ⟨g, 0, none⟩), .int .i64 (k : Int)] (w.alloc (.cells cs E)) fun e w' =>
      ∃ (x : Nat) (n : Int), e = .returned (.int .i64 x) ∧ x < k ∧ w'.cell? ⟨w.heap.size, x, none⟩ = some (.int .i64 n) ∧ lo ≤ n ∧ n ≤ hi ∧ Only g w w' ∧ Rdr w' g (p + 1) := by
  refine (pick_lit k (intB lo hi) hr hp hk hpos hb hc).mono ?_
  rintro e w' ⟨x, u, rfl, hx, hu, hcu, ho, hr'⟩
  obtain ⟨n, rfl, h1, h2⟩ := intB_iff hcu
  exact ⟨x, n, rfl, hx, hu, h1, h2, ho, hr'⟩

/-- A drawn result of a 'Draw..' function: no memory that was there has turned. -/
def Drawn (P : Value → Prop) (w : World) (e : Ending) (w' : World) : Prop := ∃ v, e = .returned v ∧ P v ∧ Below w.heap.size w w'
end Go.Proofs.YtaghiefokmapmaaDoor

/- Filters: FilterHas, FilterJoin, FilterWanted; drawn prints and filters. -/
set_option linter.unusedVariables false
namespace Go.Proofs.YtaghiefokmapmaaDoor
open Go.RowKit

theorem has_nat {F : Nat} {p : Int} (hf : fv (F : Int) = true) (hp : pv p = true) : filterHas (F : Int) p = (((F &&& maskN p.toNat : Nat) : Int) == ((maskN p.toNat : Nat) : Int)) := by
  unfold filterHas; rw [hf, hp, Int.toNat_natCast]
  simp only [Bool.and_self, Bool.true_and]
  rw [Bool.eq_iff_iff]; simp only [beq_iff_eq]; omega
theorem has_badf {f p : Int} (hf : fv f = false) : filterHas f p = false := by unfold filterHas; simp [hf]
theorem has_badp {f p : Int} (hp : pv p = false) : filterHas f p = false := by unfold filterHas; simp [hp]

theorem join_bad {a b : Int} (h : fv a = false ∨ fv b = false) : filterJoin a b = -1 := by
  unfold filterJoin; rcases h with h | h <;> simp [h]
theorem join_nat {F G : Nat} (hf : fv (F : Int) = true) (hg : fv (G : Int) = true) : filterJoin F G = ((F ||| G : Nat) : Int) := by
  unfold filterJoin; rw [hf, hg]; rfl
theorem wanted_bad {f : Int} {l : List Int} (h : fv f = false ∨ l.all pv = false) : filterWanted f l = [] := by
  unfold filterWanted; rcases h with h | h <;> simp [h]
theorem wanted_ok {f : Int} {l : List Int} (hf : fv f = true) (hl : l.all pv = true) : filterWanted f l = l.filter (fun p => !filterHas f p) := by
  unfold filterWanted; simp [hf, hl]
theorem filter_take_yes {α : Type} {p : α → Bool} {l : List α} {k : Nat} (hk : k < l.length) (h : p l[k] = true) : (l.take (k + 1)).filter p = (l.take k).filter p ++ [l[k]] := by
  rw [List.take_succ_eq_append_getElem hk, List.filter_append]; simp [h]
theorem filter_take_no {α : Type} {p : α → Bool} {l : List α} {k : Nat} (hk : k < l.length) (h : p l[k] = false) : (l.take (k + 1)).filter p = (l.take k).filter p := by
  rw [List.take_succ_eq_append_getElem hk, List.filter_append]; simp [h]
end Go.Proofs.YtaghiefokmapmaaDoor

/- 'append' of one element onto a row of the call's own, telling besides what became of all other rows. -/
set_option linter.unusedVariables false
namespace Go.Proofs.YtaghiefokmapmaaDoor
open Go.RowKit

/-- w' is w but for new blocks and for the row that v owns. -/
def Grew (v : Value) (w w' : World) : Prop := w.grownBy w' v.ownBlock
/-- No slice at A lies in v's own block. -/
def Apart (A : Option Addr) (v : Value) : Prop := ∀ b o, A = some ⟨b, o, none⟩ → v.ownBlock ≠ some b
theorem Apart.nil (A : Option Addr) : Apart A (.slice none 0 0) := fun b o _ h => by simp [Value.ownBlock] at h
theorem Sl.grew {α : Type} {enc : α → List Value} {w w' : World} {size : Nat} {A : Option Addr} {l : List α} {v : Value} (h : Sl w enc size A l) (hg : Grew v w w') (ha : Apart A v) : Sl w' enc size A l := by
  intro hn
  obtain ⟨b, o, e, hc⟩ := h hn
  refine ⟨b, o, e, fun j u hu => ?_⟩
  have hcc := hc j u hu
  have hlt := World.block_lt_of_cell? w _ hcc
  rw [World.cell?_of_block (w := w) (hg.block b hlt (fun e2 => ha b o e (by rw [e2])))]; exact hcc
theorem Own.blk {α : Type} {enc : α → List Value} {w : World} {base size : Nat} {E : TypeId} {v : Value} {l : List α} (h : Own w base E size enc v l) : ∀ g, v.ownBlock = some g → base ≤ g ∧ g < w.heap.size := fun g hg => World.ownsRow.lt h g hg
/-- What is read lies below the base of what is owned: apart. -/
theorem Apart.of_lt {A : Option Addr} {v : Value} {B : Nat} (hA : ∀ b o, A = some ⟨b, o, none⟩ → b < B) (hv : ∀ g, v.ownBlock = some g → B ≤ g) : Apart A v := fun b o e h => by
  have h1 := hA b o e; have h2 := hv b h; exact absurd h1 (by omega)
theorem Apart.of_ge {A : Option Addr} {v : Value} {B : Nat} (hA : ∀ b o, A = some ⟨b, o, none⟩ → B ≤ b) (hv : ∀ g, v.ownBlock = some g → g < B) : Apart A v := fun b o e h => by
  have := hA b o e; have := hv b h; omega
theorem Sl.lt {α : Type} {enc : α → List Value} {w : World} {size : Nat} {A : Option Addr} {l : List α} (h : Sl w enc size A l) (he : ∀ x, (enc x).length = size) (hs : 0 < size) (hl : 0 < l.length) : ∀ b o, A = some ⟨b, o, none⟩ → b < w.heap.size := by
  intro b o e
  obtain ⟨b', o', e', hc⟩ := h hl
  have hpos : 0 < (flat enc l).length := by rw [flat_length he l]; exact Nat.mul_pos hl hs
  have h0 := hc 0 _ (List.getElem?_eq_getElem hpos)
  have hlt : b' < w.heap.size := World.block_lt_of_cell? w _ h0
  rw [e] at e'; injection e' with e'; injection e' with e1 _
  omega

theorem wpList_app2 {P : Program} {α : Type} {enc : α → List Value} {ops : Array Oper} {rest : List Oper} {o : Oper} {a : Act} {Q : Exit → Act → World → Prop} {w0 wr : World} {B base size bytes : Nat} {t E : TypeId} {i : TypeInfo} {z : Value} {v : Value} {l : List α}
    (ht : P.underlying t = some (.slice E)) (hi : P.info? E = some i) (hz : i.zero = some z) (hsize : i.size = size) (hby : i.bytes = bytes) (hzs : z.cells.size = size) (hsz : 0 < size) (hb200 : bytes ≤ 256)
    (hgd : o.guard = none) (s x : Operand) (ho : o.op = .call { callee := .builtin .append, args := #[s, x], argTypes := #[t, t] })
    (hs : a.eval s = v) (hx : a.eval x = .slice (some ⟨wr.heap.size, 0, none⟩) 1 1)
    (hown : Own wr base E size enc v l) (hb : Below B w0 wr) (hB : B ≤ base) (hbase : base ≤ wr.heap.size) (hn : l.length ≤ 16777216) (y : α) (cells : Array Value) (hcl : cells = (enc y).toArray) (hce : (enc y).length = size) (h1 : ∀ u ∈ enc y, u.oneCell' = true)
    (h : ∀ v' w', Own w' base E size enc v' (l ++ [y]) → Below B w0 w' → Grew v wr w' → wpList P ops Q rest (a.put o.dst v') w') : wpList P ops Q (o :: rest) a (wr.alloc (.cells cells E)) := by
  subst hcl
  refine wpList_append_own _ hgd s x t ho base E i z size bytes ht hi hz hsize hby hzs hsz v l.length (flat enc l) hs (World.ownsRow.alloc hown _) ⟨wr.heap.size, 0, none⟩ 1 1 (enc y) hx (by rw [hce, Nat.one_mul]) ?_ h1 ?_ ?_ ?_ ?_
  · intro j u hu
    have hadd : (⟨wr.heap.size, 0, none⟩ : Addr).add j = ⟨wr.heap.size, j, none⟩ := by unfold Addr.add; split <;> simp_all
    rw [hadd, cell_of_row _ _ j _ E (0, 0) (heap_alloc_new wr _)]
    simpa using hu
  · unfold maxLen; omega
  · have := Nat.mul_le_mul_left (l.length + 1) hb200; omega
  · simp; omega
  · intro v' w' hown' hg _
    refine h v' w' ?_ ((hb.alloc (Nat.le_trans hB hbase) _).grown hg (by simp; omega) (fun k hk => ?_)) ?_
    · show w'.ownsRow base E size v' (l ++ [y]).length (flat enc (l ++ [y]))
      rw [flat_snoc, List.length_append]; exact hown'
    · exact Nat.le_trans hB (World.ownsRow.lt hown k hk).1
    · exact ⟨hg.os, hg.tape, hg.output, Nat.le_trans (by simp) hg.size, fun k hk hne => (hg.block k (by simp; omega) hne).trans (Below.heap_alloc wr _ k hk)⟩
section
variable {ops : Array Oper} {rest : List Oper} {o : Oper} {a : Act} {Q : Exit → Act → World → Prop} {w0 wr : World} {v : Value}
theorem app_int2 {l : List Int} {y : Int} {s x : Operand} (hgd : o.guard = none) (ho : o.op = .call { callee := .builtin .append, args := #[s, x], argTypes := #[66, 66] })
    (hs : a.eval s = v) (hx : a.eval x = .slice (some ⟨wr.heap.size, 0, none⟩) 1 1)
    (hown : Own wr w0.heap.size 3 1 encI v l) (hb : Below w0.heap.size w0 wr) (hn : l.length ≤ 16777216)
    (h : ∀ v' w', Own w' w0.heap.size 3 1 encI v' (l ++ [y]) → Below w0.heap.size w0 w' → Grew v wr w' → wpList Tryd.prog ops Q rest (a.put o.dst v') w') :
    wpList Tryd.prog ops Q (o :: rest) a (wr.alloc (.cells #[.int .i64 y] 3)) := by
  obtain ⟨i0, hi0, hz0, hz1, hz2⟩ := info_parts int_info
  exact wpList_app2 Tryd.underlying66 hi0 hz0 hz1 hz2 rfl (by decide) (by decide) hgd s x ho hs hx hown hb (Nat.le_refl _) hb.size hn y _ rfl rfl (by intro u hu; simp [encI] at hu; subst hu; rfl) h
end
end Go.Proofs.YtaghiefokmapmaaDoor

/- Regions that draw their order and whose calls make memory of their own: ONE walk, in the order of the text, in every world that is as this one below its heap's size. -/
set_option linter.unusedVariables false
namespace Go.Proofs.YtaghiefokmapmaaDoor
open Go.RowKit

/-- What may have come since: new blocks, and a count of draws. -/
structure Since where
  os : Array Obj
  n : Nat
instance : Inhabited Since := ⟨⟨#[], 0⟩⟩
def far (w : World) (p : Since) : World := { w with heap := w.heap ++ p.os, drawn := p.n }
theorem far_size (w : World) (p : Since) : (far w p).heap.size = w.heap.size + p.os.size := by simp [far]
theorem far_below (w : World) (p : Since) : Below w.heap.size w (far w p) := ⟨rfl, rfl, rfl, by rw [far_size]; omega, fun k hk => by simp [far, Array.getElem?_append, hk]⟩
theorem below_far {w w' : World} (h : Below w.heap.size w w') : ∃ p, w' = far w p := by
  refine ⟨⟨w'.heap.extract w.heap.size w'.heap.size, w'.drawn⟩, ?_⟩
  obtain ⟨h1, h2, h3, h4, h5⟩ := h
  obtain ⟨hp, t, d, o, out⟩ := w'
  simp only at h1 h2 h3 h4 h5
  subst h1 h2 h3
  have e : hp = w.heap ++ hp.extract w.heap.size hp.size := by
    apply Array.ext_getElem?
    intro k
    by_cases hk : k < w.heap.size
    · rw [h5 k hk, Array.getElem?_append_left hk]
    · rw [Array.getElem?_append_right (by omega), Array.getElem?_extract]
      have e : w.heap.size + (k - w.heap.size) = k := by omega
      rw [e]
      split
      · rfl
      · rename_i hn
        rw [Array.getElem?_eq_none]
        omega
  unfold far
  exact congrArg (fun h => (⟨h, w.tape, d, w.os, w.output⟩ : World)) e
theorem far_cell {w : World} {a : Addr} {v : Value} (h : w.cell? a = some v) (p : Since) : (far w p).cell? a = some v :=
  ((far_below w p).cell (World.block_lt_of_cell? w _ h)).trans h
theorem wp_region_far {P : Program} {id : Nat} {Q : Exit → Act → World → Prop} {a : Act} {w : World} {l : List Oper} (hm : P.follows .mixedOrders = true) (hB : Region.lexB .any l.toArray = true)
    (h : wpQuiet P l.toArray (fun w' => ∃ p : Since, w' = far w p) (fun a' => ∀ w', (∃ p : Since, w' = far w p) → Q .normal a' w') l a) : (Code.region id l.toArray true).wp P Q a w :=
  wp_region_quiet (C := fun w' => ∃ p : Since, w' = far w p) hm hB (below_far ((Below.refl _ w).drew)) (by simpa using h)
section
variable {P : Program} {f : FuncId} {args : Array Value} {w : World} {p : Since} {v : Value}
theorem far_call (h : Calls P f args (far w p) fun e w' => e = .returned v ∧ Below (far w p).heap.size (far w p) w') : Calls P f args (far w p) fun e w'' => e = .returned v ∧ ∃ q : Since, w'' = far w q :=
  h.mono fun _ _ ⟨he, hb⟩ => ⟨he, below_far (Below_then (far_below w p) hb (Nat.le_refl _))⟩
theorem far_same (h : Calls P f args (far w p) fun e w' => e = .returned v ∧ far w p = w') : Calls P f args (far w p) fun e w'' => e = .returned v ∧ ∃ q : Since, w'' = far w q :=
  h.mono fun _ _ ⟨he, hb⟩ => ⟨he, p, hb.symm⟩
theorem far_drawn (h : Calls P f args (far w p) fun e w' => e = .returned v ∧ ∃ n, w' = (far w p).drewN n) : Calls P f args (far w p) fun e w'' => e = .returned v ∧ ∃ q : Since, w'' = far w q :=
  far_call (h.mono fun _ _ ⟨he, n, hn⟩ => ⟨he, by rw [hn]; exact Below_drewN (Below.refl _ _) n⟩)
theorem far_drawn_ (h : Calls P f args (far w p) fun e w' => e = .returned v ∧ Drawn_ (far w p) w') : Calls P f args (far w p) fun e w'' => e = .returned v ∧ ∃ q : Since, w'' = far w q :=
  far_drawn h
end
theorem Below_drew {w w1 : World} (h : Below w.drew.heap.size w.drew w1) : Below w.heap.size w w1 := ⟨h.os, h.tape, h.output, h.size, h.block⟩
theorem Sl.far {α : Type} {enc : α → List Value} {w : World} {size : Nat} {A : Option Addr} {l : List α} (h : Sl w enc size A l) (p : Since) : Sl (far w p) enc size A l := h.below (far_below w p)
end Go.Proofs.YtaghiefokmapmaaDoor

/- Marks that a law writes into slices, and looks for afterwards. -/
set_option linter.unusedVariables false
namespace Go.Proofs.YtaghiefokmapmaaDoor
open Go.RowKit

/-! ### plain -/
def dgo : Nat → Nat → Bs → Bs
  | 0, _, acc => acc
  | f + 1, k, acc => if k = 0 then acc else dgo f (k / 10) (UInt8.ofNat (48 + k % 10) :: acc)
def markT (k : Nat) : Bs := if k = 0 then [109, 48] else 109 :: dgo k k []
def MarkAt (k0 : Nat) (acc : Bs) (K : Nat) : Prop := ∃ f, K ≤ f ∧ dgo k0 k0 [] = dgo f K acc
theorem MarkAt.start (k0 : Nat) : MarkAt k0 [] k0 := ⟨k0, Nat.le_refl _, rfl⟩
theorem MarkAt.step {k0 : Nat} {acc : Bs} {K : Nat} (h : MarkAt k0 acc K) (hK : 0 < K) : MarkAt k0 (UInt8.ofNat (48 + K % 10) :: acc) (K / 10) := by
  obtain ⟨f, hf, e⟩ := h
  cases f with
  | zero => omega
  | succ f => exact ⟨f, by omega, by rw [e, dgo, if_neg (by omega)]⟩
theorem MarkAt.done {k0 : Nat} {acc : Bs} {K : Nat} (h : MarkAt k0 acc K) (hK : ¬ 0 < K) : dgo k0 k0 [] = acc := by
  obtain ⟨f, hf, e⟩ := h
  have : K = 0 := by omega
  subst this
  rw [e]
  cases f with
  | zero => rfl
  | succ f => rw [dgo, if_pos rfl]
theorem markT_pos {k : Nat} (h : 0 < k) : markT k = 109 :: dgo k k [] := by unfold markT; rw [if_neg (by omega)]
theorem markT_zero : markT 0 = [109, 48] := rfl

/-! ### memory -/
theorem Own.grew {α : Type} {enc : α → List Value} {w w' : World} {base size : Nat} {E : TypeId} {u v : Value} {l : List α} (h : Own w base E size enc u l) (hg : Grew v w w') (hne : ∀ g, u.ownBlock = some g → v.ownBlock ≠ some g) : Own w' base E size enc u l := by
  refine World.ownsRow.kept h (row := v.ownBlock) hg ?_
  cases hu : u.ownBlock with
  | none => exact .inl rfl
  | some k => right; intro e; exact hne k hu e.symm
theorem Grew.below {w w' : World} {v : Value} (h : Below w.heap.size w w') : Grew v w w' := ⟨h.os, h.tape, h.output, h.size, fun k hk _ => h.block k hk⟩
theorem Grew.refl (v : Value) (w : World) : Grew v w w := ⟨rfl, rfl, rfl, Nat.le_refl _, fun _ _ _ => rfl⟩
theorem Grew.trans {v : Value} {w w1 w2 : World} (h : Grew v w w1) (h2 : Grew v w1 w2) : Grew v w w2 :=
  ⟨h2.os.trans h.os, h2.tape.trans h.tape, h2.output.trans h.output, Nat.le_trans h.size h2.size, fun k hk hne => (h2.block k (Nat.lt_of_lt_of_le hk h.size) hne).trans (h.block k hk hne)⟩
theorem Grew.set {v : Value} {w w1 : World} (h : Grew v w w1) {g o : Nat} (hv : v.ownBlock = some g) (u : Value) : Grew v w (w1.setCell ⟨g, o, none⟩ u) :=
  h.trans ⟨rfl, rfl, rfl, by simp [World.setCell], fun k hk hne => Below.heap_setCell _ _ _ _ (by rintro rfl; exact hne (by rw [hv]))⟩
/-- Below a base that is not above what v owns, nothing has turned. -/
theorem Grew.under {v : Value} {w0 w w' : World} (h : Grew v w w') (hb : Below w0.heap.size w0 w) (hv : ∀ g, v.ownBlock = some g → w0.heap.size ≤ g) : Below w0.heap.size w0 w' :=
  hb.trans ⟨h.os, h.tape, h.output, h.size, fun k hk => h.block k (Nat.lt_of_lt_of_le hk hb.size) (fun e => by have := hv k e.symm; omega)⟩
/-- A row that is owned, ready to be written anew. -/
theorem Own.row {α : Type} {enc : α → List Value} {w : World} {base size : Nat} {E : TypeId} {v : Value} {l : List α} (h : Own w base E size enc v l) (hl : 0 < l.length) :
    ∃ g cap, v = .slice (some ⟨g, 0, none⟩) l.length cap ∧ base ≤ g ∧ l.length ≤ cap ∧ cap ≤ maxLen ∧ Filled w g (cap * size) E [] := by
  rcases h.2 with ⟨hv, hn⟩ | ⟨g, cap, cur, hv, hg, hh, hnc, hcm, hsz, ht⟩
  · omega
  · exact ⟨g, cap, hv, hg, hnc, hcm, cur, hh, hsz, Nat.zero_le _, rfl⟩
theorem Filled.ownc {α : Type} {enc : α → List Value} {wr : World} {g cap : Nat} {E : TypeId} {l : List α} {size base : Nat} (h : Filled wr g (cap * size) E (flat enc l)) (he : ∀ x, (enc x).length = size) (hb : base ≤ g) (hm : cap ≤ maxLen) (hl : l.length ≤ cap) :
    Own wr base E size enc (.slice (some ⟨g, 0, none⟩) l.length cap) l := by
  obtain ⟨cs, hg, hs, hd, ht⟩ := h
  refine ⟨flat_length he l, .inr ⟨g, cap, cs, rfl, hb, hg, hl, hm, hs, ?_⟩⟩
  rw [← flat_length he l]; exact ht
theorem own_of_slice (g o n c : Nat) : (Value.slice (some ⟨g, o, none⟩) n c).ownBlock = some g := rfl

/-! ### walks -/

/-! ### numbers -/
def cntI (k n : Nat) : List Int := (List.range n).map fun j => ((k + j : Nat) : Int)
theorem cntI_len (k n : Nat) : (cntI k n).length = n := by simp [cntI]
theorem cntI_succ (k n : Nat) : cntI k (n + 1) = cntI k n ++ [((k + n : Nat) : Int)] := by simp [cntI, List.range_succ]
theorem cntI_at {k n j : Nat} (h : j < n) : (cntI k n)[j]'(by rw [cntI_len]; exact h) = ((k + j : Nat) : Int) := by simp [cntI]
theorem flatI_len (l : List Int) : (flat encI l).length = l.length := by rw [flat_length (size := 1) (fun _ => rfl), Nat.mul_one]
def Marked {α : Type} (E : TypeId) (size : Nat) (enc : α → List Value) (base : Nat) (v : Value) (l' : List α) (r : Nat) (w : World) (e : Ending) (w' : World) : Prop :=
  e = .returned (.int .i64 (r : Int)) ∧ Own w' base E size enc v l' ∧ Grew v w w'
theorem Own.empty {α : Type} {enc : α → List Value} {w : World} {base size : Nat} {E : TypeId} {v : Value} {l l' : List α} (h : Own w base E size enc v l) (hl : l.length = 0) (hl' : l'.length = 0) : Own w base E size enc v l' := by
  have e1 : l = [] := List.eq_nil_of_length_eq_zero hl
  have e2 : l' = [] := List.eq_nil_of_length_eq_zero hl'
  rw [e2]; rw [e1] at h; exact h
end Go.Proofs.YtaghiefokmapmaaDoor

/- Walks: pieces. -/
set_option linter.unusedVariables false
namespace Go.Proofs.YtaghiefokmapmaaDoor
open Go.RowKit

def pieceR (p : Pc) : Bool := textV (bs p.2) && (prOf (bs p.2) == p.1)
theorem below1 {w : World} (o : Obj) (n : Nat) : Below w.heap.size w ((w.alloc o).drewN n) := Below_drewN ((Below.refl _ _).alloc (Nat.le_refl _) o) n

set_option maxHeartbeats 2000000 in
set_option maxRecDepth 100000 in
theorem iPieceRight_any (a : Int) (t : ByteArray) (w : World) (hs : t.size ≤ 16777216) :
    Calls Tryd.prog 28 #[.agg #[.int .i64 a, .string t]] w fun e w' => e = .returned (.bool (pieceR (a, t))) ∧ Below w.heap.size w w' := by
  cases ht : textV (bs t)
  · have hp : pieceR (a, t) = false := by unfold pieceR; rw [ht]; rfl
    rw [hp]
    clear hp
    go_enter Tryd.func28, Tryd.ntmps28
    go_wp2
    go_quiet ((first | (go_at_call 34; exact quiet_left (iTextValid_any _ _ hs)) | (go_at_call 35; exact quiet_left (iPrintOf_any _ _ hs))))
    go_wp2
    go_ret
    exact ⟨rfl, below1 _ _⟩
  · have hp : pieceR (a, t) = (prOf (bs t) == a) := by unfold pieceR; rw [ht]; rfl
    rw [hp]
    clear hp
    generalize hq : prOf (bs t) = q at *
    have hP := iPrintOf_any t
    rw [hq] at hP
    have HP := Lib.hid hP
    clear hP hq
    go_enter Tryd.func28, Tryd.ntmps28
    go_wp2
    go_quiet ((first | (go_at_call 34; exact quiet_left (iTextValid_any _ _ hs)) | (go_at_call 35; exact quiet_left (HP.out _ hs))))
    go_wp2
    go_ret
    exact ⟨rfl, below1 _ _⟩
def szT (left n : Int) : Int := if left < n then -1 else left - n
theorem below3 {w : World} (o1 o2 o3 : Obj) : Below w.heap.size w (((w.alloc o1).alloc o2).alloc o3) :=
  (((Below.refl _ _).alloc (Nat.le_refl _) o1).alloc (by simp) o2).alloc (by simp; omega) o3
theorem box_cell {w w1 : World} {cs : Array Value} {E : TypeId} (hb : Below (w.alloc (.cells cs E)).heap.size (w.alloc (.cells cs E)) w1) (k : Nat) {u : Value} (hu : cs[k]? = some u) : w1.cell? ⟨w.heap.size, k, none⟩ = some u := by
  rw [hb.cell (p := ⟨w.heap.size, k, none⟩) (by simp), cell_of_row _ _ k _ E (0, 0) (heap_alloc_new w _)]; exact hu

end Go.Proofs.YtaghiefokmapmaaDoor

/- Words for slices of structs: several cells written one after the other; marks at a number. -/
set_option linter.unusedVariables false
namespace Go.Proofs.YtaghiefokmapmaaDoor
open Go.RowKit

/-- Cells stored one after the other. -/
def setAll (w : World) (g : Nat) : Nat → List Value → World
  | _, [] => w
  | j, u :: r => setAll (w.setCell ⟨g, j, none⟩ u) g (j + 1) r
theorem Filled.stores_of {wr : World} {g N : Nat} {E : TypeId} : ∀ {done : List Value} (us : List Value) {j : Nat}, Filled wr g N E done → done.length = j → j + us.length ≤ N → Filled (setAll wr g j us) g N E (done ++ us) := by
  intro done us
  induction us generalizing wr done with
  | nil => intro j h _ _; rw [List.append_nil]; exact h
  | cons u r ih =>
    intro j h hd hl
    simp only [List.length_cons] at hl
    have h1 := h.store u (by omega)
    rw [hd] at h1
    have h2 := ih h1 (j := j + 1) (by simp; omega) (by omega)
    have e : done ++ u :: r = done ++ [u] ++ r := by simp
    rw [e]; exact h2
theorem Filled.stores {wr : World} {g N : Nat} {E : TypeId} {done : List Value} (h : Filled wr g N E done) (us : List Value) (hl : done.length + us.length ≤ N) : Filled (setAll wr g done.length us) g N E (done ++ us) :=
  Filled.stores_of us h rfl hl
theorem Own.sl' {α : Type} {enc : α → List Value} {w : World} {base size : Nat} {E : TypeId} {A : Option Addr} {n c : Nat} {l : List α} (h : Own w base E size enc (.slice A n c) l) : Sl w enc size A l := by
  obtain ⟨A', c', e, _, hs, _⟩ := h.sl
  injection e with e1 _ _
  rw [e1]; exact hs
theorem Own.up {α : Type} {enc : α → List Value} {w : World} {base size : Nat} {E : TypeId} {v : Value} {l : List α} (h : Own w base E size enc v l) : ∀ g, v.ownBlock = some g → g < w.heap.size := fun g hg => (h.blk g hg).2
theorem apart_of {u v : Value} {m n : Nat} (hu : ∀ g, u.ownBlock = some g → g < m) (hv : ∀ g, v.ownBlock = some g → n ≤ g) (h : m ≤ n) : ∀ g, u.ownBlock = some g → v.ownBlock ≠ some g := fun g h1 h2 => by
  have a := hu g h1; have b := hv g h2; exact absurd a (by omega)
theorem apart_of' {u v : Value} {m n : Nat} (hu : ∀ g, u.ownBlock = some g → n ≤ g) (hv : ∀ g, v.ownBlock = some g → g < m) (h : m ≤ n) : ∀ g, u.ownBlock = some g → v.ownBlock ≠ some g := fun g h1 h2 => by
  have a := hu g h1; have b := hv g h2; exact absurd b (by omega)
theorem Own.lo {α : Type} {enc : α → List Value} {w : World} {base size : Nat} {E : TypeId} {v : Value} {l : List α} (h : Own w base E size enc v l) : ∀ g, v.ownBlock = some g → base ≤ g := fun g hg => (h.blk g hg).1
end Go.Proofs.YtaghiefokmapmaaDoor

/- Quotas: rows, plain. -/
set_option linter.unusedVariables false
namespace Go.Proofs.YtaghiefokmapmaaDoor
open Go.RowKit
theorem Sl.getQ {w : World} {A : Option Addr} {l : List Qt} {k : Nat} (h : Sl w encQ 2 A l) (hk : k < l.length) :
    ∃ b o, A = some ⟨b, o, none⟩ ∧ w.cell? ⟨b, o + k * 2, none⟩ = some (.string l[k].1) ∧ w.cell? ⟨b, o + k * 2 + 1, none⟩ = some (.int .i64 l[k].2) := by
  obtain ⟨b, o, e, hc⟩ := h.get (fun _ => rfl) hk
  exact ⟨b, o, e, by simpa using hc 0 _ (by omega) rfl, by simpa [Nat.add_assoc] using hc 1 _ (by omega) rfl⟩
def FitQ (l : List Qt) : Prop := ∀ p ∈ l, p.1.size ≤ 1048576
theorem quoV_no {l : List Qt} {k : Nat} (hk : k < l.length) (h : quoAt l k = false) : quoV l = false := by
  unfold quoV
  rw [Bool.and_eq_false_iff]; right
  rw [List.all_eq_false]
  exact ⟨k, List.mem_range.2 hk, by rw [h]; simp⟩
theorem quoV_long {l : List Qt} (h : ¬ l.length ≤ 6) : quoV l = false := by
  unfold quoV; rw [decide_eq_false h]; rfl
theorem quoV_all {l : List Qt} (h : ∀ k, k < l.length → quoAt l k = true) : quoV l = decide (l.length ≤ 6) := by
  unfold quoV
  rw [show (List.range l.length).all (quoAt l) = true from List.all_eq_true.2 fun k hk => h k (List.mem_range.1 hk), Bool.and_true]
theorem quoAt_path {l : List Qt} {k : Nat} (hk : k < l.length) (h : (pathP (bs l[k].1)).isSome = false) : quoAt l k = false := by
  unfold quoAt; rw [List.getElem?_eq_getElem hk]; simp only [tx]; rw [h]; rfl
theorem quoAt_most {l : List Qt} {k : Nat} (hk : k < l.length) (h : inI l[k].2 0 1000 = false) : quoAt l k = false := by
  unfold quoAt; rw [List.getElem?_eq_getElem hk]; simp only; rw [h]; simp
theorem quoAt_twice {l : List Qt} {k j : Nat} (hk : k < l.length) (hj : j < k) (h : bs l[j].1 = bs l[k].1) : quoAt l k = false := by
  unfold quoAt; rw [List.getElem?_eq_getElem hk]; simp only
  rw [show ((l.take k).any fun o => tx o.1 == tx l[k].1) = true from List.any_eq_true.2 ⟨l[j], List.mem_take_iff_getElem.2 ⟨j, by omega, rfl⟩, by simpa [tx] using h⟩]
  simp
theorem quoAt_yes {l : List Qt} {k : Nat} (hk : k < l.length) (h1 : (pathP (bs l[k].1)).isSome = true) (h2 : inI l[k].2 0 1000 = true) (h3 : ∀ j (hj : j < l.length), j < k → bs l[j].1 ≠ bs l[k].1) : quoAt l k = true := by
  unfold quoAt; rw [List.getElem?_eq_getElem hk]; simp only [tx]
  rw [h1, h2]
  have e : ((l.take k).any fun o => bs o.1 == bs l[k].1) = false := by
    rw [List.any_eq_false]
    intro o ho
    obtain ⟨j, hj, rfl⟩ := List.mem_take_iff_getElem.1 ho
    have := h3 j (by omega) (by omega)
    simpa using this
  exact (congrArg (fun b => (true && true) && !b) e)
end Go.Proofs.YtaghiefokmapmaaDoor

/- Sizes below paths, files with a word, quotas that are passed: plain lemmas for the walks of the code. -/
set_option linter.unusedVariables false
namespace Go.Proofs.YtaghiefokmapmaaDoor
open Go.RowKit
theorem fileOf_len {s : List Pc} {p : Int} {t : Bs} (h : fileOf s p = some t) : t.length ≤ 40 := by
  unfold fileOf at h
  obtain ⟨u, _, h2⟩ := Option.bind_eq_some_iff.1 h
  have := (readFi_iff.1 h2).2
  unfold contV at this
  rw [Bool.and_eq_true, decide_eq_true_eq] at this; exact this.2
theorem readAt_len (s : List Pc) (root : Int) (p : Bs) : ((readAt s root p).getD []).length ≤ 40 := by
  cases h : readAt s root p with
  | none => simp
  | some t =>
    unfold readAt at h
    obtain ⟨q, _, h2⟩ := Option.bind_eq_some_iff.1 h
    exact fileOf_len h2
def filesB (s : List Pc) (root : Int) : List ByteArray := (allF s root).map mk
theorem filesB_len (s : List Pc) (root : Int) : (filesB s root).length ≤ 27 := by unfold filesB; rw [List.length_map]; exact allF_len s root
theorem filesB_size (s : List Pc) (root : Int) : ∀ x ∈ filesB s root, x.size ≤ 27 := by
  intro x hx
  unfold filesB at hx
  obtain ⟨y, hy, rfl⟩ := List.mem_map.1 hx
  rw [mk_size]; exact allF_size s root y hy
theorem filesB_bs (s : List Pc) (root : Int) : (filesB s root).map bs = allF s root := by
  unfold filesB
  rw [List.map_map]
  exact (List.map_congr_left fun x _ => rfl).trans (List.map_id _)
/-- What the first k files below a path have. -/
def useUpto (s : List Pc) (root : Int) (path : Bs) (l : List ByteArray) (k : Nat) : Int := sizeOf' s root (((l.take k).map bs).filter fun f => belowP f path)
theorem useUpto_zero (s : List Pc) (root : Int) (path : Bs) (l : List ByteArray) : useUpto s root path l 0 = 0 := rfl
theorem useUpto_yes {s : List Pc} {root : Int} {path : Bs} {l : List ByteArray} {k : Nat} (hk : k < l.length) (h : belowP (bs l[k]) path = true) :
    useUpto s root path l (k + 1) = useUpto s root path l k + ((mk ((readAt s root (bs l[k])).getD [])).size : Int) := by
  unfold useUpto sizeOf'
  rw [List.take_succ_eq_append_getElem hk, List.map_append, List.filter_append, List.foldl_append, List.map_cons, List.map_nil, List.filter_cons, h, if_pos rfl, List.filter_nil, List.foldl_cons, List.foldl_nil, mk_size]
  rfl
theorem useUpto_no {s : List Pc} {root : Int} {path : Bs} {l : List ByteArray} {k : Nat} (hk : k < l.length) (h : belowP (bs l[k]) path = false) :
    useUpto s root path l (k + 1) = useUpto s root path l k := by
  unfold useUpto sizeOf'
  rw [List.take_succ_eq_append_getElem hk, List.map_append, List.filter_append, List.map_cons, List.map_nil, List.filter_cons, h]
  simp
theorem useUpto_bd (s : List Pc) (root : Int) (path : Bs) (l : List ByteArray) : ∀ k, k ≤ l.length → 0 ≤ useUpto s root path l k ∧ useUpto s root path l k ≤ 40 * k
  | 0, _ => by rw [useUpto_zero]; omega
  | k + 1, hk => by
    have ih := useUpto_bd s root path l k (by omega)
    cases h : belowP (bs l[k]) path
    · rw [useUpto_no (by omega) h]; omega
    · rw [useUpto_yes (by omega) h, mk_size]
      have := readAt_len s root (bs l[k])
      omega
theorem useUpto_all {s : List Pc} {root : Int} {path : Bs} {k : Nat} (hp : (pathP path).isSome = true) (hv : storeV s = true) (hk : (filesB s root).length ≤ k) : useUpto s root path (filesB s root) k = usedP s root path := by
  unfold useUpto usedP
  rw [List.take_of_length_le hk, filesB_bs, hp, hv]; rfl
theorem usedP_path {s : List Pc} {root : Int} {path : Bs} (h : (pathP path).isSome = false) : usedP s root path = -1 := by unfold usedP; rw [h]; rfl
theorem usedP_store {s : List Pc} {root : Int} {path : Bs} (h : storeV s = false) : usedP s root path = -1 := by unfold usedP; rw [h]; simp
/-! ### files with a word -/
def hasW (s : List Pc) (root : Int) (word : Bs) (f : Bs) : Bool := (wordsOf ((readAt s root f).getD [])).contains word
def withP (s : List Pc) (root : Int) (word : Bs) : List Bs := (allF s root).filter (hasW s root word)
def withB (s : List Pc) (root : Int) (word : Bs) : List ByteArray := (filesB s root).filter fun f => hasW s root word (bs f)
theorem withB_eq (s : List Pc) (root : Int) (word : Bs) : withB s root word = (withP s root word).map mk := by
  unfold withB withP filesB
  rw [List.filter_map]; rfl
theorem withB_len (s : List Pc) (root : Int) (word : Bs) : (withB s root word).length ≤ 27 := Nat.le_trans (List.length_filter_le _ _) (filesB_len s root)
theorem filterB_upto {p : ByteArray → Bool} {l : List ByteArray} {k : Nat} (h : k < l.length) : (l.take (k + 1)).filter p = (l.take k).filter p ++ if p l[k] then [l[k]] else [] := by
  rw [List.take_succ_eq_append_getElem h, List.filter_append]
  cases hp : p l[k] <;> simp [hp]
/-! ### quotas that are passed -/
def overQ (s : List Pc) (root : Int) (q : Qt) : Bool := decide (usedP s root (bs q.1) > q.2)
def overB (s : List Pc) (root : Int) (l : List Qt) : List ByteArray := (l.filter (overQ s root)).map (·.1)
def overR (s : List Pc) (root : Int) (l : List Qt) : List ByteArray := if quoV l && storeV s then overB s root l else []
theorem overB_next {s : List Pc} {root : Int} {l : List Qt} {k : Nat} (h : k < l.length) : overB s root (l.take (k + 1)) = overB s root (l.take k) ++ if overQ s root l[k] then [l[k].1] else [] := by
  unfold overB
  rw [List.take_succ_eq_append_getElem h, List.filter_append, List.map_append]
  cases hp : overQ s root l[k] <;> simp [hp]
theorem overB_len (s : List Pc) (root : Int) (l : List Qt) : (overB s root l).length ≤ l.length := by
  unfold overB; rw [List.length_map]; exact List.length_filter_le _ _
theorem overR_len (s : List Pc) (root : Int) (l : List Qt) : (overR s root l).length ≤ l.length := by
  unfold overR; split
  · exact overB_len s root l
  · simp
theorem overR_yes {s : List Pc} {root : Int} {l : List Qt} (h1 : quoV l = true) (h2 : storeV s = true) : overR s root l = overB s root l := by unfold overR; rw [h1, h2]; rfl
theorem overR_no {s : List Pc} {root : Int} {l : List Qt} (h1 : quoV l = false ∨ storeV s = false) : overR s root l = [] := by
  unfold overR
  rcases h1 with h | h
  · rw [h]; rfl
  · rw [h]; simp
theorem quoV_len {l : List Qt} (h : quoV l = true) : l.length ≤ 6 := by
  unfold quoV at h; rw [Bool.and_eq_true, decide_eq_true_eq] at h; exact h.1
theorem quoV_path {l : List Qt} (h : quoV l = true) {q : Qt} (hq : q ∈ l) : (pathP (bs q.1)).isSome = true ∧ 0 ≤ q.2 ∧ q.2 ≤ 1000 := by
  unfold quoV at h
  rw [Bool.and_eq_true, List.all_eq_true] at h
  obtain ⟨k, hk, rfl⟩ := List.getElem_of_mem hq
  have h2 := h.2 k (List.mem_range.2 hk)
  unfold quoAt at h2
  rw [List.getElem?_eq_getElem hk] at h2
  simp only [Bool.and_eq_true] at h2
  refine ⟨h2.1.1, ?_⟩
  have := h2.1.2
  unfold inI at this
  rwa [decide_eq_true_eq] at this
theorem usedP_bd {s : List Pc} {root : Int} {path : Bs} : -1 ≤ usedP s root path ∧ usedP s root path ≤ 1080 := by
  cases hp : (pathP path).isSome
  · rw [usedP_path hp]; omega
  · cases hv : storeV s
    · rw [usedP_store hv]; omega
    · have := useUpto_bd s root path (filesB s root) _ (Nat.le_refl _)
      rw [useUpto_all hp hv (Nat.le_refl _)] at this
      have h2 := filesB_len s root
      omega
/-! ### one path below another -/
theorem belowP_no {a b : Bs} (h : pathP a = none ∨ pathP b = none) : belowP a b = false := by
  unfold belowP
  rcases h with h | h
  · rw [h]
  · rw [h]; cases pathP a <;> rfl
theorem belowP_yes {a b : Bs} {x y : List Bs} (h : pathP a = some x) (h2 : pathP b = some y) : belowP a b = y.isPrefixOf x := by
  unfold belowP; rw [h, h2]
theorem prefix_len {x y : List Bs} (h : ¬ y.length ≤ x.length) : y.isPrefixOf x = false := by
  cases hp : y.isPrefixOf x
  · rfl
  · exact absurd (List.isPrefixOf_iff_prefix.1 hp).length_le h
theorem prefix_take {x y : List Bs} (h : y.length ≤ x.length) : y.isPrefixOf x = decide (x.take y.length = y) := by
  rw [Bool.eq_iff_iff, List.isPrefixOf_iff_prefix, decide_eq_true_eq, List.prefix_iff_eq_take]
  exact eq_comm
theorem prefix_no {x y : List Bs} {k : Nat} (hk : k < y.length) (hx : k < x.length) (h : x[k] ≠ y[k]) : y.isPrefixOf x = false := by
  cases hp : y.isPrefixOf x
  · rfl
  · obtain ⟨t, rfl⟩ := List.isPrefixOf_iff_prefix.1 hp
    exact absurd (List.getElem_append_left hk) h
theorem prefix_yes {x y : List Bs} (hl : y.length ≤ x.length) (h : ∀ k (h1 : k < y.length) (h2 : k < x.length), x[k] = y[k]) : y.isPrefixOf x = true := by
  rw [List.isPrefixOf_iff_prefix, List.prefix_iff_eq_take]
  apply List.ext_getElem
  · rw [List.length_take]; omega
  · intro k h1 h2
    rw [List.getElem_take]; exact (h k h1 (by rw [List.length_take] at h2; omega)).symm
theorem bs_at {x : List Bs} {k : Nat} (h : k < (x.map mk).length) : bs (x.map mk)[k] = x[k]'(by rw [List.length_map] at h; exact h) := by
  rw [List.getElem_map]; rfl
theorem below_ne {a b : Bs} {x y : List Bs} (h : pathP a = some x) (h2 : pathP b = some y) (k : Nat) (hk : k < (y.map mk).length) (hk2 : k < (x.map mk).length) (h3 : bs (x.map mk)[k] ≠ bs (y.map mk)[k]) : belowP a b = false := by
  rw [belowP_yes h h2]
  rw [bs_at, bs_at] at h3
  exact prefix_no _ _ h3
theorem below_all {a b : Bs} {x y : List Bs} (h : pathP a = some x) (h2 : pathP b = some y) (hl : (y.map mk).length ≤ (x.map mk).length) (h3 : ∀ k (hk : k < (y.map mk).length) (hk2 : k < (x.map mk).length), bs (x.map mk)[k] = bs (y.map mk)[k]) : belowP a b = true := by
  rw [belowP_yes h h2]
  rw [List.length_map, List.length_map] at hl
  refine prefix_yes hl fun k h1 h4 => ?_
  have := h3 k (by rw [List.length_map]; exact h1) (by rw [List.length_map]; exact h4)
  rwa [bs_at, bs_at] at this
theorem below_long {a b : Bs} {x y : List Bs} (h : pathP a = some x) (h2 : pathP b = some y) (hl : ¬ (y.map mk).length ≤ (x.map mk).length) : belowP a b = false := by
  rw [belowP_yes h h2]
  rw [List.length_map, List.length_map] at hl
  exact prefix_len hl
theorem below_eq {a b : Bs} {x y : List Bs} (h : pathP a = some x) (h2 : pathP b = some y) (hl : (y.map mk).length ≤ (x.map mk).length) : belowP a b = decide (((x.map mk).take (y.map mk).length).map bs = (y.map mk).map bs) := by
  rw [belowP_yes h h2]
  rw [List.length_map, List.length_map] at hl
  rw [prefix_take hl, List.map_take, List.map_map, List.map_map, List.length_map]
  rw [show x.map (bs ∘ mk) = x from (List.map_congr_left fun z _ => rfl).trans (List.map_id _), show y.map (bs ∘ mk) = y from (List.map_congr_left fun z _ => rfl).trans (List.map_id _)]
def eqL (l m : List ByteArray) : Bool := decide (l.map bs = m.map bs)
theorem eqL_len {l m : List ByteArray} (h : l.length ≠ m.length) : eqL l m = false := by
  unfold eqL; exact decide_eq_false fun e => h (by have := congrArg List.length e; simpa using this)
theorem eqL_ne {l m : List ByteArray} (k : Nat) (h1 : k < l.length) (h2 : k < m.length) (h : bs l[k] ≠ bs m[k]) : eqL l m = false := by
  unfold eqL
  refine decide_eq_false fun e => h ?_
  have : (l.map bs)[k]? = (m.map bs)[k]? := by rw [e]
  rw [List.getElem?_map, List.getElem?_map, List.getElem?_eq_getElem h1, List.getElem?_eq_getElem h2] at this
  injection this
theorem eqL_all {l m : List ByteArray} (h : l.length = m.length) (h2 : ∀ k (h1 : k < l.length) (h2 : k < m.length), bs l[k] = bs m[k]) : eqL l m = true := by
  unfold eqL
  refine decide_eq_true (List.ext_getElem (by simpa using h) fun k h3 h4 => ?_)
  rw [List.getElem_map, List.getElem_map]
  exact h2 k (by simpa using h3) (by simpa using h4)
end Go.Proofs.YtaghiefokmapmaaDoor

/- Dropping and writing: how the program goes, and how the reference goes, in plain Lean. No program in sight. -/
set_option linter.unusedVariables false
namespace Go.Proofs.YtaghiefokmapmaaDoor
/-! ### what a way of folders holds -/
/-- Every name is in its folder, and folders are valid. -/
def OnWay : List (List En) → List Bs → Prop
  | [], [] => True
  | l :: fs, n :: ns => entsV l = true ∧ hereE l n = true ∧ OnWay fs ns
  | _, _ => False
theorem onWay_folds {s : List Pc} : ∀ (ps : List Bs) (p : Int), (walkP s p ps).isSome = true → OnWay (foldsD s p ps) ps
  | [], p, _ => trivial
  | n :: r, p, h => by
    rw [walkP] at h
    cases hf : folderOf s p with
    | none => rw [hf] at h; cases h
    | some l =>
      rw [hf, Option.bind_some] at h
      cases hg : getE l n with
      | none => rw [hg] at h; cases h
      | some q =>
        rw [hg, Option.bind_some] at h
        have hv := folder_valid hf
        rw [foldsD, hf, Option.getD_some]
        refine ⟨hv, ?_, ?_⟩
        · rw [hereE_get (entsV_sorted hv), hg]; rfl
        · rw [hg, Option.getD_some]; exact onWay_folds r q h
theorem hereE_word {l : List En} {n : Bs} (hv : entsV l = true) (h : hereE l n = true) : wordV n = true := by
  rw [hereE_get (entsV_sorted hv)] at h
  obtain ⟨p, hp⟩ := Option.isSome_iff_exists.1 h
  exact (entOk_iff.1 (entsV_ok hv (getE_some hp))).1
theorem foldT_textV (l : List En) : textV (foldT l) = true := by
  unfold foldT; split
  · rename_i h; exact foldB_text h
  · decide
theorem foldT_pv (l : List En) : pv (prOf (foldT l)) = true := prOf_pv (foldT_textV l)
theorem pv_nonneg {p : Int} (h : pv p = true) : 0 ≤ p := by
  unfold pv inI at h; rw [decide_eq_true_eq] at h; exact h.1
theorem putE_way {l : List En} {n : Bs} {q : Int} (hv : entsV l = true) (h : hereE l n = true) (hq : pv q = true) : (putE l (mk n, q)).2 = true ∧ (putE l (mk n, q)).1 ≠ [] ∧ entsV (putE l (mk n, q)).1 = true := by
  have e := putE_here (e := (mk n, q)) hv (entOk_iff.2 ⟨hereE_word hv h, hq⟩) h
  have h2 : (putE l (mk n, q)).2 = true := by rw [e]
  refine ⟨h2, ?_, (putE_ok h2).2.1⟩
  rw [e]
  show insE l (mk n, q) ≠ []
  unfold insE; simp
/-! ### dropping, as the program goes -/
/-- Where the first folder from below that is not empty stands, and what is left in it. -/
def lastD : List (List En) → List Bs → Nat × List En
  | l :: fs, n :: ns => if ns = [] then (0, (dropE l n).1) else if (lastD fs ns).2 = [] then (0, (dropE l n).1) else ((lastD fs ns).1 + 1, (lastD fs ns).2)
  | _, _ => (0, [])
theorem lastD_zero : ∀ (fs : List (List En)) (ns : List Bs), (lastD fs ns).2 = [] → (lastD fs ns).1 = 0
  | [], _, _ => by unfold lastD; rfl
  | _ :: _, [], _ => by unfold lastD; rfl
  | l :: fs, n :: ns, h => by
    rw [lastD] at h ⊢
    split
    · rfl
    · split
      · rfl
      · rename_i h1 h2
        rw [if_neg h1, if_neg h2] at h
        exact absurd h h2
theorem lastD_lt : ∀ (fs : List (List En)) (ns : List Bs), OnWay fs ns → ns ≠ [] → (lastD fs ns).1 < ns.length
  | [], [], _, h => absurd rfl h
  | [], _ :: _, h, _ => h.elim
  | _ :: _, [], h, _ => h.elim
  | l :: fs, n :: ns, h, _ => by
    rw [lastD]
    split
    · simp
    · rename_i h1
      split
      · simp
      · have := lastD_lt fs ns h.2.2 h1
        simp; omega
/-- What the program puts. -/
theorem dT_up : ∀ (fs : List (List En)) (ns : List Bs), OnWay fs ns → ns ≠ [] →
    ((lastD fs ns).2 = [] → dT fs ns = ([], none)) ∧
    ((lastD fs ns).2 ≠ [] → ∃ x, upT (fs.take (lastD fs ns).1) (ns.take (lastD fs ns).1) (prOf (foldT (lastD fs ns).2)) = some x ∧ pv x.2 = true ∧ dT fs ns = (mk (foldT (lastD fs ns).2) :: x.1, some x.2))
  | [], [], _, h => absurd rfl h
  | [], _ :: _, h, _ => h.elim
  | _ :: _, [], h, _ => h.elim
  | l :: fs, n :: ns, h, _ => by
    by_cases h1 : ns = []
    · subst h1
      have e : lastD (l :: fs) [n] = (0, (dropE l n).1) := by rw [lastD, if_pos rfl]
      have ed : dT fs [] = ([], none) := by cases fs <;> rfl
      have ex : ∀ (p : Int), upT ((l :: fs).take 0) (([n] : List Bs).take 0) p = some ([], p) := fun p => rfl
      rw [e]
      refine ⟨fun h2 => ?_, fun h2 => ⟨([], prOf (foldT (dropE l n).1)), ex _, foldT_pv _, ?_⟩⟩
      · rw [dT, ed]
        rw [if_pos (show restD l n none = [] from h2)]
      · rw [dT, ed]
        rw [if_neg (show ¬ restD l n none = [] from h2)]; rfl
    · obtain ⟨i1, i2⟩ := dT_up fs ns h.2.2 h1
      by_cases h2 : (lastD fs ns).2 = []
      · have e : lastD (l :: fs) (n :: ns) = (0, (dropE l n).1) := by rw [lastD, if_neg h1, if_pos h2]
        have ex : ∀ (p : Int), upT ((l :: fs).take 0) ((n :: ns : List Bs).take 0) p = some ([], p) := fun p => rfl
        have ed := i1 h2
        rw [e]
        refine ⟨fun h2 => ?_, fun h2 => ⟨([], prOf (foldT (dropE l n).1)), ex _, foldT_pv _, ?_⟩⟩
        · rw [dT, ed, if_pos (show restD l n none = [] from h2)]
        · rw [dT, ed, if_neg (show ¬ restD l n none = [] from h2)]; rfl
      · have e : lastD (l :: fs) (n :: ns) = ((lastD fs ns).1 + 1, (lastD fs ns).2) := by rw [lastD, if_neg h1, if_neg h2]
        obtain ⟨x, hx, hpx, hd⟩ := i2 h2
        rw [e]
        refine ⟨fun h3 => absurd h3 h2, fun _ => ?_⟩
        obtain ⟨g1, g2, g3⟩ := putE_way h.1 h.2.1 hpx
        refine ⟨(x.1 ++ [mk (foldT (putE l (mk n, x.2)).1)], prOf (foldT (putE l (mk n, x.2)).1)), ?_, foldT_pv _, ?_⟩
        · show upT (l :: fs.take _) (n :: ns.take _) _ = _
          rw [upT, hx, Option.bind_some, if_pos g1]
        · rw [dT, hd]
          rw [if_neg (show ¬ restD l n (some x.2) = [] from g2)]; rfl
/-- Dropping, as the program goes: what is left of the lowest folder first, then the folders above. -/
def dropI (s : List Pc) (fs : List (List En)) (ns : List Bs) : Option (List Pc × Int) :=
  (upT (fs.take (lastD fs ns).1) (ns.take (lastD fs ns).1) (prOf (foldT (lastD fs ns).2))).bind fun x => (putAll s (mk (foldT (lastD fs ns).2) :: x.1)).map fun s' => (s', x.2)
theorem dropP_I {s : List Pc} {root : Int} {ps : List Bs} (hps : ps ≠ []) (hw : (walkP s root ps).isSome = true) : dropP s root ps = dropI s (foldsD s root ps) ps := by
  have ho := onWay_folds ps root hw
  obtain ⟨h1, h2⟩ := dT_up _ _ ho hps
  unfold dropP dropI
  rw [if_pos hw]
  by_cases h : (lastD (foldsD s root ps) ps).2 = []
  · rw [h1 h, h, lastD_zero _ _ h]
    rfl
  · obtain ⟨x, hx, _, hd⟩ := h2 h
    rw [hx, hd]
    rfl
/-! ### dropping, as the reference goes -/
theorem dropS_nil (s : List Pc) : dropS s [] [] = some (s, -1) := rfl
theorem dT_pv : ∀ (fs : List (List En)) (ns : List Bs) (p : Int), (dT fs ns).2 = some p → pv p = true
  | [], _, p, h => by unfold dT at h; cases h
  | _ :: _, [], p, h => by unfold dT at h; cases h
  | l :: fs, n :: ns, p, h => by
    rw [dT] at h
    split at h
    · cases h
    · injection h with h; subst h; exact foldT_pv _
theorem dropS_cons (s : List Pc) (l : List En) (fs : List (List En)) (n : Bs) (ns : List Bs) : dropS s (l :: fs) (n :: ns) = (dropS s fs ns).bind (dropUp l n) := by
  unfold dropS
  have hp := dT_pv fs ns
  have e : (if (dT fs ns).2.getD (-1) < 0 then none else some ((dT fs ns).2.getD (-1))) = (dT fs ns).2 := by
    cases h : (dT fs ns).2 with
    | none => rfl
    | some p =>
      have := pv_nonneg (hp p h)
      rw [Option.getD_some, if_neg (by omega)]
  rw [dT]
  cases hput : putAll s (dT fs ns).1 with
  | none =>
    split
    · rw [hput]; rfl
    · show (putAll s ((dT fs ns).1 ++ _)).map _ = _
      rw [putAll_append, hput]; rfl
  | some s1 =>
    simp only [Option.map_some, Option.bind_some]
    unfold dropUp
    simp only [e]
    split
    · rw [hput]; rfl
    · show (putAll s ((dT fs ns).1 ++ _)).map _ = _
      rw [putAll_append, hput, Option.bind_some, putAll_one]
      split <;> rfl
theorem dropP_S {s : List Pc} {root : Int} {ps : List Bs} (hw : (walkP s root ps).isSome = true) :
    dropP s root ps = (dropS s (foldsD s root ps) ps).bind fun x => if x.2 < 0 then (if (putT x.1 (mk (foldT []))).2.2 then some ((putT x.1 (mk (foldT []))).1, prOf (foldT [])) else none) else some x := by
  unfold dropP dropS
  rw [if_pos hw]
  have hp := dT_pv (foldsD s root ps) ps
  cases h : (dT (foldsD s root ps) ps).2 with
  | none =>
    unfold dropTs
    rw [h]
    simp only
    rw [putAll_append]
    cases putAll s (dT (foldsD s root ps) ps).1 with
    | none => rfl
    | some s1 =>
      simp only [Option.bind_some, Option.map_some, Option.getD_none]
      rw [if_pos (by omega), putAll_one]
      split <;> rfl
  | some p =>
    have := pv_nonneg (hp p h)
    unfold dropTs
    rw [h]
    simp only
    cases putAll s (dT (foldsD s root ps) ps).1 with
    | none => rfl
    | some s1 =>
      simp only [Option.bind_some, Option.map_some, Option.getD_some]
      rw [if_neg (by omega)]
/-! ### the folders to write, as the program goes -/
def foldsL (s : List Pc) : Option Int → List Bs → Option (List (List En))
  | a, [] => if leafOk s a then some [] else none
  | a, n :: r => (listAt s a).bind fun l => (foldsL s (getE l n) r).map fun fs => l :: fs
theorem foldsW_L (s : List Pc) : ∀ (r : List Bs) (a : Option Int) (n : Bs), foldsW s a (n :: r) = foldsL s a (n :: r)
  | [], a, n => by
    rw [foldsW, foldsL]
    cases listAt s a with
    | none => rfl
    | some l =>
      simp only [Option.bind_some, foldsL, foldsW]
      cases leafOk s (getE l n) <;> rfl
  | m :: r, a, n => by
    rw [foldsW, foldsL]
    cases listAt s a with
    | none => rfl
    | some l =>
      simp only [Option.bind_some]
      rw [foldsW_L s r (getE l n) m]
      rfl
end Go.Proofs.YtaghiefokmapmaaDoor

/- What a write or a drop leaves: stores that only grow, folders that name what is there. Plain Lean, no program in sight. -/
set_option linter.unusedVariables false
namespace Go.Proofs.YtaghiefokmapmaaDoor
theorem restD_valid (l : List En) (n : Bs) (o : Option Int) : entsV (restD l n o) = true := by
  cases hv : entsV l
  · cases o with
    | none => show entsV (dropE l n).1 = true; rw [dropE_bad hv]; rfl
    | some q => show entsV (putE l (mk n, q)).1 = true; rw [putE_bad hv]; rfl
  · cases o with
    | none => exact dropE_valid hv n
    | some q =>
      show entsV (putE l (mk n, q)).1 = true
      unfold putE
      rw [hv, if_pos rfl]
      split
      · rename_i h; exact h
      · exact hv
theorem restD_mem {l : List En} {n : Bs} {o : Option Int} {e : En} (h : e ∈ restD l n o) : e ∈ l ∨ (e.1 = mk n ∧ o = some e.2) := by
  cases hv : entsV l
  · cases o with
    | none =>
      have h2 : e ∈ (dropE l n).1 := h
      rw [dropE_bad hv] at h2; cases h2
    | some q =>
      have h2 : e ∈ (putE l (mk n, q)).1 := h
      rw [putE_bad hv] at h2; cases h2
  · cases o with
    | none =>
      have h2 : e ∈ (dropE l n).1 := h
      rw [dropE_filter hv] at h2
      exact .inl (List.mem_filter.1 h2).1
    | some q =>
      have h2 : e ∈ (putE l (mk n, q)).1 := h
      unfold putE at h2
      rw [hv, if_pos rfl] at h2
      split at h2
      · rcases (mem_insE (entsV_sorted hv) (mk n, q) e).1 h2 with rfl | ⟨h3, _⟩
        · exact .inr ⟨rfl, rfl⟩
        · exact .inl h3
      · exact .inl h2
theorem folder_put {s s' : List Pc} {ts : List ByteArray} {l : List En} (hs : storeV s = true) (h : putAll s ts = some s') (ht : mk (foldT l) ∈ ts) (hl : entsV l = true) : folderOf s' (prOf (foldT l)) = some l := by
  have h1 : getT s' (prOf (foldT l)) = some (mk (foldT l)) := getT_put hs h ht
  unfold folderOf
  rw [h1, Option.bind_some]
  exact readF_foldT hl
theorem file_put {s s' : List Pc} {ts : List ByteArray} {c : Bs} (hs : storeV s = true) (h : putAll s ts = some s') (ht : mk (fileT c) ∈ ts) (hc : contV c = true) : fileOf s' (prOf (fileT c)) = some c := by
  have h1 : getT s' (prOf (fileT c)) = some (mk (fileT c)) := getT_put hs h ht
  unfold fileOf
  rw [h1, Option.bind_some]
  exact readFi_fileT hc
/-! ### the parts of a write -/
theorem upT_top {l : List En} {fs : List (List En)} {n : Bs} {ns : List Bs} {leaf : Int} {x : List ByteArray × Int} (h : upT (l :: fs) (n :: ns) leaf = some x) :
    ∃ y, upT fs ns leaf = some y ∧ (putE l (mk n, y.2)).2 = true ∧ x = (y.1 ++ [mk (foldT (putE l (mk n, y.2)).1)], prOf (foldT (putE l (mk n, y.2)).1)) := by
  rw [upT] at h
  obtain ⟨y, hy, h⟩ := Option.bind_eq_some_iff.1 h
  split at h
  · rename_i hp; injection h with h; exact ⟨y, hy, hp, h.symm⟩
  · cases h
theorem foldsW_top {s : List Pc} {a : Option Int} {n : Bs} {r : List Bs} {fs : List (List En)} (h : foldsW s a (n :: r) = some fs) :
    ∃ l fs', listAt s a = some l ∧ foldsW s (getE l n) r = some fs' ∧ fs = l :: fs' ∧ (r = [] → leafOk s (getE l n) = true) := by
  rw [foldsW] at h
  obtain ⟨l, hl, h⟩ := Option.bind_eq_some_iff.1 h
  split at h
  · cases h
  · rename_i hc
    obtain ⟨fs', h1, h2⟩ := Option.map_eq_some_iff.1 h
    refine ⟨l, fs', hl, h1, h2.symm, ?_⟩
    rintro rfl
    simpa using hc
theorem foldsW_mem {s : List Pc} : ∀ (ps : List Bs) (a : Option Int) (fs : List (List En)), foldsW s a ps = some fs → ∀ l ∈ fs, l = [] ∨ ∃ p, folderOf s p = some l
  | [], a, fs, h, l, hl => by rw [foldsW] at h; injection h with h; subst h; cases hl
  | n :: r, a, fs, h, l, hl => by
    obtain ⟨l0, fs', h1, h2, rfl, _⟩ := foldsW_top h
    rcases List.mem_cons.1 hl with rfl | hl
    · cases a with
      | none => have h1 : some [] = some l := h1; injection h1 with h1; exact .inl h1.symm
      | some p => exact .inr ⟨p, h1⟩
    · exact foldsW_mem r _ fs' h2 l hl
theorem foldsD_mem {s : List Pc} : ∀ (ps : List Bs) (p : Int), ∀ l ∈ foldsD s p ps, l = [] ∨ ∃ p, folderOf s p = some l
  | [], p, l, hl => by cases hl
  | n :: r, p, l, hl => by
    rw [foldsD] at hl
    rcases List.mem_cons.1 hl with rfl | hl
    · cases h : folderOf s p with
      | none => exact .inl rfl
      | some x => exact .inr ⟨p, h⟩
    · exact foldsD_mem r _ l hl
/-- What a folder put anew holds: what it held, and the name with a print below. -/
def NewIn (fs : List (List En)) (ns : List Bs) (P : Int → Prop) (t : ByteArray) : Prop :=
  ∃ L : List En, entsV L = true ∧ t = mk (foldT L) ∧ ∀ e ∈ L, (∃ l ∈ fs, e ∈ l) ∨ (tx e.1 ∈ ns ∧ P e.2)
theorem NewIn.up {fs : List (List En)} {ns : List Bs} {P Q : Int → Prop} {t : ByteArray} {l : List En} {n : Bs} (h : NewIn fs ns P t) (hP : ∀ p, P p → Q p) : NewIn (l :: fs) (n :: ns) Q t := by
  obtain ⟨L, h1, h2, h3⟩ := h
  refine ⟨L, h1, h2, fun e he => ?_⟩
  rcases h3 e he with ⟨m, hm, h4⟩ | ⟨h4, h5⟩
  · exact .inl ⟨m, by simp [hm], h4⟩
  · exact .inr ⟨by simp [h4], hP _ h5⟩
theorem upT_texts : ∀ (fs : List (List En)) (ns : List Bs) (leaf : Int) (x : List ByteArray × Int), upT fs ns leaf = some x →
    (∀ t ∈ x.1, NewIn fs ns (fun q => q = leaf ∨ ∃ u ∈ x.1, q = prOf (tx u)) t) ∧ (x.2 = leaf ∨ ∃ u ∈ x.1, x.2 = prOf (tx u))
  | [], ns, leaf, x, h => by
    rw [upT] at h; injection h with h; subst h
    · exact ⟨fun t ht => by simp at ht, .inl rfl⟩
    · intro l fs n ns h; cases h
  | l :: fs, [], leaf, x, h => by
    rw [upT] at h; injection h with h; subst h
    · exact ⟨fun t ht => by simp at ht, .inl rfl⟩
    · intro l fs n ns _ h; cases h
  | l :: fs, n :: ns, leaf, x, h => by
    obtain ⟨y, hy, hp, rfl⟩ := upT_top h
    obtain ⟨i1, i2⟩ := upT_texts fs ns leaf y hy
    obtain ⟨g1, g2, g3⟩ := putE_ok hp
    have hup : ∀ q, (q = leaf ∨ ∃ u ∈ y.1, q = prOf (tx u)) → (q = leaf ∨ ∃ u ∈ (y.1 ++ [mk (foldT (putE l (mk n, y.2)).1)]), q = prOf (tx u)) := by
      rintro q (h | ⟨u, hu, h⟩)
      · exact .inl h
      · exact .inr ⟨u, by simp [hu], h⟩
    refine ⟨fun t ht => ?_, .inr ⟨mk (foldT (putE l (mk n, y.2)).1), by simp, rfl⟩⟩
    rcases List.mem_append.1 ht with ht | ht
    · exact (i1 t ht).up hup
    · rw [List.mem_singleton] at ht
      subst ht
      refine ⟨_, g2, rfl, fun e he => ?_⟩
      rw [g3] at he
      rcases (mem_insE (entsV_sorted g1) (mk n, y.2) e).1 he with rfl | ⟨he, _⟩
      · exact .inr ⟨by show n ∈ _; simp, hup _ i2⟩
      · exact .inl ⟨l, by simp, he⟩
theorem dT_texts : ∀ (fs : List (List En)) (ns : List Bs),
    (∀ t ∈ (dT fs ns).1, NewIn fs ns (fun q => ∃ u ∈ (dT fs ns).1, q = prOf (tx u)) t) ∧ (∀ q, (dT fs ns).2 = some q → ∃ u ∈ (dT fs ns).1, q = prOf (tx u))
  | [], ns => by
    have e : dT [] ns = ([], none) := by cases ns <;> rfl
    rw [e]
    exact ⟨fun t ht => by simp at ht, fun q h => by cases h⟩
  | l :: fs, [] => by
    have e : dT (l :: fs) [] = ([], none) := rfl
    rw [e]
    exact ⟨fun t ht => by simp at ht, fun q h => by cases h⟩
  | l :: fs, n :: ns => by
    obtain ⟨i1, i2⟩ := dT_texts fs ns
    rw [dT]
    split
    · exact ⟨fun t ht => (i1 t ht).up fun _ h => h, fun q h => by cases h⟩
    · have hup : ∀ q, (∃ u ∈ (dT fs ns).1, q = prOf (tx u)) → ∃ u ∈ ((dT fs ns).1 ++ [mk (foldT (restD l n (dT fs ns).2))]), q = prOf (tx u) := by
        rintro q ⟨u, hu, h⟩
        exact ⟨u, by simp [hu], h⟩
      refine ⟨fun t ht => ?_, fun q h => ?_⟩
      · rcases List.mem_append.1 ht with ht | ht
        · exact (i1 t ht).up hup
        · rw [List.mem_singleton] at ht
          subst ht
          refine ⟨_, restD_valid _ _ _, rfl, fun e he => ?_⟩
          rcases restD_mem he with he | ⟨h1, h2⟩
          · exact .inl ⟨l, by simp, he⟩
          · exact .inr ⟨by rw [h1, tx_mk]; simp, hup _ (i2 _ h2)⟩
      · injection h with h
        exact ⟨mk (foldT (restD l n (dT fs ns).2)), by simp, h.symm⟩
/-! ### stores that only grow, folders that name what is there -/
def Keep (s s' : List Pc) : Prop := ∀ p t, getT s p = some t → getT s' p = some t
theorem Keep.refl (s : List Pc) : Keep s s := fun _ _ h => h
theorem Keep.trans {a b c : List Pc} (h : Keep a b) (h2 : Keep b c) : Keep a c := fun p t hg => h2 p t (h p t hg)
theorem keep_put {s s' : List Pc} {ts : List ByteArray} (hs : storeV s = true) (h : putAll s ts = some s') : Keep s s' := fun _ _ hg => getT_keep hs h hg
theorem Keep.there {s s' : List Pc} (h : Keep s s') {p : Int} (hp : (getT s p).isSome = true) : (getT s' p).isSome = true := by
  obtain ⟨t, ht⟩ := Option.isSome_iff_exists.1 hp
  rw [h p t ht]; rfl
theorem Keep.gT {s s' : List Pc} (h : Keep s s') {p : Int} (hp : (getT s p).isSome = true) : getT s' p = getT s p := by
  obtain ⟨t, ht⟩ := Option.isSome_iff_exists.1 hp
  rw [h p t ht, ht]
theorem Keep.fo {s s' : List Pc} (h : Keep s s') {p : Int} (hp : (getT s p).isSome = true) : folderOf s' p = folderOf s p := by
  unfold folderOf; rw [h.gT hp]
theorem Keep.fi {s s' : List Pc} (h : Keep s s') {p : Int} (hp : (getT s p).isSome = true) : fileOf s' p = fileOf s p := by
  unfold fileOf; rw [h.gT hp]
theorem folder_there {s : List Pc} {p : Int} {l : List En} (h : folderOf s p = some l) : (getT s p).isSome = true := by
  unfold folderOf at h
  obtain ⟨t, ht, _⟩ := Option.bind_eq_some_iff.1 h
  rw [ht]; rfl
theorem file_there {s : List Pc} {p : Int} (h : (fileOf s p).isSome = true) : (getT s p).isSome = true := by
  unfold fileOf at h
  cases hg : getT s p with
  | none => rw [hg] at h; cases h
  | some t => rfl
theorem Keep.fold {s s' : List Pc} (h : Keep s s') {p : Int} {l : List En} (hf : folderOf s p = some l) : folderOf s' p = some l := by rw [h.fo (folder_there hf), hf]
/-- Each entry of each folder is there, and has a name of a kind. -/
def Good (N : Bs → Prop) (s : List Pc) : Prop := ∀ p l, folderOf s p = some l → ∀ e ∈ l, (getT s e.2).isSome = true ∧ N (tx e.1)
theorem good_nil (N : Bs → Prop) : Good N [] := fun p l h => by cases h
theorem Good.mono {N M : Bs → Prop} {s : List Pc} (h : Good N s) (hm : ∀ n, N n → M n) : Good M s := fun p l hf e he => ⟨(h p l hf e he).1, hm _ (h p l hf e he).2⟩
theorem good_put {N : Bs → Prop} {s s' : List Pc} {ts : List ByteArray} (hs : storeV s = true) (hg : Good N s) (h : putAll s ts = some s')
    (ht : ∀ t ∈ ts, ∀ l, readF (tx t) = some l → ∀ e ∈ l, N (tx e.1) ∧ ((getT s e.2).isSome = true ∨ ∃ u ∈ ts, e.2 = prOf (tx u))) : Good N s' := by
  obtain ⟨h1, h2⟩ := putAll_ok _ _ _ hs h
  have hk := keep_put hs h
  intro p l hf e he
  unfold folderOf at hf
  obtain ⟨t, hp, hr⟩ := Option.bind_eq_some_iff.1 hf
  rcases (h2 _).1 (getT_some hp) with h3 | ⟨u, hu, h3⟩
  · have h4 : folderOf s p = some l := by unfold folderOf; rw [getT_mem (storeV_sorted hs) h3]; exact hr
    exact ⟨hk.there (hg p l h4 e he).1, (hg p l h4 e he).2⟩
  · injection h3 with h5 h6
    subst h6
    obtain ⟨h7, h8⟩ := ht t hu l hr e he
    refine ⟨?_, h7⟩
    rcases h8 with h8 | ⟨v, hv, h8⟩
    · exact hk.there h8
    · rw [h8, getT_put hs h hv]; rfl
theorem newIn_good {N : Bs → Prop} {s : List Pc} {fs : List (List En)} {ns : List Bs} {P : Int → Prop} {ts : List ByteArray} {t : ByteArray} (hg : Good N s) (hfs : ∀ l ∈ fs, l = [] ∨ ∃ p, folderOf s p = some l) (hns : ∀ n ∈ ns, N n)
    (hP : ∀ q, P q → ∃ u ∈ ts, q = prOf (tx u)) (h : NewIn fs ns P t) : ∀ l, readF (tx t) = some l → ∀ e ∈ l, N (tx e.1) ∧ ((getT s e.2).isSome = true ∨ ∃ u ∈ ts, e.2 = prOf (tx u)) := by
  obtain ⟨L, h1, rfl, h3⟩ := h
  intro l hr e he
  rw [tx_mk, readF_foldT h1] at hr
  injection hr with hr
  subst hr
  rcases h3 e he with ⟨m, hm, h4⟩ | ⟨h4, h5⟩
  · rcases hfs m hm with rfl | ⟨p, hp⟩
    · cases h4
    · have := hg p m hp e h4
      exact ⟨this.2, .inl this.1⟩
  · exact ⟨hns _ h4, .inr (hP _ h5)⟩
/-! ### writing -/
theorem writeA_ok {s s' : List Pc} {root r' : Int} {path c : Bs} (h : writeA s root path c = (s', r', true)) : storeV s = true ∧ contV c = true ∧ ∃ n r fs x, pathP path = some (n :: r) ∧ foldsW s (some root) (n :: r) = some fs ∧
    upT fs (n :: r) (prOf (fileT c)) = some x ∧ putAll s (mk (fileT c) :: x.1) = some s' ∧ r' = x.2 := by
  unfold writeA at h
  cases hc : storeV s && contV c
  · rw [hc] at h; simp at h
  · rw [hc, if_pos rfl] at h
    rw [Bool.and_eq_true] at hc
    cases hp : pathP path with
    | none => rw [hp] at h; simp at h
    | some ps =>
      rw [hp] at h
      cases ps with
      | nil => simp at h
      | cons n r =>
        simp only at h
        cases hw : writeP s root (n :: r) c with
        | none => rw [hw] at h; simp at h
        | some x =>
          rw [hw] at h
          simp only [Prod.mk.injEq, and_true] at h
          obtain ⟨rfl, rfl⟩ := h
          unfold writeP at hw
          obtain ⟨fs, h1, hw⟩ := Option.bind_eq_some_iff.1 hw
          obtain ⟨y, h2, hw⟩ := Option.bind_eq_some_iff.1 hw
          obtain ⟨s', h3, hw⟩ := Option.map_eq_some_iff.1 hw
          subst hw
          exact ⟨hc.1, hc.2, n, r, fs, y, rfl, h1, h2, h3, rfl⟩
theorem dropA_ok {s s' : List Pc} {root r' : Int} {path : Bs} (h : dropA s root path = (s', r', true)) : storeV s = true ∧ ∃ n r, pathP path = some (n :: r) ∧
    putAll s (dropTs (dT (foldsD s root (n :: r)) (n :: r))).1 = some s' ∧ r' = (dropTs (dT (foldsD s root (n :: r)) (n :: r))).2 := by
  unfold dropA at h
  cases hc : storeV s
  · rw [hc] at h; simp at h
  · rw [hc, if_pos rfl] at h
    cases hp : pathP path with
    | none => rw [hp] at h; simp at h
    | some ps =>
      rw [hp] at h
      cases ps with
      | nil => simp at h
      | cons n r =>
        simp only at h
        cases hw : dropP s root (n :: r) with
        | none => rw [hw] at h; simp at h
        | some x =>
          rw [hw] at h
          simp only [Prod.mk.injEq, and_true] at h
          obtain ⟨rfl, rfl⟩ := h
          unfold dropP at hw
          split at hw
          · obtain ⟨s', h3, hw⟩ := Option.map_eq_some_iff.1 hw
            subst hw
            exact ⟨rfl, n, r, rfl, h3, rfl⟩
          · cases hw
/-- What a change of a store leaves. -/
structure Chg (s s' : List Pc) (r' : Int) : Prop where
  old : storeV s = true
  valid : storeV s' = true
  keep : Keep s s'
  root : (folderOf s' r').isSome = true
theorem write_chg {s s' : List Pc} {root r' : Int} {path c : Bs} (h : writeA s root path c = (s', r', true)) : Chg s s' r' := by
  obtain ⟨hs, hc, n, r, fs, x, _, hf, hx, hp, rfl⟩ := writeA_ok h
  refine ⟨hs, (putAll_ok _ _ _ hs hp).1, keep_put hs hp, ?_⟩
  obtain ⟨l, fs', _, _, rfl, _⟩ := foldsW_top hf
  obtain ⟨y, _, hpe, rfl⟩ := upT_top hx
  rw [folder_put hs hp (by simp) (putE_ok hpe).2.1]; rfl
theorem drop_chg {s s' : List Pc} {root r' : Int} {path : Bs} (h : dropA s root path = (s', r', true)) : Chg s s' r' := by
  obtain ⟨hs, n, r, _, hp, rfl⟩ := dropA_ok h
  refine ⟨hs, (putAll_ok _ _ _ hs hp).1, keep_put hs hp, ?_⟩
  rw [foldsD] at hp ⊢
  generalize (folderOf s root).getD [] = l at *
  generalize foldsD s _ r = fs at *
  rw [dT] at hp ⊢
  split at hp
  · rename_i h1
    rw [if_pos h1]
    show (folderOf s' (prOf (foldT []))).isSome = true
    have hp : putAll s ((dT fs r).1 ++ [mk (foldT [])]) = some s' := hp
    rw [folder_put hs hp (by simp) entsV_nil]; rfl
  · rename_i h1
    rw [if_neg h1]
    show (folderOf s' (prOf (foldT _))).isSome = true
    have hp : putAll s ((dT fs r).1 ++ [mk (foldT (restD l n (dT fs r).2))]) = some s' := hp
    rw [folder_put hs hp (by simp) (restD_valid _ _ _)]; rfl
theorem write_good {N : Bs → Prop} {s s' : List Pc} {root r' : Int} {path c : Bs} (h : writeA s root path c = (s', r', true)) (hg : Good N s) (hn : ∀ ps, pathP path = some ps → ∀ n ∈ ps, N n) : Good N s' := by
  obtain ⟨hs, hc, n, r, fs, x, hpp, hf, hx, hp, rfl⟩ := writeA_ok h
  refine good_put hs hg hp fun t ht => ?_
  rcases List.mem_cons.1 ht with rfl | ht
  · intro l hr
    have h0 : readF (tx (mk (fileT c))) = none := readF_file (by rw [tx_mk, readFi_fileT hc]; rfl)
    rw [h0] at hr; cases hr
  · refine newIn_good hg (foldsW_mem _ _ _ hf) (hn _ hpp) ?_ ((upT_texts _ _ _ _ hx).1 t ht)
    rintro q (rfl | ⟨u, hu, rfl⟩)
    · exact ⟨mk (fileT c), by simp, rfl⟩
    · exact ⟨u, by simp [hu], rfl⟩
theorem drop_good {N : Bs → Prop} {s s' : List Pc} {root r' : Int} {path : Bs} (h : dropA s root path = (s', r', true)) (hg : Good N s) (hn : ∀ ps, pathP path = some ps → ∀ n ∈ ps, N n) : Good N s' := by
  obtain ⟨hs, n, r, hpp, hp, rfl⟩ := dropA_ok h
  obtain ⟨h1, h2⟩ := dT_texts (foldsD s root (n :: r)) (n :: r)
  have hfs := foldsD_mem (s := s) (n :: r) root
  generalize dT (foldsD s root (n :: r)) (n :: r) = X at *
  generalize foldsD s root (n :: r) = fs at *
  refine good_put hs hg hp fun t ht => ?_
  obtain ⟨X1, o⟩ := X
  cases o with
  | some p =>
    exact newIn_good hg hfs (hn _ hpp) (fun q hq => hq) (h1 t ht)
  | none =>
    have ht : t ∈ X1 ++ [mk (foldT [])] := ht
    rcases List.mem_append.1 ht with ht | ht
    · refine newIn_good hg hfs (hn _ hpp) (fun q hq => ?_) (h1 t ht)
      obtain ⟨u, hu, hq⟩ := hq
      exact ⟨u, List.mem_append.2 (.inl hu), hq⟩
    · rw [List.mem_singleton] at ht
      subst ht
      intro l hr e he
      rw [tx_mk, readF_foldT entsV_nil] at hr
      injection hr with hr
      subst hr; cases he
end Go.Proofs.YtaghiefokmapmaaDoor

/- strings.Cut at a byte. -/
set_option linter.unusedVariables false
namespace Go.Proofs.YtaghiefokmapmaaDoor
open Go.RowKit
def headC (c : UInt8) (s : Bs) : Bs := s.takeWhile fun x => x != c
def cutC (c : UInt8) (s : Bs) : Option (Bs × Bs) := if (headC c s).length < s.length then some (headC c s, s.drop ((headC c s).length + 1)) else none
theorem headC_le (c : UInt8) (s : Bs) : (headC c s).length ≤ s.length := (List.takeWhile_sublist _).length_le
theorem headC_cons (c x : UInt8) (r : Bs) : headC c (x :: r) = if x = c then [] else x :: headC c r := by
  unfold headC; rw [List.takeWhile_cons]
  by_cases h : x = c <;> simp [h]
theorem headC_take (c : UInt8) : ∀ s : Bs, headC c s = s.take (headC c s).length
  | [] => rfl
  | x :: r => by
    rw [headC_cons]
    split
    · rfl
    · rw [List.length_cons, List.take_succ_cons, ← headC_take c r]
theorem headC_ne (c : UInt8) : ∀ (s : Bs) (j : Nat) (h : j < s.length), j < (headC c s).length → s[j] ≠ c
  | [], j, h, _ => by simp at h
  | x :: r, j, h, hj => by
    rw [headC_cons] at hj
    split at hj
    · simp at hj
    · rename_i hx
      cases j with
      | zero => simpa using hx
      | succ j => simpa using headC_ne c r j (by simpa using h) (by simpa using hj)
theorem headC_at (c : UInt8) : ∀ (s : Bs) (h : (headC c s).length < s.length), s[(headC c s).length] = c
  | [], h => by simp at h
  | x :: r, h => by
    by_cases hx : x = c
    · have e : headC c (x :: r) = [] := by rw [headC_cons, if_pos hx]
      simp only [e, List.length_nil, List.getElem_cons_zero]; exact hx
    · have e : headC c (x :: r) = x :: headC c r := by rw [headC_cons, if_neg hx]
      have h' : (headC c r).length < r.length := by rw [e] at h; simpa using h
      have := headC_at c r h'
      simp only [e, List.length_cons, List.getElem_cons_succ]; exact this
theorem idx_head (c : UInt8) : ∀ s : Bs, Lib.indexByte s c = if (headC c s).length < s.length then ((headC c s).length : Int) else -1
  | [] => rfl
  | x :: r => by
    unfold Lib.indexByte headC
    rw [List.takeWhile_cons]
    by_cases h : x = c
    · subst h; simp
    · have ih := idx_head c r
      have h1 : (x == c) = false := beq_eq_false_iff_ne.2 h
      have h2 : (x != c) = true := by simp [h]
      unfold headC at ih
      rw [h1, h2, ih]
      simp only [Bool.false_eq_true, if_false, if_true, List.length_cons, Nat.add_lt_add_iff_right]
      split
      · have e : ((((r.takeWhile fun x => x != c).length : Nat) : Int) == -1) = false := by rw [beq_eq_false_iff_ne]; omega
        rw [e]; simp
      · simp
theorem cut_at (c : UInt8) (s : Bs) : Lib.cut s [c] = match cutC c s with | some (a, b) => (a, b, true) | none => (s, [], false) := by
  unfold Lib.cut cutC
  rw [Lib.index_one, idx_head]
  split
  · rename_i h
    rw [if_pos (by omega)]
    simp only [Int.toNat_natCast, List.length_singleton]
    rw [← headC_take]
  · rw [if_neg (by omega)]
def cutV (c : UInt8) (s : ByteArray) : Value := match cutC c (bs s) with | some (a, b) => .tuple #[.string (mk a), .string (mk b), .bool true] | none => .tuple #[.string s, .string ⟨#[]⟩, .bool false]
theorem cutC_some {c : UInt8} {s a b : Bs} (h : cutC c s = some (a, b)) : s = a ++ c :: b ∧ a = headC c s := by
  unfold cutC at h
  split at h
  · rename_i hlt
    injection h with h; injection h with h1 h2
    have h3 := headC_at c s hlt
    refine ⟨?_, h1.symm⟩
    rw [← h1, ← h2]
    conv => lhs; rw [← List.take_append_drop (headC c s).length s, ← headC_take, List.drop_eq_getElem_cons hlt, h3]
  · cases h
theorem cutC_len {c : UInt8} {s : ByteArray} {a b : Bs} (h : cutC c (bs s) = some (a, b)) : a.length + b.length + 1 = s.size := by
  have h1 := (cutC_some h).1
  have h2 := size_bs s
  rw [h1, List.length_append, List.length_cons] at h2; omega
theorem Cut_any (s : ByteArray) (c : UInt8) (w : World) (hs : s.size ≤ 16777216) (hm : MaxL w) :
    Calls Tryd.prog 27 #[.string s, .string ⟨#[c]⟩] w fun e w' => e = .returned (cutV c s) ∧ Below w.heap.size w w' := by
  obtain ⟨m, hm⟩ := hm
  refine (Tryd.strings_Cut s ⟨#[c]⟩ m w (by omega) hm).mono fun e w' ⟨h1, n, h2⟩ => ?_
  have e2 : Lib.cut s.data.toList (⟨#[c]⟩ : ByteArray).data.toList = Lib.cut (bs s) [c] := rfl
  rw [e2, cut_at] at h1
  refine ⟨?_, by rw [h2]; exact Below_drewN (Below.refl _ _) n⟩
  rw [h1]
  unfold cutV
  cases cutC c (bs s) with
  | none =>
    rw [show (⟨(bs s).toArray⟩ : ByteArray) = s from mk_bs s]
  | some x => rfl
end Go.Proofs.YtaghiefokmapmaaDoor

/- strconv.FormatInt at base 16, walked. -/
set_option linter.unusedVariables false
namespace Go.Proofs.YtaghiefokmapmaaDoor
open Go.RowKit
--BEGIN
/-- The table by which trailing zeros are found: its place for 16. -/
theorem cell_allocQ {u : Value} {w : World} {x : Obj} {a : Addr} (hc : w.cell? a = some u) : (w.alloc x).cell? a = some u := (World.cell?_alloc_lt w x a (World.block_lt_of_cell? w _ hc)).trans hc
def TzL (w : World) : Prop := w.cell? ⟨3, 15, none⟩ = some (.int .u8 4)
theorem TzL.below {w w' : World} (h : TzL w) (hb : Below w.heap.size w w') : TzL w' := Below_cells hb _ _ _ h
set_option maxHeartbeats 2000000 in
set_option maxRecDepth 100000 in
theorem tz64_any (w : World) (ht : TzL w) : Calls Tryd.prog 117 #[.int .u64 16] w fun e w' => e = .returned (.int .i64 4) ∧ w = w' := by
  unfold TzL at ht
  have hA : bits .and .u64 16 (IntKind.u64.wrap (-16)) = 16 := by kernel_rfl
  have hW : IntKind.u64.wrap (16 * 285870213051353865) = 4573923408821661840 := by kernel_rfl
  go_enter Tryd.func117, Tryd.ntmps117
  go_wp2
  go_ret
  exact ⟨rfl, rfl⟩
set_option maxHeartbeats 2000000 in
set_option maxRecDepth 100000 in
theorem tz_any (w : World) (ht : TzL w) : Calls Tryd.prog 111 #[.int .u64 16] w fun e w' => e = .returned (.int .i64 4) ∧ w = w' := by
  have HT := Lib.hid ht
  clear ht
  go_enter Tryd.func111, Tryd.ntmps111
  go_wp2_with (go_at_call 117; refine (tz64_any _ HT.out).mono ?_; rintro e w' ⟨rfl, rfl⟩)
  go_ret
  exact ⟨rfl, rfl⟩
set_option maxHeartbeats 2000000 in
set_option maxRecDepth 100000 in
theorem pow2_any (w : World) : Calls Tryd.prog 110 #[.int .i64 16] w fun e w' => e = .returned (.bool true) ∧ w = w' := by
  go_enter Tryd.func110, Tryd.ntmps110
  go_wp2
  go_ret
  exact ⟨rfl, rfl⟩
/-- N is left, 'acc' stands behind. -/
def HexI (n0 N : Nat) (acc : Bs) : Prop := ∃ f, N < 16 ^ (f + 1) ∧ f + 1 + acc.length = 7 ∧ hexF 7 n0 = hexF (f + 1) N ++ acc
theorem HexI.start {n0 : Nat} (h : n0 ≤ 16777212) : HexI n0 n0 [] := by
  have e : (16 : Nat) ^ (6 + 1) = 268435456 := by decide
  exact ⟨6, by omega, rfl, by simp⟩
theorem HexI.step {n0 N : Nat} {acc : Bs} (h : HexI n0 N acc) (hN : 16 ≤ N) : HexI n0 (N / 16) (hexD (N % 16) :: acc) ∧ acc.length ≤ 5 := by
  obtain ⟨f, hf, hl, he⟩ := h
  cases f with
  | zero => simp at hf; omega
  | succ f =>
    refine ⟨⟨f, by rw [Nat.pow_succ] at hf; omega, by simp; omega, ?_⟩, by omega⟩
    rw [he, hexF, if_neg (by omega)]
    simp
theorem HexI.done {n0 N : Nat} {acc : Bs} (h : HexI n0 N acc) (hN : N < 16) : hexF 7 n0 = hexD N :: acc ∧ acc.length ≤ 6 := by
  obtain ⟨f, hf, hl, he⟩ := h
  refine ⟨?_, by omega⟩
  rw [he, hexF, if_pos hN]; rfl
def DigRow (wr : World) (g : Nat) (acc : Bs) : Prop := ∃ cs : Array Value, wr.heap[g]? = some (.cells cs 124 (0, 0)) ∧ cs.size = 65 ∧ cs.toList.drop (65 - acc.length) = acc.map fun c => Value.int .u8 (c.toNat : Int)
theorem DigRow.cell {wr : World} {g : Nat} {acc : Bs} (h : DigRow wr g acc) {j : Nat} (hj : j < 65) : ∃ u, wr.cell? ⟨g, j, none⟩ = some u := by
  obtain ⟨cs, hg, hs, _⟩ := h
  exact ⟨cs[j], by rw [cell_of_row wr g j cs _ (0, 0) hg, Array.getElem?_eq_getElem (by omega)]⟩
theorem DigRow.free {wr : World} {g : Nat} {acc : Bs} (h : DigRow wr g acc) (j : Nat) : wr.frozen? ⟨g, j, none⟩ = false := by
  obtain ⟨cs, hg, _⟩ := h
  exact frozen_of_row wr g j cs _ hg
theorem DigRow.store {wr : World} {g : Nat} {acc : Bs} (h : DigRow wr g acc) (c : UInt8) {j : Nat} (hj : j + 1 + acc.length = 65) : DigRow (wr.setCell ⟨g, j, none⟩ (.int .u8 (c.toNat : Int))) g (c :: acc) := by
  obtain ⟨cs, hg, hs, ht⟩ := h
  refine ⟨cs.setIfInBounds j (.int .u8 (c.toNat : Int)), heap_setCell_same wr g _ cs _ _ hg, by simpa using hs, ?_⟩
  have e1 : 65 - (c :: acc).length = j := by simp; omega
  have e2 : 65 - acc.length = j + 1 := by omega
  rw [e2] at ht
  rw [e1, Array.toList_setIfInBounds, List.drop_eq_getElem_cons (by simp; omega), List.getElem_set_self, List.drop_set_of_lt (by omega), ht]
  rfl
theorem ofInt_nat64 (a : Nat) (ha : a < 18446744073709551616) : (BitVec.ofInt 64 (a : Int)).toNat = a := by
  rw [BitVec.ofInt_natCast, BitVec.toNat_ofNat]; exact Nat.mod_eq_of_lt (by omega)
theorem u64_and15 (N : Nat) (h : N ≤ 16777212) : bits .and .u64 (N : Int) 15 = ((N % 16 : Nat) : Int) := by
  have e : N &&& 15 = N % 16 := Nat.and_two_pow_sub_one_eq_mod N 4
  show IntKind.u64.wrap ((BitVec.ofInt 64 (N : Int) &&& BitVec.ofInt 64 ((15 : Nat) : Int)).toNat : Int) = _
  rw [BitVec.toNat_and, ofInt_nat64 N (by omega), ofInt_nat64 15 (by omega), e, IntKind.wrap_u64]
  omega
def digs : ByteArray := ⟨#[48, 49, 50, 51, 52, 53, 54, 55, 56, 57, 97, 98, 99, 100, 101, 102, 103, 104, 105, 106, 107, 108, 109, 110, 111, 112, 113, 114, 115, 116, 117, 118, 119, 120, 121, 122]⟩
theorem digs_at (d : Nat) (h : d < 16) (h' : d < digs.size) : digs[d] = hexD d := by
  have key : ∀ d : Fin 16, digs[d.val]'(Nat.lt_trans d.isLt (by decide)) = hexD d.val := by decide
  exact key ⟨d, h⟩
theorem u64_shr4 (N : Nat) : (N : Int) / 16 = ((N / 16 : Nat) : Int) := by omega
theorem slice65 (W : World) (g k : Nat) (hk : k < 65) : (Instr.sliceAt 124 (.pointer (some ⟨g, 0, none⟩)) (some (.int .i64 (k : Int))) none none).run Tryd.prog W = .ok (.slice (some ⟨g, k, none⟩) (65 - k) (65 - k)) W := by
  have hl : Tryd.prog.arrayLen 124 = 65 := by kernel_rfl
  have hz : (sizeOf (Tryd.prog.elem 124)).run Tryd.prog W = .ok 1 W := by kernel_rfl
  have h := run_sliceAt_array_l (P := Tryd.prog) W 124 ⟨g, 0, none⟩ (by kernel_rfl) .i64 (k : Int) (by omega) (by rw [hl]; omega)
  rw [h, hz, hl]
  show Result.ok (slicedAt _ _ _ _ _) W = _
  unfold slicedAt
  rw [if_neg (by omega)]
  simp [Addr.add]
  omega
theorem DigRow.conv {W : World} {g : Nat} {acc : Bs} (h : DigRow W g acc) (h1 : 1 ≤ acc.length) (h2 : acc.length ≤ 65) : (convert 22 9 (.slice (some ⟨g, 65 - acc.length, none⟩) acc.length acc.length)).run Tryd.prog W = .ok (.string (mk acc)) W := by
  obtain ⟨cs, hg, hs, ht⟩ := h
  refine run_convert_bytes_back (P := Tryd.prog) W 22 9 5 ⟨g, 65 - acc.length, none⟩ acc.length acc Tryd.underlying22 Tryd.underlying5 Tryd.underlying9 ?_
  intro j hj
  have hadd : (⟨g, 65 - acc.length, none⟩ : Addr).add j = ⟨g, 65 - acc.length + j, none⟩ := by unfold Addr.add; split <;> simp_all
  rw [hadd, cell_of_row _ _ _ _ _ (0, 0) hg, ← Array.getElem?_toList]
  have : (cs.toList.drop (65 - acc.length))[j]? = (acc.map fun c => Value.int .u8 (c.toNat : Int))[j]? := by rw [ht]
  rw [List.getElem?_drop] at this
  rw [this, List.getElem?_map, List.getElem?_eq_getElem hj]; rfl
set_option maxHeartbeats 4000000 in
set_option maxRecDepth 100000 in
theorem formatBits_any (n : Nat) (w : World) (hn : n ≤ 16777212) (ht : TzL w) : Calls Tryd.prog 92 #[.slice none 0 0, .int .u64 (n : Int), .int .i64 16, .bool false, .bool false] w fun e w' => e = .returned (.tuple #[.slice none 0 0, .string (mk (hexF 7 n))]) ∧ Below w.heap.size w w' := by
  have HT := Lib.hid ht
  clear ht
  have hz : ∀ w, (zeroValue 124).run Tryd.prog w = .ok (.agg (Array.replicate 65 (.int .u8 0))) w := fun w => by kernel_rfl
  have HZ := Lib.hid (show (Array.replicate 65 (Value.int .u8 0)).size = 65 by rfl)
  generalize Array.replicate 65 (Value.int .u8 0) = Z at *
  go_enter Tryd.func92, Tryd.ntmps92
  go_wp2_with (first
    | (go_at_call 110; refine (pow2_any _).mono ?_; rintro e w' ⟨rfl, rfl⟩)
    | (go_at_call 111; refine (tz_any _ (cell_allocQ HT.out)).mono ?_; rintro e w' ⟨rfl, rfl⟩))
  go_loopw [1, 13] (fun u i wr => ∃ (N : Nat) (acc : Bs), u = .int .u64 (N : Int) ∧ i = .int .i64 ((65 - acc.length : Nat) : Int) ∧ N ≤ n ∧ acc.length ≤ 6 ∧ Hid (HexI n N acc) ∧ Hid (DigRow wr w.heap.size acc) ∧ Hid (Below w.heap.size w wr)) (fun u _ _ => (intOf u).toNat)
  case atStart => exact ⟨n, [], rfl, rfl, Nat.le_refl _, by simp, HexI.start hn, ⟨Z, heap_alloc_new w _, HZ.out, by rw [List.drop_eq_nil_of_le (by rw [Array.length_toList, HZ.out]; simp)]; rfl⟩, (Below.refl _ _).alloc (Nat.le_refl _) _⟩
  case round =>
    obtain ⟨N, acc, rfl, rfl, hN, hal, HI, HD, HB⟩ := hrel
    by_cases hlt : 16 ≤ N
    · obtain ⟨u0, hu0⟩ := HD.out.cell (j := 64 - acc.length) (by omega)
      have hfr := HD.out.free (64 - acc.length)
      have hand := u64_and15 N (by omega)
      have hlt' : (16 : Int) ≤ (N : Int) := by omega
      have e1 : (((65 - acc.length : Nat) : Int) - 1) = ((64 - acc.length : Nat) : Int) := by omega
      obtain ⟨hst, hac⟩ := HI.out.step hlt
      have HST := Lib.hid hst
      have hd := fun h' => digs_at (N % 16) (by omega) h'
      unfold digs at hd
      have HSD := Lib.hid (HD.out.store (hexD (N % 16)) (j := 64 - acc.length) (by omega))
      have HSB := Lib.hid (fun u => HB.out.setCell (p := ⟨w.heap.size, 64 - acc.length, none⟩) (Nat.le_refl _) u)
      clear hst
      go_wp2
      go_roundw
      case rel => exact ⟨N / 16, hexD (N % 16) :: acc, by rw [u64_shr4], by rw [List.length_cons, show 65 - (acc.length + 1) = 64 - acc.length by omega], by omega, by rw [List.length_cons]; omega, HST.out, HSD.out, HSB.out _⟩
      case measure => simp [intOf]; omega
    · obtain ⟨u0, hu0⟩ := HD.out.cell (j := 64 - acc.length) (by omega)
      have hfr := HD.out.free (64 - acc.length)
      have hlt' : ¬ (16 : Int) ≤ (N : Int) := by omega
      have e1 : (((65 - acc.length : Nat) : Int) - 1) = ((64 - acc.length : Nat) : Int) := by omega
      obtain ⟨hdn, hac⟩ := HI.out.done (by omega)
      have HDN := Lib.hid hdn
      have hd := fun h' => digs_at N (by omega) h'
      unfold digs at hd
      have HSD := Lib.hid (HD.out.store (hexD N) (j := 64 - acc.length) (by omega))
      have HSB := Lib.hid (fun u => HB.out.setCell (p := ⟨w.heap.size, 64 - acc.length, none⟩) (Nat.le_refl _) u)
      have hsl := fun W => slice65 W w.heap.size (64 - acc.length) (by omega)
      rw [show 65 - (64 - acc.length) = acc.length + 1 by omega] at hsl
      have hcv := HSD.out.conv (by simp) (by simp; omega)
      rw [List.length_cons, show 65 - (acc.length + 1) = 64 - acc.length by omega, ← HDN.out] at hcv
      clear hdn
      go_wp2
      go_ret2
      exact ⟨rfl, HSB.out _⟩
set_option maxHeartbeats 4000000 in
set_option maxRecDepth 100000 in
theorem fmtInt_any (n : Nat) (w : World) (hn : n ≤ 16777212) (ht : TzL w) : Calls Tryd.prog 67 #[.int .i64 (n : Int), .int .i64 16] w fun e w' => e = .returned (.string (mk (hexF 7 n))) ∧ Below w.heap.size w w' := by
  have HF := Lib.hid (formatBits_any n w hn ht)
  have hw : IntKind.u64.wrap (n : Int) = (n : Int) := by rw [IntKind.wrap_u64]; omega
  clear ht
  go_enter Tryd.func67, Tryd.ntmps67
  go_wp2_with fail
  refine HF.out.mono ?_
  rintro e w1 ⟨rfl, hb⟩
  have HB := Lib.hid hb
  clear hb
  go_wp2
  go_ret
  exact ⟨rfl, HB.out⟩
set_option maxHeartbeats 4000000 in
set_option maxRecDepth 100000 in
theorem FormatInt_any (n : Nat) (w : World) (hn : n ≤ 16777212) (ht : TzL w) : Calls Tryd.prog 46 #[.int .i64 (n : Int), .int .i64 16] w fun e w' => e = .returned (.string (mk (hexF 7 n))) ∧ Below w.heap.size w w' := by
  have HF := Lib.hid (fmtInt_any n w hn ht)
  clear ht
  go_enter Tryd.func46, Tryd.ntmps46
  go_wp2_with fail
  refine HF.out.mono ?_
  rintro e w1 ⟨rfl, hb⟩
  have HB := Lib.hid hb
  clear hb
  go_wp2
  go_ret
  exact ⟨rfl, HB.out⟩
set_option maxHeartbeats 4000000 in
set_option maxRecDepth 100000 in
theorem iHexText_any (n : Int) (w : World) (ht : TzL w) : Calls Tryd.prog 22 #[.int .i64 n] w fun e w' => e = .returned (.string (mk (hexT n))) ∧ Below w.heap.size w w' := by
  cases hp : pv n
  · have E := Lib.hid (hexT_bad hp)
    have hP := fun w => iprintValid_any n w
    rw [hp] at hP
    have HP := Lib.hid hP
    clear ht hp hP
    rw [E.out]
    go_enter Tryd.func22, Tryd.ntmps22
    go_wp2_with (go_at_call 45; refine (HP.out _).mono ?_; rintro e w' ⟨rfl, rfl⟩)
    go_ret
    exact ⟨rfl, Below.refl _ _⟩
  · have h2 := pv_iff.1 hp
    obtain ⟨m, rfl⟩ := Int.eq_ofNat_of_zero_le h2.1
    have E := Lib.hid (hexT_ok (n := m) (by omega))
    have hP := fun w => iprintValid_any (m : Int) w
    rw [hp] at hP
    have HP := Lib.hid hP
    have HF := Lib.hid (FormatInt_any m w (by omega) ht)
    clear ht hp hP h2
    rw [E.out]
    go_enter Tryd.func22, Tryd.ntmps22
    go_wp2_with (first
      | (go_at_call 45; refine (HP.out _).mono ?_; rintro e w' ⟨rfl, rfl⟩)
      | (go_at_call 46; refine HF.out.mono ?_; rintro e w1 ⟨rfl, hb⟩; have HB := Lib.hid hb; clear hb))
    go_ret
    exact ⟨rfl, HB.out⟩
end Go.Proofs.YtaghiefokmapmaaDoor

/- HexText of the reference; ReadHex, walked. -/
set_option linter.unusedVariables false
namespace Go.Proofs.YtaghiefokmapmaaDoor
open Go.RowKit
attribute [local go_sem] mk_size mk_append
--BEGIN
def digs16 : ByteArray := ⟨#[48, 49, 50, 51, 52, 53, 54, 55, 56, 57, 97, 98, 99, 100, 101, 102]⟩
theorem digs16_at (d : Nat) (h : d < 16) : digs16.extract d (d + 1) = mk [hexD d] := by
  have key : ∀ d : Fin 16, digs16.extract d.val (d.val + 1) = mk [hexD d.val] := by decide
  exact key ⟨d, h⟩
set_option maxHeartbeats 4000000 in
set_option maxRecDepth 100000 in
theorem sHexText_any (n : Int) (w : World) : Calls Tryd.prog 23 #[.int .i64 n] w fun e w' => e = .returned (.string (mk (hexT n))) ∧ w = w' := by
  cases hp : pv n
  · have E := Lib.hid (hexT_bad hp)
    have hP : ∀ w, Calls Tryd.prog 47 #[.int .i64 n, .int .i64 0, .int .i64 16777212] w fun e w' => e = .returned (.bool false) ∧ w = w' := fun w => hp ▸ sl1In_any n 0 16777212 w
    have HP := Lib.hid hP
    clear hp hP
    rw [E.out]
    go_enter Tryd.func23, Tryd.ntmps23
    go_wp2_with (go_at_call 47; refine (HP.out _).mono ?_; rintro e w' ⟨rfl, rfl⟩)
    go_ret
    exact ⟨rfl, rfl⟩
  · have h2 := pv_iff.1 hp
    obtain ⟨m, rfl⟩ := Int.eq_ofNat_of_zero_le h2.1
    have hm : m ≤ 16777212 := by omega
    have E := Lib.hid (hexT_ok hm)
    have hP : ∀ w, Calls Tryd.prog 47 #[.int .i64 (m : Int), .int .i64 0, .int .i64 16777212] w fun e w' => e = .returned (.bool true) ∧ w = w' := fun w => hp ▸ sl1In_any (m : Int) 0 16777212 w
    have HP := Lib.hid hP
    have hx := digs16_at (m % 16) (by omega)
    unfold digs16 at hx
    have HS := Lib.hid (HexAt.start hm)
    clear hp hP h2
    rw [E.out]
    clear E
    go_enter Tryd.func23, Tryd.ntmps23
    go_wp2_with (go_at_call 47; refine (HP.out _).mono ?_; rintro e w' ⟨rfl, rfl⟩)
    go_loop [0, 4] (fun u o => ∃ (N : Nat) (acc : Bs), u = .int .i64 (N : Int) ∧ o = .string (mk acc) ∧ N ≤ m ∧ acc.length ≤ 7 ∧ Hid (HexAt m N acc)) (fun u _ => (intOf u).toNat)
    case atStart => exact ⟨m, [hexD (m % 16)], rfl, by rw [hx], Nat.le_refl _, by simp, HS.out⟩
    case round =>
      obtain ⟨N, acc, rfl, rfl, hN, hal, HA⟩ := hrel
      by_cases hlt : 16 ≤ N
      · have hlt' : (16 : Int) ≤ (N : Int) := by omega
        have hd : (N : Int) / 16 = ((N / 16 : Nat) : Int) := by omega
        have hst := HA.out.step hlt
        have hac := hst.1
        have HST := Lib.hid hst
        clear hx
        have hx := digs16_at (N / 16 % 16) (by omega)
        unfold digs16 at hx
        have hlt2 : N / 16 ≤ N := Nat.div_le_self _ _
        have hlt3 : N / 16 < N := Nat.div_lt_self (by omega) (by omega)
        generalize N / 16 = M at *
        clear hst
        go_wp2
        go_round
        case rel => exact ⟨M, hexD (M % 16) :: acc, rfl, by first | rfl | rw [hx]; rfl, by omega, hac, HST.out⟩
        case measure => simp [intOf]; omega
      · have hlt' : ¬ (16 : Int) ≤ (N : Int) := by omega
        have HD := Lib.hid (HA.out.done (by omega))
        go_wp2
        go_ret
        exact ⟨ret_str (by rw [HD.out]), rfl⟩
end Go.Proofs.YtaghiefokmapmaaDoor
