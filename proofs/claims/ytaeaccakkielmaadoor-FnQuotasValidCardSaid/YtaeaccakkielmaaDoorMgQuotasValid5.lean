/- Written by merge.py: Dt, Sp, L1, Sa, Ds, Nm2, Np, Fn1, Fn2, Le, Fn3, Lq, Door. -/
import Derived.Deep.RegionWith
import Derived.Deep.RegionHeld3
import Derived.Lib.Strings
import Derived.Test.YtaeaccakkielmaaDoorRows
import Derived.Handed
import Derived.HandedShaped
import Derived.Lay
import Derived.LaidMore
import Derived.SevenTiedAt
import Derived.Stop.Joined
import Derived.Shelf.Vars
import Derived.Test.YtaeaccakkielmaaDoorMgQuotasValid4
/- Drawn inputs: texts, some of which are none; lists of texts. -/
set_option linter.unusedVariables false
namespace Go.Proofs.YtaeaccakkielmaaDoor
open Go.RowKit

/-- Of three the one at place x. -/
def pick3 (x : Nat) (a b c : Value) : Value := match x with | 0 => a | 1 => b | _ => c
theorem pick3_at {x : Nat} (h : x < 3) (a b c : Value) : (#[a, b, c] : Array Value)[x]? = some (pick3 x a b c) := by
  match x, h with
  | 0, _ => rfl
  | 1, _ => rfl
  | 2, _ => rfl
/-- A block of the call's own, which is not the reader's. -/
def Blk (W : World) (g b : Nat) (cs : Array Value) (E : TypeId) : Prop := b ≠ g ∧ W.heap[b]? = some (.cells cs E (0, 0))
theorem Blk.only {W W' : World} {g b : Nat} {cs : Array Value} {E : TypeId} (h : Blk W g b cs E) (ho : Only g W W') : Blk W' g b cs E :=
  ⟨h.1, (ho.block b (Array.getElem?_eq_some_iff.1 h.2).1 (by intro e; injection e with e; exact h.1 e)).trans h.2⟩
theorem Blk.new {W : World} {g : Nat} {cs : Array Value} {E : TypeId} (hg : g < W.heap.size) : Blk (W.alloc (.cells cs E)) g W.heap.size cs E := ⟨by omega, heap_alloc_new W _⟩
theorem Blk.cell {W : World} {g b k : Nat} {cs : Array Value} {E : TypeId} {u : Value} (h : Blk W g b cs E) (hu : cs[k]? = some u) : W.cell? ⟨b, k, none⟩ = some u := by
  rw [cell_of_row W b k cs E _ h.2]; exact hu
theorem only_alloc (g : Nat) (W : World) (o : Obj) : Only g W (W.alloc o) := Only.of_below ((Below.refl _ _).alloc (Nat.le_refl _) o)
end Go.Proofs.YtaeaccakkielmaaDoor

/- Spots: prints of texts, their root. -/
set_option linter.unusedVariables false
namespace Go.Proofs.YtaeaccakkielmaaDoor
open Go.RowKit

def prints (ss : List ByteArray) : List Int := ss.map fun s => prOf (bs s)
theorem prints_take {ss : List ByteArray} {k : Nat} (h : k < ss.length) : prints (ss.take (k + 1)) = prints (ss.take k) ++ [prOf (bs ss[k])] := by
  unfold prints; rw [List.take_succ_eq_append_getElem h, List.map_append]; rfl
theorem prints_len (ss : List ByteArray) : (prints ss).length = ss.length := by simp [prints]
def Fit (ss : List ByteArray) : Prop := ∀ s ∈ ss, s.size ≤ 16777216
theorem Fit.at {ss : List ByteArray} (h : Fit ss) {k : Nat} (hk : k < ss.length) : ss[k].size ≤ 16777216 := h _ (by simp)

def spotRoot (ss : List ByteArray) : Int := treeRoot (prints ss)
theorem spotRoot_cut (ss : List ByteArray) : treeRoot (if ss.length ≤ 16 then prints ss else []) = spotRoot ss := by
  unfold spotRoot; split
  · rfl
  · rename_i h
    rw [treeRoot_bad (l := []) (by decide), treeRoot_bad (leavesV_len (by rw [prints_len]; omega))]
end Go.Proofs.YtaeaccakkielmaaDoor

/- Laws' walks: FnExactSpotOf, FnExactFoldName, FnFoldName. -/
set_option linter.unusedVariables false
namespace Go.Proofs.YtaeaccakkielmaaDoor
open Go.RowKit
attribute [local go_sem] mk_toList

/-- A law's end: true, and nothing that was there has turned. -/
def LawOk (w : World) (e : Ending) (w' : World) : Prop := e = .returned (.bool true) ∧ Below w.heap.size w w'

set_option maxHeartbeats 2000000 in
set_option maxRecDepth 100000 in
theorem alive_any (w : World) : Calls Tryd.prog 13 #[] w fun e w' => e = .returned (.bool true) ∧ w = w' := by
  have h1 : wordV (bs ⟨#[97, 49]⟩) = true := by decide
  have h2 : wordV (bs ⟨#[49, 97]⟩) = false := by decide
  go_enter Tryd.func13, Tryd.ntmps13
  go_wp2_with (go_at_call 32; refine (iWordValid_any _ _ (by decide)).mono ?_; rintro e w' ⟨rfl, rfl⟩)
  go_ret
  exact ⟨rfl, rfl⟩

/-! ### spots -/
def spotOf (seed many : Int) : Int := if pv seed && inI many 1 16 then prPair seed 17 % many else -1
/-! ### folded names -/
theorem foldName_facts (s : Bs) : foldName (foldName s) = foldName s ∧ (foldName s ≠ [] → (foldName s).length = s.length) := by
  by_cases h : 1 ≤ s.length ∧ s.length ≤ 8 ∧ s.all fineC = true
  · have e : foldName s = s.map foldC := by unfold foldName; rw [if_pos h]
    have hff : ∀ c, fineC c = true → foldC (foldC c) = foldC c ∧ fineC (foldC c) = true := by
      intro c hc
      have h2 : foldC (foldC c) = foldC c := by
        refine foldC_same ?_
        unfold fineC smallC digitC inI at hc
        simp at hc; omega
      refine ⟨h2, ?_⟩
      unfold fineC at hc ⊢
      rw [h2]; exact hc
    have hall := List.all_eq_true.1 h.2.2
    refine ⟨?_, fun _ => by rw [e]; simp⟩
    rw [e]
    have h3 : 1 ≤ (s.map foldC).length ∧ (s.map foldC).length ≤ 8 ∧ (s.map foldC).all fineC = true := by
      refine ⟨by simpa using h.1, by simpa using h.2.1, ?_⟩
      rw [List.all_eq_true]; intro c hc
      obtain ⟨d, hd, rfl⟩ := List.mem_map.1 hc
      exact (hff d (hall d hd)).2
    have e2 : foldName (s.map foldC) = (s.map foldC).map foldC := by unfold foldName; rw [if_pos h3]
    rw [e2, List.map_map]
    refine List.map_congr_left fun c hc => ?_
    exact (hff c (hall c hc)).1
  · have e : foldName s = [] := by unfold foldName; rw [if_neg h]
    rw [e]
    exact ⟨rfl, fun h => absurd rfl h⟩

theorem foldName_le (s : Bs) : (foldName s).length ≤ 8 := by
  unfold foldName; split
  · rename_i h; simpa using h.2.1
  · simp

end Go.Proofs.YtaeaccakkielmaaDoor

/- Spots: answers, and whether one is right. -/
set_option linter.unusedVariables false
namespace Go.Proofs.YtaeaccakkielmaaDoor
open Go.RowKit

def ansOk (ss : List ByteArray) (n : Int) : Bool := leavesV (prints ss) && decide (0 ≤ n ∧ n < ss.length)
def ansT (ss : List ByteArray) (n : Int) : ByteArray := if ansOk ss n then ss.getD n.toNat ⟨#[]⟩ else ⟨#[]⟩
def ansP (ss : List ByteArray) (n : Int) : List Int := if ansOk ss n then treeProof (prints ss) n else []
theorem ansOk_iff {ss : List ByteArray} {n : Int} : ansOk ss n = true ↔ leavesV (prints ss) = true ∧ 0 ≤ n ∧ n < ss.length := by
  unfold ansOk; rw [Bool.and_eq_true, decide_eq_true_eq]
theorem ansP_len (ss : List ByteArray) (n : Int) : (ansP ss n).length ≤ 5 := by
  unfold ansP; split
  · exact treeProof_len _ _
  · simp
def AnsR (ss : List ByteArray) (n : Int) (w : World) (e : Ending) (w' : World) : Prop :=
  ∃ v, e = .returned (.tuple #[.string (ansT ss n), v, .bool (ansOk ss n)]) ∧ Own w' w.heap.size 3 1 encI v (ansP ss n) ∧ Below w.heap.size w w'
theorem AnsR.no {ss : List ByteArray} {n : Int} (h : ansOk ss n = false) {w w' : World} {v : Value} (ho : Own w' w.heap.size 3 1 encI v []) (hb : Below w.heap.size w w') : AnsR ss n w (.returned (.tuple #[.string ⟨#[]⟩, v, .bool false])) w' := by
  refine ⟨v, ?_, ?_, hb⟩
  · unfold ansT; rw [h]; rfl
  · unfold ansP; rw [h]; exact ho
theorem ansT_at {ss : List ByteArray} {N : Nat} (h : ansOk ss N = true) (hN : N < ss.length) : ansT ss N = ss[N] := by
  unfold ansT; rw [if_pos h, Int.toNat_natCast, List.getD_eq_getElem?_getD, List.getElem?_eq_getElem hN]; rfl
theorem AnsR.yes {ss : List ByteArray} {N : Nat} (h : ansOk ss N = true) (hN : N < ss.length) {w w' : World} {v : Value} (ho : Own w' w.heap.size 3 1 encI v (treeProof (prints ss) N)) (hb : Below w.heap.size w w') : AnsR ss N w (.returned (.tuple #[.string ss[N], v, .bool true])) w' := by
  refine ⟨v, ?_, ?_, hb⟩
  · rw [ansT_at h hN, h]
  · unfold ansP; rw [if_pos h]; exact ho

def spotR (root many seed : Int) (t : ByteArray) (l : List Int) : Bool := decide (0 ≤ spotOf seed many) && (textV (bs t) && (decide (0 ≤ root) && (proofRoot (prOf (bs t)) (spotOf seed many) many l == root)))
end Go.Proofs.YtaeaccakkielmaaDoor

/- Drawn inputs: lists of texts. -/
set_option linter.unusedVariables false
namespace Go.Proofs.YtaeaccakkielmaaDoor
open Go.RowKit

def otherT : ByteArray := ⟨#[113, 117, 105, 116, 101, 32, 111, 116, 104, 101, 114]⟩
/-- Few and short texts; where they have a root, none has the print of that one text. -/
def TextsP (l : List ByteArray) : Prop := l.length ≤ 17 ∧ (∀ s ∈ l, s.size ≤ 60) ∧ (leavesV (prints l) = true → ∀ s ∈ l, prOf (bs s) ≠ prOf (bs otherT))
theorem own_of_heap {α : Type} {enc : α → List Value} {W : World} {b base size : Nat} {E : TypeId} {l : List α} (he : ∀ x, (enc x).length = size) (h : W.heap[b]? = some (.cells (flat enc l).toArray E (0, 0))) (hb : base ≤ b) (hm : l.length ≤ maxLen) :
    Own W base E size enc (.slice (some ⟨b, 0, none⟩) l.length l.length) l := by
  refine Filled.own ⟨(flat enc l).toArray, h, ?_, ?_, ?_⟩ he hb hm
  · simp [flat_length he]
  · simp [flat_length he]
  · simp
theorem TextsP.bad {l : List ByteArray} (h1 : l.length ≤ 17) (h2 : ∀ s ∈ l, s.size ≤ 60) (h3 : leavesV (prints l) = false) : TextsP l := ⟨h1, h2, fun h => by rw [h3] at h; cases h⟩
/-! ### the laws' own draws -/
def DrawnTexts (w : World) (e : Ending) (w' : World) : Prop :=
  ∃ (v : Value) (l : List ByteArray), e = .returned v ∧ Own w' w.heap.size 9 1 encS v l ∧ TextsP l ∧ Below w.heap.size w w'
def DrawnTextsN (w : World) (e : Ending) (w' : World) : Prop :=
  ∃ (v : Value) (l : List ByteArray) (n : Int), e = .returned (.tuple #[v, .int .i64 n]) ∧ Own w' w.heap.size 9 1 encS v l ∧ TextsP l ∧ -1 ≤ n ∧ n ≤ 17 ∧ Below w.heap.size w w'
end Go.Proofs.YtaeaccakkielmaaDoor

/- Names: ClashOf of the reference. -/
set_option linter.unusedVariables false
namespace Go.Proofs.YtaeaccakkielmaaDoor
open Go.RowKit
attribute [local go_sem] mk_toList
theorem hasS_take {fs : List ByteArray} {x : ByteArray} {j : Nat} (h : j < fs.length) : hasS (fs.take (j + 1)) x = (hasS (fs.take j) x || (bs x == bs fs[j])) := by
  unfold hasS; rw [List.take_succ_eq_append_getElem h, List.any_append]; simp
theorem folds_at {ss : List ByteArray} {k : Nat} (h : k < ss.length) : (folds ss)[k]'(by rw [folds_len]; exact h) = mk (foldName (bs ss[k])) := by simp [folds]
/-- What the reference's inner loop has come to. -/
def innerC (fs : List ByteArray) (k j : Nat) : Int := if 0 ≤ clashTo fs k then clashTo fs k else if hasS (fs.take j) (fs.getD k ⟨#[]⟩) then k else -1
theorem innerC_end (fs : List ByteArray) (k : Nat) : innerC fs k k = clashTo fs (k + 1) := rfl
theorem innerC_zero (fs : List ByteArray) (k : Nat) : innerC fs k 0 = clashTo fs k := by
  unfold innerC; split
  · rfl
  · have := clashTo_lt fs k
    rw [if_neg (by simp [hasS])]; omega
theorem innerC_bd (fs : List ByteArray) (k j : Nat) : -1 ≤ innerC fs k j ∧ innerC fs k j ≤ k := by
  have := clashTo_lt fs k
  unfold innerC; split
  · omega
  · split <;> omega
theorem innerC_same {ss : List ByteArray} {k j : Nat} (hk : k < ss.length) (hj : j < k) (h : (foldName (bs ss[j]) == foldName (bs ss[k])) = false) : innerC (folds ss) k (j + 1) = innerC (folds ss) k j := by
  have hjl : j < (folds ss).length := by rw [folds_len]; omega
  have hkl : k < (folds ss).length := by rw [folds_len]; exact hk
  unfold innerC
  rw [hasS_take hjl, getD_at hkl, folds_at hk, folds_at (ss := ss) (k := j) (by omega)]
  have e : (bs (mk (foldName (bs ss[k]))) == bs (mk (foldName (bs ss[j])))) = false := by
    show (foldName (bs ss[k]) == foldName (bs ss[j])) = false
    rw [beq_eq_false_iff_ne] at h ⊢; exact fun e => h e.symm
  rw [e, Bool.or_false]
theorem innerC_hit {ss : List ByteArray} {k j : Nat} (hk : k < ss.length) (hj : j < k) (h : (foldName (bs ss[j]) == foldName (bs ss[k])) = true) : innerC (folds ss) k (j + 1) = if 0 ≤ innerC (folds ss) k j then innerC (folds ss) k j else k := by
  have hjl : j < (folds ss).length := by rw [folds_len]; omega
  have hkl : k < (folds ss).length := by rw [folds_len]; exact hk
  unfold innerC
  rw [hasS_take hjl, getD_at hkl, folds_at hk, folds_at (ss := ss) (k := j) (by omega)]
  have e : (bs (mk (foldName (bs ss[k]))) == bs (mk (foldName (bs ss[j])))) = true := by
    show (foldName (bs ss[k]) == foldName (bs ss[j])) = true
    rw [beq_iff_eq] at h ⊢; exact h.symm
  rw [e, Bool.or_true]
  by_cases hc : 0 ≤ clashTo (folds ss) k
  · simp [hc]
  · cases hh : hasS ((folds ss).take j) (mk (foldName (bs ss[k]))) <;> simp [hc]
end Go.Proofs.YtaeaccakkielmaaDoor

/- Clashing and free names in plain Lean. -/
set_option linter.unusedVariables false
namespace Go.Proofs.YtaeaccakkielmaaDoor
--BEGIN
theorem clashTo_append (fs gs : List ByteArray) : ∀ k, k ≤ fs.length → clashTo (fs ++ gs) k = clashTo fs k
  | 0, _ => rfl
  | k + 1, h => by
    have ih := clashTo_append fs gs k (by omega)
    have e1 : (fs ++ gs).take k = fs.take k := by rw [List.take_append_of_le_length (by omega)]
    have e2 : (fs ++ gs).getD k ⟨#[]⟩ = fs.getD k ⟨#[]⟩ := by
      rw [List.getD_eq_getElem?_getD, List.getD_eq_getElem?_getD, List.getElem?_append_left (by omega)]
    rw [clashTo, clashTo, ih, e1, e2]
theorem folds_append (a b : List ByteArray) : folds (a ++ b) = folds a ++ folds b := by simp [folds]
theorem allFold_append (a b : List ByteArray) : allFold (a ++ b) = (allFold a && allFold b) := by simp [allFold, List.all_append]
theorem clashOf_bd (ss : List ByteArray) : -1 ≤ clashOf ss ∧ clashOf ss < ss.length ∨ clashOf ss = -1 := by
  unfold clashOf; split
  · have := clashTo_lt (folds ss) ss.length; omega
  · right; rfl
theorem clashOf_lo (ss : List ByteArray) : -1 ≤ clashOf ss := by rcases clashOf_bd ss with h | h <;> omega
/-- One name more, behind names without clash. -/
theorem clashOf_more {ss : List ByteArray} {x : ByteArray} (ha : allFold ss = true) (hc : clashOf ss = -1) (hx : (foldName (bs x)).isEmpty = false) :
    clashOf (ss ++ [x]) = if hasS (folds ss) (mk (foldName (bs x))) then (ss.length : Int) else -1 := by
  have h1 : allFold (ss ++ [x]) = true := by rw [allFold_append, ha]; simp [allFold, hx]
  unfold clashOf at hc ⊢
  rw [ha, if_pos rfl] at hc
  rw [h1, if_pos rfl, folds_append, List.length_append]
  have h2 : clashTo (folds ss ++ folds [x]) ss.length = -1 := by rw [clashTo_append _ _ _ (by rw [folds_len]; omega)]; exact hc
  have e1 : (folds ss ++ folds [x]).take ss.length = folds ss := by
    exact List.take_left' (folds_len ss)
  have e2 : (folds ss ++ folds [x]).getD ss.length ⟨#[]⟩ = mk (foldName (bs x)) := by
    have := folds_len ss
    rw [List.getD_eq_getElem?_getD, List.getElem?_append_right (by omega), this, Nat.sub_self]; rfl
  show clashTo _ (ss.length + 1) = _
  rw [clashTo, if_neg (by rw [h2]; omega), e1, e2]
theorem clashOf_bad {ss : List ByteArray} (h : allFold ss = false) : clashOf ss = -1 := by unfold clashOf; rw [h]; rfl
theorem hasS_iff {l : List ByteArray} {x : ByteArray} : hasS l x = true ↔ ∃ y ∈ l, bs x = bs y := by
  unfold hasS; rw [List.any_eq_true]
  constructor
  · rintro ⟨y, hy, h⟩; exact ⟨y, hy, by simpa using h⟩
  · rintro ⟨y, hy, h⟩; exact ⟨y, hy, by simpa using h⟩
/-- Where there is a clash: it is with one before, and there was none before. -/
theorem clashTo_first (fs : List ByteArray) : ∀ (m : Nat) (n : Nat), clashTo fs m = n → n < m ∧ hasS (fs.take n) (fs.getD n ⟨#[]⟩) = true ∧ clashTo fs n = -1
  | 0, n, h => by rw [clashTo] at h; omega
  | m + 1, n, h => by
    have hb := clashTo_lt fs m
    rw [clashTo] at h
    split at h
    · have := clashTo_first fs m n h
      exact ⟨by omega, this.2⟩
    · split at h
      · rename_i h1 h2
        have e : m = n := by omega
        subst e
        exact ⟨by omega, h2, by omega⟩
      · omega
theorem clashOf_first {ss : List ByteArray} {n : Nat} (h : clashOf ss = n) : ∃ hn : n < ss.length, (∃ (k : Nat) (hk : k < n), foldName (bs (ss[k]'(by omega))) = foldName (bs ss[n])) ∧ clashOf (ss.take n) = -1 := by
  by_cases ha : allFold ss = true
  · unfold clashOf at h
    rw [ha, if_pos rfl] at h
    obtain ⟨h1, h2, h3⟩ := clashTo_first _ _ _ h
    refine ⟨h1, ?_, ?_⟩
    · obtain ⟨y, hy, he⟩ := hasS_iff.1 h2
      obtain ⟨k, hk, rfl⟩ := List.getElem_of_mem hy
      rw [List.length_take, folds_len] at hk
      have hkn : k < n := by omega
      refine ⟨k, hkn, ?_⟩
      rw [List.getElem_take, folds_at (by omega)] at he
      rw [getD_at (by rw [folds_len]; exact h1), folds_at h1] at he
      exact he.symm
    · unfold clashOf
      have ha2 : allFold (ss.take n) = true := by
        unfold allFold at ha ⊢
        rw [List.all_eq_true] at ha ⊢
        exact fun x hx => ha x (List.mem_of_mem_take hx)
      rw [ha2, if_pos rfl]
      have e : folds ss = folds (ss.take n) ++ folds (ss.drop n) := by rw [← folds_append, List.take_append_drop]
      have hl : (ss.take n).length = n := by rw [List.length_take]; omega
      rw [e, clashTo_append _ _ _ (by rw [folds_len, hl]; omega)] at h3
      rw [hl]; exact h3
  · rw [clashOf_bad (by simpa using ha)] at h; omega

def digits29 : List UInt8 := [50, 51, 52, 53, 54, 55, 56, 57]
def cutName (s : Bs) (d : UInt8) : Bs := s.take 7 ++ [d]
def freeOf (names : List ByteArray) (s : Bs) : Bs :=
  if allFold names && (decide (clashOf names = -1) && !(foldName s).isEmpty) then
    if hasS (folds names) (mk (foldName s)) then
      match digits29.find? fun d => !hasS (folds names) (mk (foldName (cutName s d))) with
      | some d => cutName s d
      | none => []
    else s
  else []
theorem foldName_cut {s : Bs} {d : UInt8} (hs : (foldName s).isEmpty = false) (hd : digitC d = true) : (foldName (cutName s d)).isEmpty = false := by
  have h : 1 ≤ s.length ∧ s.length ≤ 8 ∧ s.all fineC = true := by
    by_cases h : 1 ≤ s.length ∧ s.length ≤ 8 ∧ s.all fineC = true
    · exact h
    · unfold foldName at hs; rw [if_neg h] at hs; simp at hs
  have hfd : foldC d = d := by
    unfold foldC; rw [if_neg]
    unfold digitC inI at hd; simp at hd; omega
  have h2 : 1 ≤ (cutName s d).length ∧ (cutName s d).length ≤ 8 ∧ (cutName s d).all fineC = true := by
    unfold cutName
    refine ⟨by simp, by simp; omega, ?_⟩
    rw [List.all_append, Bool.and_eq_true]
    refine ⟨?_, ?_⟩
    · rw [List.all_eq_true]; exact fun x hx => List.all_eq_true.1 h.2.2 x (List.mem_of_mem_take hx)
    · simp only [List.all_cons, List.all_nil, Bool.and_true]
      unfold fineC; rw [hfd, hd, Bool.or_true]
  have e : foldName (cutName s d) = (cutName s d).map foldC := by unfold foldName; rw [if_pos h2]
  rw [e]
  unfold cutName; simp
theorem cutName_len {s : Bs} {d : UInt8} : (cutName s d).length ≤ 8 := by unfold cutName; simp; omega
/-- A free name does not clash. -/
theorem free_fine {names : List ByteArray} {s : Bs} (h : freeOf names s ≠ []) : (foldName (freeOf names s)).isEmpty = false ∧ clashOf (names ++ [mk (freeOf names s)]) = -1 := by
  unfold freeOf at h ⊢
  split
  · rename_i hh
    rw [if_pos hh] at h
    simp only [Bool.and_eq_true, decide_eq_true_eq, Bool.not_eq_true'] at hh
    obtain ⟨ha, hc, hs⟩ := hh
    split
    · rename_i hhas
      rw [if_pos hhas] at h
      split
      · rename_i d hd
        have hm := List.mem_of_find?_eq_some hd
        have hp := List.find?_some hd
        have hdig : digitC d = true := by
          have : ∀ d ∈ digits29, digitC d = true := by decide
          exact this d hm
        have hf := foldName_cut hs hdig
        refine ⟨hf, ?_⟩
        have := clashOf_more (x := mk (cutName s d)) ha hc hf
        rw [this, if_neg]
        have e : bs (mk (cutName s d)) = cutName s d := rfl
        rw [e]; simpa using hp
      · rename_i hd; rw [hd] at h; exact absurd rfl h
    · rename_i hhas
      refine ⟨hs, ?_⟩
      have := clashOf_more (x := mk s) ha hc hs
      rw [this, if_neg]
      have e : bs (mk s) = s := rfl
      rw [e]; exact hhas
  · rename_i hh; rw [if_neg hh] at h; exact absurd rfl h
--END
end Go.Proofs.YtaeaccakkielmaaDoor

/- Free names: the program's. -/
set_option linter.unusedVariables false
namespace Go.Proofs.YtaeaccakkielmaaDoor
open Go.RowKit

/-! ### plain -/
def dg (k : Nat) : UInt8 := UInt8.ofNat (50 + k)
theorem dg_at {k : Nat} (h : k < 8) : digits29[k]'(by simp [digits29]; exact h) = dg k := by
  have : ∀ k : Fin 8, digits29[k.1]'(by simp [digits29]) = dg k.1 := by decide
  exact this ⟨k, h⟩
theorem dg_len : digits29.length = 8 := rfl
/-- No digit before the k-th will do. -/
def NoDg (P : UInt8 → Bool) (k : Nat) : Prop := ∀ x ∈ digits29.take k, P x = false
theorem NoDg.succ {P : UInt8 → Bool} {k : Nat} (h : NoDg P k) (hk : k < 8) (hp : P (dg k) = false) : NoDg P (k + 1) := by
  intro x hx
  rw [List.take_succ_eq_append_getElem (by rw [dg_len]; exact hk), List.mem_append, List.mem_singleton] at hx
  rcases hx with hx | rfl
  · exact h x hx
  · rw [dg_at hk]; exact hp
theorem NoDg.hit {P : UInt8 → Bool} {k : Nat} (h : NoDg P k) (hk : k < 8) (hp : P (dg k) = true) : digits29.find? P = some (dg k) := by
  have e : digits29 = digits29.take k ++ dg k :: digits29.drop (k + 1) := by
    have : dg k :: digits29.drop (k + 1) = digits29.drop k := by rw [← dg_at hk]; exact (List.drop_eq_getElem_cons (by rw [dg_len]; exact hk)).symm
    rw [this, List.take_append_drop]
  rw [e, List.find?_append, List.find?_eq_none.2 (fun x hx => by rw [h x hx]; simp), List.find?_cons, hp]; rfl
theorem NoDg.none {P : UInt8 → Bool} {k : Nat} (h : NoDg P k) (hk : ¬ k < 8) : digits29.find? P = none := by
  rw [List.find?_eq_none]; intro x hx
  rw [h x (by rw [List.take_of_length_le (by rw [dg_len]; omega)]; exact hx)]; simp
def dgFree (names : List ByteArray) (s : Bs) (d : UInt8) : Bool := !hasS (folds names) (mk (foldName (cutName s d)))
theorem freeOf_bad {names : List ByteArray} {s : Bs} (h : (allFold names && (decide (clashOf names = -1) && !(foldName s).isEmpty)) = false) : freeOf names s = [] := by
  unfold freeOf; rw [h]; rfl
theorem freeOf_own {names : List ByteArray} {s : Bs} (ha : allFold names = true) (hc : clashOf names = -1) (hs : (foldName s).isEmpty = false) (hh : hasS (folds names) (mk (foldName s)) = false) : freeOf names s = s := by
  unfold freeOf; rw [ha, hs, hh, if_pos (by simp [hc])]; rfl
theorem freeOf_dg {names : List ByteArray} {s : Bs} {d : UInt8} (ha : allFold names = true) (hc : clashOf names = -1) (hs : (foldName s).isEmpty = false) (hh : hasS (folds names) (mk (foldName s)) = true) (hd : digits29.find? (dgFree names s) = some d) : freeOf names s = cutName s d := by
  unfold freeOf; rw [ha, hs, hh, if_pos (by simp [hc]), if_pos rfl]
  show (match digits29.find? (dgFree names s) with | some d => cutName s d | none => []) = _
  rw [hd]
theorem freeOf_no {names : List ByteArray} {s : Bs} (ha : allFold names = true) (hc : clashOf names = -1) (hs : (foldName s).isEmpty = false) (hh : hasS (folds names) (mk (foldName s)) = true) (hd : digits29.find? (dgFree names s) = none) : freeOf names s = [] := by
  unfold freeOf; rw [ha, hs, hh, if_pos (by simp [hc]), if_pos rfl]
  show (match digits29.find? (dgFree names s) with | some d => cutName s d | none => []) = _
  rw [hd]
theorem cut_bs {s cut : ByteArray} {d : UInt8} (h : bs cut = (bs s).take 7) : bs (cut ++ mk [d]) = cutName (bs s) d := by
  have e : bs (cut ++ mk [d]) = bs cut ++ [d] := by
    show (cut ++ mk [d]).data.toList = _
    rw [ByteArray.data_append, Array.toList_append]; rfl
  rw [e, h]; rfl
theorem cut_bs_ext (s : ByteArray) {m : Nat} (h : min s.size 7 = m) : bs (s.extract 0 m) = (bs s).take 7 := by
  show (s.extract 0 m).data.toList = _
  rw [Lib.extract_data]
  have e : s.data.toList = bs s := rfl
  have hsz := size_bs s
  rw [e, List.drop_zero, Nat.sub_zero]
  by_cases h7 : s.size ≤ 7
  · have : m = s.size := by omega
    rw [this, List.take_of_length_le (by omega), List.take_of_length_le (by omega)]
  · have : m = 7 := by omega
    rw [this]
attribute [local go_sem] mk_toList
def StrBelow (s : ByteArray) (w : World) (e : Ending) (w' : World) : Prop := e = .returned (.string s) ∧ Below w.heap.size w w'
end Go.Proofs.YtaeaccakkielmaaDoor

/- Free names: the reference's. Written by gen_fn2.py. -/
set_option linter.unusedVariables false
namespace Go.Proofs.YtaeaccakkielmaaDoor
open Go.RowKit
attribute [local go_sem] mk_toList

theorem dg_digit {k : Nat} (h : k < 8) : digitC (dg k) = true := by
  have : ∀ k : Fin 8, digitC (dg k.1) = true := by decide
  exact this ⟨k, h⟩
end Go.Proofs.YtaeaccakkielmaaDoor

/- FnClashOf, walked. -/
set_option linter.unusedVariables false
namespace Go.Proofs.YtaeaccakkielmaaDoor
open Go.RowKit

end Go.Proofs.YtaeaccakkielmaaDoor

/- Free names: the law. Written by gen_fn2.py. -/
set_option linter.unusedVariables false
namespace Go.Proofs.YtaeaccakkielmaaDoor
open Go.RowKit
attribute [local go_sem] mk_toList
def DrawnNames (w : World) (e : Ending) (w' : World) : Prop :=
  ∃ (v : Value) (l : List ByteArray) (s : ByteArray), e = .returned (.tuple #[v, .string s]) ∧ Own w' w.heap.size 9 1 encS v l ∧ FewN 5 l ∧ s.size ≤ 60 ∧ Below w.heap.size w w'
theorem foldName_len {s : Bs} (h : (foldName s).isEmpty = false) : s.length ≤ 8 := by
  unfold foldName at h
  split at h
  · rename_i hh; exact hh.2.1
  · simp at h
section
variable {ops : Array Oper} {rest : List Oper} {o : Oper} {a : Act} {Q : Exit → Act → World → Prop} {w0 wr : World} {v : Value}
theorem app_strG {l m : List ByteArray} {A : Option Addr} {c : Nat} {s x : Operand} (hw : Region.wanted o (yielded ops a.tmps) = true) (ho : o.op = .call { callee := .builtin .append, args := #[s, x], argTypes := #[37, 37] })
    (hown : Own wr w0.heap.size 9 1 encS v l) (hb : Below w0.heap.size w0 wr) (hn : l.length + m.length ≤ 33554432) (hsl : Sl wr encS 1 A m) (hcz : A = none → c = 0)
    (hs : a.eval s = v) (hx : a.eval x = .slice A m.length c)
    (h : ∀ v' w', Own w' w0.heap.size 9 1 encS v' (l ++ m) → Below w0.heap.size w0 w' → Grew v wr w' → wpList Tryd.prog ops Q rest (a.put o.dst v') w') : wpList Tryd.prog ops Q (o :: rest) a wr :=
  wpList_step fun K hK => step_strN hw ho hown hb hn hsl hcz hs hx fun v' w' h1 h2 h3 => hK _ _ (h v' w' h1 h2 h3)
theorem app_strG1 {l : List ByteArray} {y : ByteArray} {s x : Operand} (hw : Region.wanted o (yielded ops a.tmps) = true) (ho : o.op = .call { callee := .builtin .append, args := #[s, x], argTypes := #[37, 37] })
    (hs : a.eval s = v) (hx : a.eval x = .slice (some ⟨wr.heap.size, 0, none⟩) 1 1)
    (hown : Own wr w0.heap.size 9 1 encS v l) (hb : Below w0.heap.size w0 wr) (hn : l.length ≤ 16777216)
    (h : ∀ v' w', Own w' w0.heap.size 9 1 encS v' (l ++ [y]) → Below w0.heap.size w0 w' → wpList Tryd.prog ops Q rest (a.put o.dst v') w') :
    wpList Tryd.prog ops Q (o :: rest) a (wr.alloc (.cells #[.string y] 9)) :=
  wpList_step fun K hK => step_str_d (w0 := w0) (W := wr.alloc (rowS y)) (hown.alloc _) (hb.alloc hb.size _) (StrAt.new wr y) hn hw ho hs hx fun v' w' h1 h2 => hK _ _ (h v' w' h1 h2)
end
end Go.Proofs.YtaeaccakkielmaaDoor

/- FnQuotasValid, walked. -/
set_option linter.unusedVariables false
namespace Go.Proofs.YtaeaccakkielmaaDoor
open Go.RowKit
theorem Sl.tail {α : Type} {enc : α → List Value} {w : World} {size b o : Nat} {x : α} {r : List α} (he : ∀ x, (enc x).length = size) (h : Sl w enc size (some ⟨b, o, none⟩) (x :: r)) : Sl w enc size (some ⟨b, o + size, none⟩) r := by
  intro hn
  obtain ⟨b', o', e, hc⟩ := h (by simp)
  injection e with e; injection e with e1 e2
  subst e1 e2
  refine ⟨_, _, rfl, fun j u hu => ?_⟩
  have := hc (size + j) u (by
    unfold flat at hu ⊢
    rw [List.flatMap_cons, List.getElem?_append_right (by rw [he]; omega), he, Nat.add_sub_cancel_left]; exact hu)
  rw [Nat.add_assoc]; exact this
theorem FewQ.fit {l : List Qt} (h : FewQ l) : FitQ l := fun q hq => Nat.le_trans (h.2 q hq) (by omega)
section
variable {ops : Array Oper} {rest : List Oper} {o : Oper} {a : Act} {Q : Exit → Act → World → Prop} {w0 wr : World} {v : Value}
theorem app_qtG {l m : List Qt} {A : Option Addr} {c : Nat} {s x : Operand} (hw : Region.wanted o (yielded ops a.tmps) = true) (ho : o.op = .call { callee := .builtin .append, args := #[s, x], argTypes := #[25, 25] })
    (hown : Own wr w0.heap.size 33 2 encQ v l) (hb : Below w0.heap.size w0 wr) (hn : l.length + m.length ≤ 33554432) (hsl : Sl wr encQ 2 A m) (hcz : A = none → c = 0)
    (hs : a.eval s = v) (hx : a.eval x = .slice A m.length c)
    (h : ∀ v' w', Own w' w0.heap.size 33 2 encQ v' (l ++ m) → Below w0.heap.size w0 w' → Grew v wr w' → wpList Tryd.prog ops Q rest (a.put o.dst v') w') : wpList Tryd.prog ops Q (o :: rest) a wr := by
  obtain ⟨i0, hi0, hz0, hz1, hz2⟩ := info_parts qt_info
  exact wpList_step fun K hK => step_appW Tryd.underlying25 hi0 hz0 hz1 hz2 rfl (by decide) (by decide) hw s x ho hown hb (Nat.le_refl _) hb.size hn hsl hcz (fun _ => rfl) oneQ hs hx fun v' w' h1 h2 h3 => hK _ _ (h v' w' h1 h2 h3)
end
set_option maxHeartbeats 4000000 in
set_option maxRecDepth 100000 in
theorem wFnQuotasValid (A : Option Addr) (n c : Nat) (w : World) (hb : BytesIn w A n c) (hm : MaxL w) : Calls Tryd.prog 4 #[.slice A n c] w (LawOk w) := by
  by_cases h : n ≤ 1048576
  case neg =>
    go_enter Tryd.func4, Tryd.ntmps4
    go_wp2
    go_ret
    exact ⟨rfl, Below.refl _ _⟩
  have HBI := Lib.hid hb
  have HM := Lib.hid hm
  clear hb hm
  go_enter Tryd.func4, Tryd.ntmps4
  go_wp2_with fail
  refine (DrawQuotasValid_any _ _ _ _ HBI.out).mono ?_
  rintro e w1 ⟨v1, l, rfl, hown1, hf1, hb1⟩
  obtain ⟨A1, c1, rfl, hle, hs1, _⟩ := hown1.sl
  have HS1 := Lib.hid hs1
  have HB1 := Lib.hid hb1
  have HF1 := Lib.hid hf1.fit
  have HM1 := Lib.hid (HM.out.below hb1)
  have hl1 := hf1.1
  have HC1 := Lib.hid hown1.cz
  clear hown1 hs1 hb1 hf1
  have HI := Lib.hid (fun w h => iQuotasValid_any A1 c1 l w h hle (by omega) HF1.out)
  have HS := Lib.hid (fun w h => sQuotasValid_any A1 c1 l w h (by omega) HF1.out)
  go_wp2_with fail
  refine (HI.out _ HS1.out HM1.out).mono ?_
  rintro e w2 ⟨rfl, hb2⟩
  have HB2 := Lib.hid (Below_then HB1.out hb2 (Nat.le_refl _))
  have HM2 := Lib.hid (HM1.out.below hb2)
  have HS2 := Lib.hid (HS1.out.below hb2)
  clear hb2
  cases hq : quoV l
  case false =>
    rw [hq] at HS
    go_wp2_with fail
    refine (HS.out _ HS2.out).mono ?_
    rintro e w3 ⟨rfl, hb3⟩
    have HB3 := Lib.hid (Below_then HB2.out hb3 (Nat.le_refl _))
    clear hb3
    go_wp2_with (go_at_call 13; refine (alive_any _).mono ?_; rintro e w' ⟨rfl, rfl⟩)
    go_ret
    exact ⟨rfl, HB3.out⟩
  case true =>
    rw [hq] at HS
    cases l with
    | nil =>
      go_wp2_with fail
      refine (HS.out _ HS2.out).mono ?_
      rintro e w3 ⟨rfl, hb3⟩
      have HB3 := Lib.hid (Below_then HB2.out hb3 (Nat.le_refl _))
      clear hb3
      go_wp2_with (go_at_call 13; refine (alive_any _).mono ?_; rintro e w' ⟨rfl, rfl⟩)
      go_ret
      exact ⟨rfl, HB3.out⟩
    | cons q r =>
      have htl := quoV_tail hq
      have hdup := quoV_dup q r
      have hfr : FitQ r := fun x hx => HF1.out x (by simp [hx])
      have hfd : FitQ (q :: q :: r) := fun x hx => HF1.out x (by simp at hx; simpa using hx)
      obtain ⟨b, o, rfl, hc0', hc1'⟩ := HS2.out.getQ (k := 0) (by simp)
      have hc0 : w2.cell? ⟨b, o, none⟩ = some (.string q.1) := by simpa using hc0'
      have hc1 : w2.cell? ⟨b, o + 1, none⟩ = some (.int .i64 q.2) := by simpa using hc1'
      clear hc0' hc1'
      have HCZ := Lib.hid (show ∀ c : Nat, ((some (⟨b, o, none⟩ : Addr)) = none → c = 0) from fun c h => by cases h)
      have HST := Lib.hid (Sl.tail (enc := encQ) (size := 2) (fun _ => rfl) HS2.out)
      have HIT := Lib.hid (fun A c w h h2 => htl ▸ iQuotasValid_any A c r w h h2 (by simp at hl1; omega) hfr)
      have HID := Lib.hid (fun A c w h h2 => hdup ▸ iQuotasValid_any A c (q :: q :: r) w h h2 (by simp at hl1 ⊢; omega) hfd)
      clear htl hdup hfr hfd
      simp only [List.length_cons] at *
      go_wp2_with fail
      refine (HS.out _ HS2.out).mono ?_
      rintro e w3 ⟨rfl, hb3⟩
      have HB3 := Lib.hid (Below_then HB2.out hb3 (Nat.le_refl _))
      have HS3 := Lib.hid (HS2.out.below hb3)
      have HST3 := Lib.hid (HST.out.below hb3)
      have HM3 := Lib.hid (HM2.out.below hb3)
      have hd0 := Below_cells hb3 _ _ _ hc0
      have hd1 := Below_cells hb3 _ _ _ hc1
      clear hb3 hc0 hc1
      go_wp2_with fail
      all_goals
        refine (HIT.out _ _ _ (by first | exact HST3.out | (have hr : r = [] := List.eq_nil_of_length_eq_zero (by omega); subst hr; exact Sl.none_)) (by omega) HM3.out).mono ?_
        rintro e w4 ⟨rfl, hb4⟩
        have HB4 := Lib.hid (Below_then HB3.out hb4 (Nat.le_refl _))
        have HS4 := Lib.hid (HS3.out.below hb4)
        have HM4 := Lib.hid (HM3.out.below hb4)
        have he0 := Below_cells hb4 _ _ _ hd0
        have he1 := Below_cells hb4 _ _ _ hd1
        have HO4 := Lib.hid (own_of_heap (W := w4.alloc (rowQ q)) (base := w4.heap.size) (enc := encQ) (size := 2) (l := [q]) (fun _ => rfl) (heap_alloc_new w4 _) (Nat.le_refl _) (by unfold maxLen; simp))
        clear hb4
        go_wp2_with (at_builtin; refine app_qtG (w0 := w4) (l := [q]) (m := q :: r) (by rfl) rfl HO4.out ((Below.refl _ _).alloc (Nat.le_refl _) _) (by simp; omega) (HS4.out.alloc _) (HCZ.out _) (by rfl) (by rfl) ?_; intro v5 w5 hown5 hb5 hg5; have HO5 := Lib.hid hown5; have HB5 := Lib.hid hb5; clear hown5 hb5 hg5)
        obtain ⟨X, d, ev, hle5, hs5, _⟩ := HO5.out.sl
        simp only [List.singleton_append, List.length_cons] at ev hle5
        subst ev
        have HS5 := Lib.hid hs5
        have HM5 := Lib.hid (HM4.out.below HB5.out)
        have HB5' := Lib.hid (Below_then HB4.out HB5.out (Nat.le_refl _))
        go_wp2_with fail
        refine (HID.out _ _ _ HS5.out hle5 HM5.out).mono ?_
        rintro e w6 ⟨rfl, hb6⟩
        have HB6 := Lib.hid (Below_then HB5'.out hb6 (Nat.le_refl _))
        clear hb6
        go_wp2
        go_ret
        exact ⟨rfl, HB6.out⟩
end Go.Proofs.YtaeaccakkielmaaDoor

/- The frame of a law whose row lists variables of the library: the world's shape is kept beside the condition. -/
set_option linter.unusedVariables false
namespace Go.Proofs.YtaeaccakkielmaaDoor
open Go Go.ChangeShapes Go.WideShapes
variable {H : Type} {enc : TypeId × Value → H}
theorem returns_and_shaped {a : Assume} {C : Checked} {os : Os} {f : FuncId} {fn : Func} {s : ChangeSpec} {conds : List PathCond} {apart fresh handsOn again : Bool} {X : World → Array Value → Prop}
    (hX : ∀ (w w' : World) (args : Array Value), w.heap = w'.heap → X w args → X w' args)
    (own : ownKnob C.prog.godebug = none) (started : os.Started) (noInit : C.prog.inits.idxOf? f = none) (hfn : C.prog.funcs[f]? = some fn)
    (witness : ∃ (w : World) (tape : Tape) (i : Input), w.os = os ∧ (w.forCall tape i).Shaped C.prog ∧ i.vars = [] ∧ Input.okWide C.prog (w.forCall tape i) .any w.heap.size f i ∧
      ((s.pre enc C.prog fn conds apart (w.forCall tape i).memory i.args ∧ X (w.forCall tape i).memory i.args) ∧ sizedMet enc C.prog fn (OpenSpec.ofChange s) apart (w.forCall tape i).memory i.args) ∧ a.holds C.prog (lone (Frame.enter C.prog f i.args .normal) [] (w.forCall tape i)))
    (contract : ∀ (W : World) (base : Nat) (args : Array Value) (ds gs : List (DataW H)) (before : List MemPlace),
      (∀ (j : Nat) t v, fn.params[j]? = some t → args[j]? = some v → Value.okWide C.prog W .any base t v) →
      DataW.Whole enc C.prog fn.params.toList s.vars apart W args.toList ds gs before → W.ShapedOpen C.prog → X W args →
      Calls C.prog f args W fun e W' => ∃ v, e = .returned v ∧ s.post enc C.prog fn apart fresh handsOn again W args v W') :
    ReturnsInHanded a C os f .any (fun w args => (s.pre enc C.prog fn conds apart w args ∧ X w args) ∧ sizedMet enc C.prog fn (OpenSpec.ofChange s) apart w args) (s.post enc C.prog fn apart fresh handsOn again) := by
  refine returnsInHanded_of_calls own started noInit witness ?_
  intro w tape i _ hsh _ hok hpre hholds
  obtain ⟨_, _, _, fn', hfn', _, _, _, _, hval⟩ := hok
  have e : fn' = fn := Option.some.inj (hfn'.symm.trans hfn)
  subst e
  obtain ⟨⟨⟨ds, gs, before, hw, hc⟩, hx⟩, hz⟩ := hpre
  have hw' := DataW.Whole.of_heap (w' := w.forCall tape i) (by rfl) hw
  refine (contract (w.forCall tape i) w.heap.size i.args ds gs before hval hw' hsh (hX _ _ _ (by rfl) hx)).mono fun e W' ⟨v, he, hp⟩ => ?_
  subst he
  exact ChangeSpec.post_blind hp
end Go.Proofs.YtaeaccakkielmaaDoor
