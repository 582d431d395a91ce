/- Texts in one: Sl, Eq, Nm, Mx, Wo, Fi, Dr1, Fi2, Ap, Far, Mk, W3, St, Qt, Nu, Za, Ct, Fb, Ht, Rp, Dm, Tr, Tr2, Tp, Tr3, Pr, Dr2, Dr3, Ap2, Co, Inv, Ap3, En, Ne, STag, SVersion, R3, Rf, Rw, Zb, Zc, Va, L1. -/
import Derived.Test.YtedcgbmdfmgcgaaGreatDoorW1
import Derived.Test.YtedcgbmdfmgcgaaGreatDoorW2
import Derived.Test.YtedcgbmdfmgcgaaGreatDoorGa0
import Derived.Test.YtedcgbmdfmgcgaaGreatDoorShelf
import Derived.Laws.BitsAllLaws
import Derived.Laws.BitsLemmas
import Derived.Test.YtedcgbmdfmgcgaaGreatDoorRd
import Derived.Lib.IndexBytes
import Derived.Laws.AppendOwnNone
import Derived.Laws.CopyRow
import Derived.Laws.IdiomCopy
import Derived.Lib.AppendZerosOnto
import Derived.Lib.Overlaps
import Derived.Shelf.Spec.SlicesInsert
import Derived.Laws.StructEq
/- Slices of the law's own: made and filled; sizes. -/
set_option linter.unusedVariables false
namespace Go.Proofs.YtedcgbmdfmgcgaaGreatDoor
open Go.RowKit

/-- Block g is a row of N cells whose first cells are 'done'. -/
def Filled (wr : World) (g N : Nat) (E : TypeId) (done : List Value) : Prop :=
  ∃ cs : Array Value, wr.heap[g]? = some (.cells cs E (0, 0)) ∧ cs.size = N ∧ done.length ≤ N ∧ cs.toList.take done.length = done
section
variable {wr : World} {g N : Nat} {E : TypeId} {done : List Value}
theorem Filled.cell (h : Filled wr g N E done) {j : Nat} (hj : j < N) : ∃ u, wr.cell? ⟨g, j, none⟩ = some u := by
  obtain ⟨cs, hg, hs, _, _⟩ := h
  exact ⟨cs[j], by rw [cell_of_row wr g j cs E (0, 0) hg, Array.getElem?_eq_getElem (by omega)]⟩
theorem Filled.free (h : Filled wr g N E done) (j : Nat) : wr.frozen? ⟨g, j, none⟩ = false := by
  obtain ⟨cs, hg, _⟩ := h
  exact frozen_of_row wr g j cs E hg
theorem Filled.store (h : Filled wr g N E done) (u : Value) (hj : done.length < N) : Filled (wr.setCell ⟨g, done.length, none⟩ u) g N E (done ++ [u]) := by
  obtain ⟨cs, hg, hs, hd, ht⟩ := h
  refine ⟨cs.setIfInBounds done.length u, heap_setCell_same wr g _ cs E u hg, by simpa using hs, by simp; omega, ?_⟩
  rw [List.length_append, List.length_singleton, Array.toList_setIfInBounds, List.take_succ_eq_append_getElem (by simp; omega)]
  rw [List.take_set_of_le (by omega), ht]
  simp
theorem Filled.drew (h : Filled wr g N E done) : Filled wr.drew g N E done := h
theorem Filled.drewN (h : Filled wr g N E done) (n : Nat) : Filled (wr.drewN n) g N E done := h
theorem Filled.below (h : Filled wr g N E done) {w' : World} (hb : Below wr.heap.size wr w') : Filled w' g N E done := by
  obtain ⟨cs, hg, r⟩ := h
  exact ⟨cs, (hb.block g (Array.getElem?_eq_some_iff.1 hg).1).trans hg, r⟩
theorem Filled.own {α : Type} {enc : α → List Value} {l : List α} {size base : Nat} (h : Filled wr g (l.length * size) E (flat enc l)) (he : ∀ x, (enc x).length = size) (hb : base ≤ g) (hm : l.length ≤ maxLen) :
    Own wr base E size enc (.slice (some ⟨g, 0, none⟩) l.length l.length) l := by
  obtain ⟨cs, hg, hs, hd, ht⟩ := h
  refine ⟨flat_length he l, .inr ⟨g, l.length, cs, rfl, hb, hg, Nat.le_refl _, hm, hs, ?_⟩⟩
  rw [← flat_length he l]; exact ht
end
theorem Filled.made (w : World) (z : Array Value) (N : Nat) (E : TypeId) : Filled (w.alloc (.cells (madeCells z N) E)) w.heap.size N E [] :=
  ⟨_, heap_alloc_new w _, size_madeCells z N, Nat.zero_le _, rfl⟩
theorem make_row {P : Program} (t e : TypeId) (i : TypeInfo) (z : Value) (ht : P.underlying t = some (.slice e)) (hi : P.info? e = some i) (hz : i.zero = some z) (n : Nat) (hn : n ≤ 16777216) (hb : i.bytes ≤ 256) (w : World) :
    (Instr.makeSlice t (.int .i64 (n : Int)) (.int .i64 (n : Int))).run P w = .ok (.slice (some ⟨w.heap.size, 0, none⟩) n n) (w.alloc (.cells (madeCells z.cells (n * i.size)) e)) := by
  have hbb : (i.bytes : Int) * (n : Int) ≤ 281474976710656 := by
    have h : i.bytes * n ≤ 256 * 16777216 := Nat.mul_le_mul hb hn
    have h2 : ((i.bytes * n : Nat) : Int) ≤ 281474976710656 := by omega
    rwa [Int.natCast_mul] at h2
  have hr := run_make (P := P) w t e i z ht hi hz .i64 .i64 (n : Int) (n : Int) (by omega) (Int.le_refl _) hbb (by omega)
  simpa using hr

/-! ### slices of strings -/
theorem flatS_len (l : List ByteArray) : (flat encS l).length = l.length := by rw [flat_length (size := 1) (fun _ => rfl), Nat.mul_one]
theorem flatS_take {l : List ByteArray} {k : Nat} (h : k < l.length) : flat encS (l.take (k + 1)) = flat encS (l.take k) ++ [.string l[k]] := by
  rw [List.take_succ_eq_append_getElem h, flat_snoc]; rfl
/-- What is told of a slice of numbers that came in. -/
def IntsIn (w : World) (A : Option Addr) (n c : Nat) : Prop := ∃ l : List Int, l.length = n ∧ n ≤ c ∧ c ≤ maxLen ∧ Sl w encI 1 A l
/-- What is told of a slice of strings that came in. -/
def StrsIn (w : World) (A : Option Addr) (n c : Nat) : Prop := ∃ ss : List ByteArray, ss.length = n ∧ n ≤ c ∧ c ≤ maxLen ∧ Sl w encS 1 A ss ∧ ∀ s ∈ ss, s.size ≤ maxLen
end Go.Proofs.YtedcgbmdfmgcgaaGreatDoor

/- Comparisons of two slices that hold the same. -/
set_option linter.unusedVariables false
namespace Go.Proofs.YtedcgbmdfmgcgaaGreatDoor
open Go.RowKit
/-- wr is w after some draws. -/
def Drawn_ (w wr : World) : Prop := ∃ n, wr = w.drewN n
theorem Drawn_.drewN {w wr : World} (h : Drawn_ w wr) (m : Nat) : Drawn_ w (wr.drewN m) := by
  obtain ⟨n, rfl⟩ := h; exact ⟨n + m, by rw [World.drewN_drewN]⟩
theorem Sl.drawn_ {α : Type} {enc : α → List Value} {w wr : World} {size : Nat} {A : Option Addr} {l : List α} (h : Sl w enc size A l) (hd : Drawn_ w wr) : Sl wr enc size A l := by
  obtain ⟨n, rfl⟩ := hd; exact h
theorem Drawn_.below {w wr : World} (h : Drawn_ w wr) : Below w.heap.size w wr := by
  obtain ⟨n, rfl⟩ := h; exact Below_drewN (Below.refl _ _) n

set_option maxHeartbeats 2000000 in
set_option maxRecDepth 100000 in
theorem l_sameTexts_same (A B : Option Addr) (c d : Nat) (l : List ByteArray) (w : World) (ha : Sl w encS 1 A l) (hb : Sl w encS 1 B l) (hl : l.length ≤ 16777216) :
    Calls Tryz.prog 21 #[.slice A l.length c, .slice B l.length d] w fun e w' => e = .returned (.bool true) ∧ Drawn_ w w' := by
  have HA := Lib.hid ha
  have HB := Lib.hid hb
  clear ha hb
  go_enter Tryz.func21, Tryz.ntmps21
  go_wp2
  go_loopw [5] (fun i wr => ∃ (k : Nat), k ≤ l.length ∧ i = .int .i64 k ∧ Drawn_ w wr) (fun i _ => l.length - (intOf i).toNat)
  case atStart => exact ⟨0, Nat.zero_le _, rfl, 0, rfl⟩
  case round =>
    obtain ⟨k, hk, rfl, hw⟩ := hrel
    by_cases hlt : k < l.length
    · obtain ⟨b1, o1, rfl, hc1⟩ := (HA.out.drawn_ hw).getS hlt
      obtain ⟨b2, o2, rfl, hc2⟩ := (HB.out.drawn_ hw).getS hlt
      go_wp2
      go_quiet (fail)
      go_wp2
      go_roundw
      case rel => exact ⟨k + 1, by omega, by go_num, hw.drewN _⟩
      case measure => simp [intOf]; omega
    · go_wp2
      go_ret
      exact ⟨rfl, hw⟩
end Go.Proofs.YtedcgbmdfmgcgaaGreatDoor

/- Names: folds, Contains, ClashOf of the program. -/
set_option linter.unusedVariables false
namespace Go.Proofs.YtedcgbmdfmgcgaaGreatDoor
open Go.RowKit
attribute [local go_sem] mk_toList
theorem eq_toList (a b : ByteArray) : (a.toList == b.toList) = (bs a == bs b) := by rw [ByteArray.toList_eq, ByteArray.toList_eq]

/-! ### plain: the first index -/
def idxIn (l : List ByteArray) (x : ByteArray) (r : Int) : Prop := if (l.any fun y => bs x == bs y) then 0 ≤ r else r < 0
def hasS (l : List ByteArray) (x : ByteArray) : Bool := l.any fun y => bs x == bs y
def NotYet (l : List ByteArray) (x : ByteArray) (k : Nat) : Prop := ∀ y ∈ l.take k, (bs x == bs y) = false
theorem NotYet.succ {l : List ByteArray} {x : ByteArray} {k : Nat} (h : NotYet l x k) (hk : k < l.length) (hx : (bs x == bs l[k]) = false) : NotYet l x (k + 1) := by
  intro y hy
  rw [List.take_succ_eq_append_getElem hk, List.mem_append, List.mem_singleton] at hy
  rcases hy with hy | rfl
  · exact h y hy
  · exact hx
theorem NotYet.none {l : List ByteArray} {x : ByteArray} {k : Nat} (h : NotYet l x k) (hk : ¬ k < l.length) : hasS l x = false := by
  unfold hasS; rw [List.any_eq_false]; intro y hy
  rw [h y (by rw [List.take_of_length_le (by omega)]; exact hy)]; simp
theorem hasS_at {l : List ByteArray} {x : ByteArray} {k : Nat} (hk : k < l.length) (hx : (bs x == bs l[k]) = true) : hasS l x = true := by
  unfold hasS; rw [List.any_eq_true]; exact ⟨l[k], by simp, hx⟩
def IndexR (l : List ByteArray) (x : ByteArray) (w : World) (e : Ending) (w' : World) : Prop := ∃ r : Int, e = .returned (.int .i64 r) ∧ (hasS l x = true → 0 ≤ r) ∧ (hasS l x = false → r = -1) ∧ w = w'

set_option maxHeartbeats 2000000 in
set_option maxRecDepth 100000 in
theorem IndexS_any (A : Option Addr) (c : Nat) (l : List ByteArray) (x : ByteArray) (w : World) (hs : Sl w encS 1 A l) (hl : l.length ≤ 16777216) :
    Calls Tryz.prog 95 #[.slice A l.length c, .string x] w (IndexR l x w) := by
  have HS := Lib.hid hs
  clear hs
  go_enter Tryz.func95, Tryz.ntmps95
  go_wp2
  go_loop [8] (fun i => ∃ k : Nat, k ≤ l.length ∧ i = .int .i64 k ∧ NotYet l x k) (fun i => l.length - (intOf i).toNat)
  case atStart => exact ⟨0, Nat.zero_le _, rfl, by intro y hy; simp at hy⟩
  case round =>
    obtain ⟨k, hk, rfl, hn⟩ := hrel
    by_cases hlt : k < l.length
    · obtain ⟨b, o, rfl, hc⟩ := HS.out.getS hlt
      cases hx : (x.toList == l[k].toList)
      · go_wp2
        go_round
        case rel => exact ⟨k + 1, by omega, by go_num, hn.succ hlt (by rw [← eq_toList]; exact hx)⟩
        case measure => simp [intOf]; omega
      · have H := Lib.hid (hasS_at hlt (by rw [← eq_toList]; exact hx))
        go_wp2
        go_ret
        exact ⟨_, rfl, (fun _ => by omega), (fun h => by rw [H.out] at h; cases h), rfl⟩
    · have H := Lib.hid (hn.none hlt)
      go_wp2
      go_ret
      exact ⟨_, rfl, (fun h => by rw [H.out] at h; cases h), (fun _ => rfl), rfl⟩
set_option maxHeartbeats 2000000 in
set_option maxRecDepth 100000 in
theorem ContainsS_any (A : Option Addr) (c : Nat) (l : List ByteArray) (x : ByteArray) (w : World) (hs : Sl w encS 1 A l) (hl : l.length ≤ 16777216) :
    Calls Tryz.prog 53 #[.slice A l.length c, .string x] w fun e w' => e = .returned (.bool (hasS l x)) ∧ w = w' := by
  have HS := Lib.hid hs
  clear hs
  go_enter Tryz.func53, Tryz.ntmps53
  go_wp2_with fail
  refine (IndexS_any _ _ _ _ _ HS.out hl).mono ?_
  rintro e w' ⟨r, rfl, h1, h2, rfl⟩
  have H1 := Lib.hid h1
  have H2 := Lib.hid h2
  clear h1 h2
  go_wp2
  go_ret
  refine ⟨ret_bool ?_, rfl⟩
  cases hh : hasS l x with
  | true => have := H1.out hh; simp; omega
  | false => have := H2.out hh; simp; omega

/-! ### folds -/
def folds (ss : List ByteArray) : List ByteArray := ss.map fun s => mk (foldName (bs s))
def allFold (ss : List ByteArray) : Bool := ss.all fun s => !(foldName (bs s)).isEmpty
theorem folds_take {ss : List ByteArray} {k : Nat} (h : k < ss.length) : folds (ss.take (k + 1)) = folds (ss.take k) ++ [mk (foldName (bs ss[k]))] := by
  unfold folds; rw [List.take_succ_eq_append_getElem h, List.map_append]; rfl
theorem folds_len (ss : List ByteArray) : (folds ss).length = ss.length := by simp [folds]
def FoldsR (ss : List ByteArray) (w : World) (e : Ending) (w' : World) : Prop :=
  ∃ v, e = .returned (.tuple #[v, .bool (allFold ss)]) ∧ Own w' w.heap.size 9 1 encS v (if allFold ss then folds ss else []) ∧ Below w.heap.size w w'

/-! ### clashes -/
/-- The first place before 'k' whose text is one before it; -1 if there is none. -/
def clashTo (fs : List ByteArray) : Nat → Int
  | 0 => -1
  | k + 1 => if 0 ≤ clashTo fs k then clashTo fs k else if hasS (fs.take k) (fs.getD k ⟨#[]⟩) then k else -1
def clashOf (ss : List ByteArray) : Int := if allFold ss then clashTo (folds ss) ss.length else -1
theorem clashTo_lt (fs : List ByteArray) : ∀ k, clashTo fs k < k ∧ -1 ≤ clashTo fs k
  | 0 => by simp [clashTo]
  | k + 1 => by
    have := clashTo_lt fs k
    unfold clashTo; split
    · omega
    · split <;> omega
theorem clashTo_no {fs : List ByteArray} {k : Nat} (h : clashTo fs k = -1) (hn : hasS (fs.take k) (fs.getD k ⟨#[]⟩) = false) : clashTo fs (k + 1) = -1 := by
  unfold clashTo; rw [if_neg (by omega), if_neg (by rw [hn]; simp)]
theorem clashTo_yes {fs : List ByteArray} {k : Nat} (h : clashTo fs k = -1) (hn : hasS (fs.take k) (fs.getD k ⟨#[]⟩) = true) : clashTo fs (k + 1) = k := by
  unfold clashTo; rw [if_neg (by omega), if_pos hn]
theorem clashTo_keep {fs : List ByteArray} {k : Nat} (h : 0 ≤ clashTo fs k) : clashTo fs (k + 1) = clashTo fs k := by
  rw [clashTo, if_pos h]
theorem clashTo_stays {fs : List ByteArray} {k : Nat} (h : 0 ≤ clashTo fs k) : ∀ n, clashTo fs (k + n) = clashTo fs k
  | 0 => rfl
  | n + 1 => by
    have ih := clashTo_stays h n
    rw [← Nat.add_assoc, clashTo_keep (by rw [ih]; exact h), ih]
theorem getD_at {fs : List ByteArray} {k : Nat} (h : k < fs.length) : fs.getD k ⟨#[]⟩ = fs[k] := by
  rw [List.getD_eq_getElem?_getD, List.getElem?_eq_getElem h]; rfl
theorem Sl.take {α : Type} {enc : α → List Value} {w : World} {size : Nat} {A : Option Addr} {l : List α} (h : Sl w enc size A l) (k : Nat) : Sl w enc size A (l.take k) := by
  intro hn
  obtain ⟨b, o, e, hc⟩ := h (by rw [List.length_take] at hn; omega)
  refine ⟨b, o, e, fun j u hu => hc j u ?_⟩
  have hf : flat enc l = flat enc (l.take k) ++ flat enc (l.drop k) := by rw [← flat_append, List.take_append_drop]
  rw [hf, List.getElem?_append_left (List.getElem?_eq_some_iff.1 hu).1]; exact hu
end Go.Proofs.YtedcgbmdfmgcgaaGreatDoor

/- The library's variable MaxLen. -/
set_option linter.unusedVariables false
namespace Go.Proofs.YtedcgbmdfmgcgaaGreatDoor
open Go.RowKit
/-- The library's own variable holds some number. -/
def MaxL (w : World) : Prop := ∃ m, w.cell? ⟨0, 0, none⟩ = some (.int .i64 m)
theorem MaxL.below {w w' : World} (h : MaxL w) (hb : Below w.heap.size w w') : MaxL w' := by
  obtain ⟨m, hm⟩ := h; exact ⟨m, Below_cells hb _ _ _ hm⟩
theorem MaxL.lt {w : World} (h : MaxL w) : 0 < w.heap.size := by
  obtain ⟨m, hm⟩ := h; exact World.block_lt_of_cell? w _ hm
end Go.Proofs.YtedcgbmdfmgcgaaGreatDoor

/- Words of a text, walked. -/
set_option linter.unusedVariables false
namespace Go.Proofs.YtedcgbmdfmgcgaaGreatDoor
open Go.RowKit

def spB : ByteArray := ⟨#[32]⟩
def SplitR (s : ByteArray) (w : World) (e : Ending) (w' : World) : Prop :=
  ∃ A c, e = .returned (.slice A (spl [] (bs s)).length c) ∧ Sl w' encS 1 A ((spl [] (bs s)).map mk) ∧ Below w.heap.size w w'
theorem SplitSp_any (s : ByteArray) (w : World) (hs : s.size ≤ 16777216) (hm : MaxL w) : Calls Tryz.prog 96 #[.string s, .string ⟨#[32]⟩] w (SplitR s w) := by
  obtain ⟨m, hm⟩ := hm
  refine (Tryz.strings_Split s ⟨#[32]⟩ m w (by omega) hm (by decide)).mono fun e w' ⟨h1, h2⟩ => ?_
  refine ⟨_, _, by rw [h1, countB_spl], ?_, by rw [h2]; exact (Below.refl _ _).alloc (Nat.le_refl _) _⟩
  intro _
  refine ⟨w.heap.size, 0, rfl, fun j u hu => ?_⟩
  rw [h2, splitB_spl, cell_of_row _ _ _ _ _ (0, 0) (heap_alloc_new w _)]
  rw [Nat.zero_add]
  have e : flat encS ((spl [] (bs s)).map mk) = ((spl [] (bs s)).map mk).map Value.string := by
    unfold flat
    induction (spl [] (bs s)).map mk with
    | nil => rfl
    | cons x r ih => rw [List.flatMap_cons, ih]; rfl
  rw [e] at hu
  simpa using hu
theorem hasS_map (l : List Bs) (q : Bs) : hasS (l.map mk) (mk q) = l.contains q := by
  unfold hasS
  rw [List.any_map]
  rw [Bool.eq_iff_iff]
  simp only [List.any_eq_true, List.contains_eq_mem, decide_eq_true_eq]
  constructor
  · rintro ⟨y, hy, h⟩
    have h2 : (q == y) = true := h
    rw [beq_iff_eq] at h2; rw [h2]; exact hy
  · intro h
    refine ⟨q, h, ?_⟩
    show (q == q) = true
    exact beq_self_eq_true q
def wordsB (s : ByteArray) : List ByteArray := (wordsOf (bs s)).map mk
theorem wordsB_len (s : ByteArray) : (wordsB s).length ≤ 61 := by unfold wordsB; rw [List.length_map]; exact wordsOf_len _
theorem addW_no {l : List Bs} {q : Bs} (h : wordV q = false ∨ l.contains q = true) : addW l q = l := by
  unfold addW
  rcases h with h | h
  · rw [h]; rfl
  · rw [h]; simp
theorem addW_yes {l : List Bs} {q : Bs} (h : wordV q = true) (h2 : l.contains q = false) : addW l q = l ++ [q] := by
  unfold addW; rw [h, h2]; rfl
theorem foldl_take {ps : List Bs} {k : Nat} (h : k < ps.length) : (ps.take (k + 1)).foldl addW [] = addW ((ps.take k).foldl addW []) ps[k] := by
  rw [List.take_succ_eq_append_getElem h, List.foldl_append]; rfl
theorem map_at {l : List Bs} {k : Nat} (h : k < l.length) : (l.map mk)[k]'(by rw [List.length_map]; exact h) = mk l[k] := by simp
set_option maxHeartbeats 4000000 in
set_option maxRecDepth 100000 in
theorem iWordsOf_any (s : ByteArray) (w : World) (hs : s.size ≤ 16777216) (hm : MaxL w) :
    Calls Tryz.prog 54 #[.string s] w (OwnRes 9 1 encS (wordsB s) w) := by
  have HM := Lib.hid hm
  clear hm
  have hTV := fun w => iTextValid_any s w hs
  cases hv : textV (bs s)
  · have e : wordsB s = [] := by unfold wordsB wordsOf; rw [hv]; rfl
    rw [e]
    rw [hv] at hTV
    have HTV := Lib.hid hTV
    clear hTV hv e
    go_enter Tryz.func54, Tryz.ntmps54
    go_wp2_with (go_at_call 60; refine (HTV.out _).mono ?_; rintro e w' ⟨rfl, rfl⟩)
    go_ret
    exact ⟨_, rfl, Own.nil, Below.refl _ _⟩
  · have e : wordsB s = ((spl [] (bs s)).foldl addW []).map mk := by unfold wordsB wordsOf; rw [hv, if_pos rfl]
    rw [e]
    have hsz : s.size ≤ 60 := textV_size hv
    have hcnt : (spl [] (bs s)).length ≤ 61 := by have := spl_len (bs s) []; have := size_bs s; omega
    have hshort := spl_short (bs s) []
    rw [hv] at hTV
    have HTV := Lib.hid hTV
    have HSP := Lib.hid (fun w h => SplitSp_any s w hs h)
    unfold SplitR at HSP
    generalize hps : spl [] (bs s) = ps at *
    have HSH := Lib.hid (show ∀ p ∈ ps, p.length ≤ 60 from fun p hp => by have h1 := hshort p hp; have h2 := size_bs s; rw [List.length_nil] at h1; omega)
    clear hTV hv e hps hshort
    go_enter Tryz.func54, Tryz.ntmps54
    go_wp2_with (go_at_call 60; refine (HTV.out _).mono ?_; rintro e w' ⟨rfl, rfl⟩)
    refine (HSP.out _ HM.out).mono ?_
    rintro e w1 ⟨A, c, rfl, hs1, hb1⟩
    have HS1 := Lib.hid hs1
    have HB1 := Lib.hid hb1
    clear hs1 hb1
    go_wp2_with fail
    go_loopw [3, 12] (fun v i wr => ∃ (k : Nat) (acc : List Bs) (ab : List ByteArray), k ≤ ps.length ∧ i = .int .i64 k ∧ ab.length ≤ k ∧ Hid (acc = (ps.take k).foldl addW []) ∧ Hid (ab = acc.map mk) ∧ Own wr w1.heap.size 9 1 encS v ab ∧ Below w1.heap.size w1 wr) (fun _ i _ => ps.length - (intOf i).toNat)
    case atStart => exact ⟨0, [], [], Nat.zero_le _, rfl, Nat.le_refl _, rfl, rfl, Own.nil, Below.refl _ _⟩
    case round =>
      obtain ⟨k, acc, ab, hk, rfl, hak, hh, hab, hown, hb⟩ := hrel
      obtain ⟨X, d, rfl, _, hsx, _⟩ := hown.sl
      by_cases hlt : k < ps.length
      · obtain ⟨b, o, rfl, hc⟩ := (HS1.out.below hb).getS (k := k) (by rw [List.length_map]; exact hlt)
        rw [map_at hlt] at hc
        have hft := foldl_take hlt
        rw [← hh.out] at hft
        have hq60 := HSH.out ps[k] (by simp)
        generalize ps[k] = q at *
        have hqs : (mk q).size ≤ 16777216 := by rw [mk_size]; omega
        have hWV := fun w => iWordValid_any (mk q) w hqs
        have hbq : bs (mk q) = q := rfl
        rw [hbq] at hWV
        have hCN := fun w h => ContainsS_any X d ab (mk q) w h (by omega)
        have hhs : hasS ab (mk q) = acc.contains q := by rw [hab.out, hasS_map]
        rw [hhs] at hCN
        have HW := Lib.hid hown
        have HSX := Lib.hid hsx
        have HFT := Lib.hid hft
        have HB := Lib.hid hb
        have HBQ := Lib.hid hqs
        clear hown hsx hft hb hbq hqs hhs
        cases hwv : wordV q
        · rw [hwv] at hWV
          have HWV := Lib.hid hWV
          have HNO := Lib.hid (addW_no (l := acc) (.inl hwv))
          clear hWV hCN hwv
          go_wp2_with (go_at_call 38; refine (HWV.out _).mono ?_; rintro e w' ⟨rfl, rfl⟩)
          go_roundw
          case rel => exact ⟨k + 1, acc, ab, by omega, by go_num, by omega, by show _ = _; rw [HFT.out, HNO.out], hab, HW.out, HB.out⟩
          case measure => simp [intOf]; omega
        · rw [hwv] at hWV
          have HWV := Lib.hid hWV
          clear hWV
          cases hcn : acc.contains q
          · rw [hcn] at hCN
            have HCN := Lib.hid hCN
            have HYES := Lib.hid (addW_yes hwv hcn)
            clear hCN hwv hcn
            have hl1 : ab.length ≤ 16777216 := by omega
            go_wp2_with (first
              | (go_at_call 38; refine (HWV.out _).mono ?_; rintro e w' ⟨rfl, rfl⟩)
              | (go_at_call 53; refine (HCN.out _ HSX.out).mono ?_; rintro e w' ⟨rfl, rfl⟩)
              | (at_builtin; refine app_str (w0 := w1) rfl rfl rfl rfl HW.out HB.out hl1 ?_; intro v1 w2 hown2 hb2; have HW2 := Lib.hid hown2; have HB2 := Lib.hid hb2; clear hown2 hb2))
            go_roundw
            case rel => exact ⟨k + 1, acc ++ [q], ab ++ [mk q], by omega, by go_num, by simp; omega, by show _ = _; rw [HFT.out, HYES.out], by show _ = _; rw [hab.out, List.map_append]; rfl, HW2.out, HB2.out⟩
            case measure => simp [intOf]; omega
          · rw [hcn] at hCN
            have HCN := Lib.hid hCN
            have HNO := Lib.hid (addW_no (l := acc) (q := q) (.inr hcn))
            clear hCN hwv hcn
            go_wp2_with (first
              | (go_at_call 38; refine (HWV.out _).mono ?_; rintro e w' ⟨rfl, rfl⟩)
              | (go_at_call 53; refine (HCN.out _ HSX.out).mono ?_; rintro e w' ⟨rfl, rfl⟩))
            go_roundw
            case rel => exact ⟨k + 1, acc, ab, by omega, by go_num, by omega, by show _ = _; rw [HFT.out, HNO.out], hab, HW.out, HB.out⟩
            case measure => simp [intOf]; omega
      · have HW := Lib.hid hown
        have HB := Lib.hid hb
        clear hown hb
        go_wp2
        go_ret
        refine ⟨_, rfl, ?_, Below_then HB1.out HB.out (Nat.le_refl _)⟩
        have e : ps.foldl addW [] = acc := by rw [hh.out, List.take_of_length_le (by omega)]
        rw [e, ← hab.out]
        exact HW.out.mono HB1.out.size
end Go.Proofs.YtedcgbmdfmgcgaaGreatDoor

/- Filters: the plain law, and the walks of the program and of the reference. -/
set_option linter.unusedVariables false
namespace Go.Proofs.YtedcgbmdfmgcgaaGreatDoor
open Go.RowKit

/-! ### the plain law -/
def maskN (P : Nat) : Nat := 2 ^ (P % 30) ||| 2 ^ (P / 30 % 30)
def filtN (l : List Int) : Nat := l.foldl (fun f p => f ||| maskN p.toNat) 0
def fv (f : Int) : Bool := inI f 0 1073741823
def filterOf (l : List Int) : Int := if l.all pv then (filtN l : Int) else -1
def filterHas (f p : Int) : Bool := fv f && pv p && (f.toNat &&& maskN p.toNat == maskN p.toNat)
def filterJoin (a b : Int) : Int := if fv a && fv b then ((a.toNat ||| b.toNat : Nat) : Int) else -1
def filterWanted (f : Int) (l : List Int) : List Int := if fv f && l.all pv then l.filter (fun p => !filterHas f p) else []

theorem fv_iff {n : Int} : fv n = true ↔ 0 ≤ n ∧ n ≤ 1073741823 := by simp [fv, inI]
theorem pow30 {x : Nat} (h : x < 30) : (2 : Nat) ^ x < 2 ^ 30 := Nat.pow_lt_pow_right (by omega) h
theorem maskN_lt (P : Nat) : maskN P < 2 ^ 30 := Nat.or_lt_two_pow (pow30 (Nat.mod_lt _ (by omega))) (pow30 (Nat.mod_lt _ (by omega)))
theorem filtN_from (l : List Int) : ∀ f : Nat, f < 2 ^ 30 → l.foldl (fun f p => f ||| maskN p.toNat) f < 2 ^ 30 ∧ f ||| l.foldl (fun f p => f ||| maskN p.toNat) f = l.foldl (fun f p => f ||| maskN p.toNat) f := by
  induction l with
  | nil => intro f hf; exact ⟨hf, Nat.or_self f⟩
  | cons p r ih =>
    intro f hf
    have h := ih (f ||| maskN p.toNat) (Nat.or_lt_two_pow hf (maskN_lt _))
    refine ⟨h.1, ?_⟩
    simp only [List.foldl_cons]
    have h2 := h.2
    generalize List.foldl (fun f p => f ||| maskN p.toNat) (f ||| maskN p.toNat) r = g at *
    rw [← h2, Nat.or_assoc, ← Nat.or_assoc f f, Nat.or_self]
theorem filtN_lt (l : List Int) : filtN l < 2 ^ 30 := (filtN_from l 0 (by decide)).1
theorem or_and_self (f m : Nat) : (f ||| m) &&& m = m := by
  apply Nat.eq_of_testBit_eq; intro i; simp [Nat.testBit_and, Nat.testBit_or]; intro h; exact .inr h
theorem and_of_or {f m g : Nat} (h : f ||| g = g) (hm : f &&& m = m) : g &&& m = m := by
  apply Nat.eq_of_testBit_eq; intro i
  have h1 := congrArg (fun x => x.testBit i) h
  have h2 := congrArg (fun x => x.testBit i) hm
  simp only [Nat.testBit_and, Nat.testBit_or] at *
  cases hb : m.testBit i <;> simp_all
theorem filtN_has (l : List Int) : ∀ f : Nat, f < 2 ^ 30 → ∀ p ∈ l, l.foldl (fun f p => f ||| maskN p.toNat) f &&& maskN p.toNat = maskN p.toNat := by
  induction l with
  | nil => intro f _ p hp; cases hp
  | cons q r ih =>
    intro f hf p hp
    have hq : f ||| maskN q.toNat < 2 ^ 30 := Nat.or_lt_two_pow hf (maskN_lt _)
    rcases List.mem_cons.1 hp with rfl | hp
    · exact and_of_or (filtN_from r _ hq).2 (or_and_self f _)
    · exact ih _ hq p hp
theorem filtN_snoc (l : List Int) (p : Int) : filtN (l ++ [p]) = filtN l ||| maskN p.toNat := by simp [filtN, List.foldl_append]
theorem has_all {l : List Int} (hl : l.all pv = true) : ∀ p ∈ l, filterHas (filterOf l) p = true := by
  intro p hp
  have hlt := filtN_lt l
  unfold filterHas filterOf
  rw [if_pos hl]
  have h1 : fv (filtN l : Int) = true := fv_iff.2 ⟨by omega, by omega⟩
  rw [h1, List.all_eq_true.1 hl p hp]
  have := filtN_has l 0 (by decide) p hp
  simp only [Bool.and_self, Bool.true_and, beq_iff_eq, Int.toNat_natCast]
  exact this
theorem filterOf_bad {l : List Int} (h : l.all pv = false) : filterOf l = -1 := by unfold filterOf; simp [h]
theorem filterOf_ok {l : List Int} (h : l.all pv = true) : filterOf l = filtN l := by unfold filterOf; simp [h]
theorem filterOf_fv {l : List Int} (h : l.all pv = true) : fv (filterOf l) = true := by
  have := filtN_lt l
  rw [filterOf_ok h]; exact fv_iff.2 ⟨by omega, by omega⟩
theorem filterOf_lt0 {l : List Int} (h : filterOf l < 0) : filterOf l = -1 := by
  cases hl : l.all pv with
  | false => exact filterOf_bad hl
  | true => rw [filterOf_ok hl] at h; omega
theorem filterOf_valid {l : List Int} (h : ¬ filterOf l < 0) : l.all pv = true := by
  cases hl : l.all pv with
  | true => rfl
  | false => exact absurd (by rw [filterOf_bad hl]; omega) h
theorem wanted_of_has {f : Int} {l : List Int} (h : ∀ p ∈ l, filterHas f p = true) : filterWanted f l = [] := by
  unfold filterWanted; split
  · exact List.filter_eq_nil_iff.2 fun p hp => by simp [h p hp]
  · rfl
theorem join_comm (a b : Int) : filterJoin a b = filterJoin b a := by
  unfold filterJoin; rw [Bool.and_comm, Nat.or_comm]
theorem join_facts {a b : Int} (h : ¬ filterJoin a b < 0) : fv a = true ∧ fv b = true ∧ filterJoin (filterJoin a b) a = filterJoin a b ∧ a ≤ filterJoin a b ∧ b ≤ filterJoin a b ∧ filterJoin a b ≤ 1073741823 := by
  by_cases hv : (fv a && fv b) = true
  · have h2 : fv a = true ∧ fv b = true := by simpa using hv
    have e : filterJoin a b = ((a.toNat ||| b.toNat : Nat) : Int) := by unfold filterJoin; rw [if_pos hv]
    have ha := fv_iff.1 h2.1
    have hb := fv_iff.1 h2.2
    have hlt : a.toNat ||| b.toNat < 2 ^ 30 := Nat.or_lt_two_pow (by omega) (by omega)
    have l1 : a.toNat ≤ a.toNat ||| b.toNat := Nat.left_le_or
    have l2 : b.toNat ≤ a.toNat ||| b.toNat := Nat.right_le_or
    refine ⟨h2.1, h2.2, ?_, by rw [e]; omega, by rw [e]; omega, by rw [e]; omega⟩
    rw [e]
    have hf : fv ((a.toNat ||| b.toNat : Nat) : Int) = true := fv_iff.2 ⟨by omega, by omega⟩
    unfold filterJoin
    rw [hf, h2.1, Int.toNat_natCast, Nat.or_assoc, Nat.or_comm b.toNat, ← Nat.or_assoc, Nat.or_self]; rfl
  · exfalso; apply h; unfold filterJoin; rw [if_neg hv]; omega
theorem join_lt0 {a b : Int} (h : filterJoin a b < 0) : filterJoin a b = -1 := by
  unfold filterJoin at h ⊢; split
  · rename_i hv; rw [if_pos hv] at h; omega
  · rfl
theorem has_of_join {f g p : Int} (hf : fv f = true) (hg : fv g = true) (h : filterHas f p = true ∨ filterHas g p = true) : filterHas (filterJoin f g) p = true := by
  have e : filterJoin f g = ((f.toNat ||| g.toNat : Nat) : Int) := by unfold filterJoin; rw [hf, hg]; rfl
  have ha := fv_iff.1 hf
  have hb := fv_iff.1 hg
  have hlt : f.toNat ||| g.toNat < 2 ^ 30 := Nat.or_lt_two_pow (by omega) (by omega)
  have hv : fv (filterJoin f g) = true := by rw [e]; exact fv_iff.2 ⟨by omega, by omega⟩
  have hp : pv p = true := by
    rcases h with h | h <;> · unfold filterHas at h; simp only [Bool.and_eq_true] at h; exact h.1.2
  unfold filterHas
  rw [hv, hp, e, Int.toNat_natCast]
  simp only [Bool.and_self, Bool.true_and, beq_iff_eq]
  rcases h with h | h
  · unfold filterHas at h; simp only [Bool.and_eq_true, beq_iff_eq] at h
    exact and_of_or (by rw [← Nat.or_assoc, Nat.or_self]) h.2
  · unfold filterHas at h; simp only [Bool.and_eq_true, beq_iff_eq] at h
    refine and_of_or ?_ h.2
    rw [Nat.or_comm f.toNat, ← Nat.or_assoc, Nat.or_self]
theorem has_full {f p : Int} (h : filterHas f p = true) : filterHas 1073741823 p = true := by
  have hp : pv p = true := by unfold filterHas at h; simp only [Bool.and_eq_true] at h; exact h.1.2
  have h1 : fv 1073741823 = true := by decide
  unfold filterHas; rw [h1, hp]
  have := maskN_lt p.toNat
  simp only [Bool.and_self, Bool.true_and, beq_iff_eq]
  show 1073741823 &&& maskN p.toNat = maskN p.toNat
  rw [Nat.and_comm]
  have e : (1073741823 : Nat) = 2 ^ 30 - 1 := rfl
  rw [e, Nat.and_two_pow_sub_one_eq_mod, Nat.mod_eq_of_lt this]
theorem has_empty (p : Int) : filterHas 0 p = false := by
  unfold filterHas
  have h : ((0 : Int).toNat &&& maskN p.toNat == maskN p.toNat) = false := by
    rw [show (0 : Int).toNat = 0 from rfl, Nat.zero_and]
    apply beq_eq_false_iff_ne.2
    have : 2 ^ (p.toNat % 30) ≤ maskN p.toNat := Nat.left_le_or
    have := Nat.two_pow_pos (p.toNat % 30)
    omega
  rw [h]; simp
theorem wanted_join {f : Int} {l : List Int} : filterWanted (filterJoin f (filterOf (filterWanted f l))) l = [] := by
  by_cases hv : (fv f && l.all pv) = true
  · have h2 : fv f = true ∧ l.all pv = true := by simpa using hv
    have e : filterWanted f l = l.filter (fun p => !filterHas f p) := by unfold filterWanted; rw [if_pos hv]
    have hx : (filterWanted f l).all pv = true := by
      rw [e, List.all_eq_true]; intro p hp; exact List.all_eq_true.1 h2.2 p (List.mem_filter.1 hp |>.1)
    refine wanted_of_has fun p hp => has_of_join h2.1 (filterOf_fv hx) ?_
    cases hh : filterHas f p with
    | true => exact .inl rfl
    | false => right; exact has_all hx p (by rw [e]; exact List.mem_filter.2 ⟨hp, by simp [hh]⟩)
  · have hf : filterWanted f l = [] := by unfold filterWanted; rw [if_neg hv]
    cases hl : l.all pv with
    | false => unfold filterWanted; simp [hl]
    | true =>
      have hff : fv f = false := by cases h : fv f <;> simp_all
      have : filterJoin f (filterOf (filterWanted f l)) = -1 := by unfold filterJoin; simp [hff]
      rw [this]; unfold filterWanted; rw [if_neg]; simp [fv, inI]

/-! ### bits of int64 -/
theorem ofInt_i64 (a : Nat) (ha : a < 9223372036854775808) : (BitVec.ofInt 64 (a : Int)).toNat = a := by
  rw [BitVec.ofInt_natCast, BitVec.toNat_ofNat]; exact Nat.mod_eq_of_lt (by omega)
theorem i64_and_nat (a b : Nat) (ha : a < 9223372036854775808) (hb : b < 9223372036854775808) : bits .and .i64 (a : Int) (b : Int) = ((a &&& b : Nat) : Int) := by
  have hx : a &&& b < 2 ^ 63 := Nat.and_lt_two_pow _ (by omega)
  show IntKind.i64.wrap ((BitVec.ofInt 64 (a : Int) &&& BitVec.ofInt 64 (b : Int)).toNat : Int) = _
  rw [BitVec.toNat_and, ofInt_i64 a ha, ofInt_i64 b hb, IntKind.wrap_i64]
  omega
theorem i64_or_nat (a b : Nat) (ha : a < 9223372036854775808) (hb : b < 9223372036854775808) : bits .or .i64 (a : Int) (b : Int) = ((a ||| b : Nat) : Int) := by
  have hx : a ||| b < 2 ^ 63 := Nat.or_lt_two_pow (by omega) (by omega)
  show IntKind.i64.wrap ((BitVec.ofInt 64 (a : Int) ||| BitVec.ofInt 64 (b : Int)).toNat : Int) = _
  rw [BitVec.toNat_or, ofInt_i64 a ha, ofInt_i64 b hb, IntKind.wrap_i64]
  omega
theorem or_pows {x y : Nat} (hx : x < 30) (hy : y < 30) : bits .or .i64 (wrap64 (2 ^ x)) (wrap64 (2 ^ y)) = ((2 ^ x ||| 2 ^ y : Nat) : Int) := by
  have h1 := pow30 hx
  have h2 := pow30 hy
  have p1 : ((2 : Int) ^ x) = ((2 ^ x : Nat) : Int) := by simp
  have p2 : ((2 : Int) ^ y) = ((2 ^ y : Nat) : Int) := by simp
  rw [p1, p2]
  generalize (2 ^ x : Nat) = X at *
  generalize (2 ^ y : Nat) = Y at *
  have e1 : wrap64 (X : Int) = X := IntWalk.wrap64_in _ (by omega)
  have e2 : wrap64 (Y : Int) = Y := IntWalk.wrap64_in _ (by omega)
  rw [e1, e2, i64_or_nat _ _ (by omega) (by omega)]

/-! ### the walks -/
theorem all_take_succ {α : Type} {p : α → Bool} {l : List α} {k : Nat} (hk : k < l.length) (h : (l.take k).all p = true) (hx : p l[k] = true) : (l.take (k + 1)).all p = true := by
  rw [List.take_succ_eq_append_getElem hk, List.all_append, h]; simp [hx]
theorem all_of_take {α : Type} {p : α → Bool} {l : List α} {k : Nat} (hk : ¬ k < l.length) (h : (l.take k).all p = true) : l.all p = true := by
  rwa [List.take_of_length_le (by omega)] at h
theorem all_bad {α : Type} {p : α → Bool} {l : List α} {k : Nat} (hk : k < l.length) (h : p l[k] = false) : l.all p = false := by
  rw [List.all_eq_false]; exact ⟨l[k], by simp, by simp [h]⟩

theorem filtN_take {l : List Int} {k : Nat} (hk : k < l.length) : filtN (l.take (k + 1)) = filtN (l.take k) ||| maskN l[k].toNat := by
  rw [List.take_succ_eq_append_getElem hk, filtN_snoc]
end Go.Proofs.YtedcgbmdfmgcgaaGreatDoor

/- Drawn inputs: names, prints, and the like. -/
set_option linter.unusedVariables false
namespace Go.Proofs.YtedcgbmdfmgcgaaGreatDoor
open Go.RowKit

/-- A drawn result that lies in no memory: 'P v'; at most 'C' bytes were read. -/
def Drew (P : Value → Prop) (C : Nat) (w : World) (g p : Nat) (e : Ending) (w' : World) : Prop :=
  ∃ (v : Value) (p' : Nat), e = .returned v ∧ P v ∧ Only g w w' ∧ Rdr w' g p' ∧ p' ≤ p + C
def ShortStr (m : Nat) (v : Value) : Prop := ∃ s : ByteArray, v = .string s ∧ s.size ≤ m
theorem size_lit (a : Array UInt8) : (ByteArray.mk a).size = a.size := rfl

theorem lit_cell {w w1 : World} {g : Nat} {cs : Array Value} {E : TypeId} (ho : Only g (w.alloc (.cells cs E)) w1) (hg : g < w.heap.size) {k : Nat} {u : Value} (hu : cs[k]? = some u) : w1.cell? ⟨w.heap.size, k, none⟩ = some u :=
  ho.cell (by omega) (by rw [cell_of_row _ _ k _ E (0, 0) (heap_alloc_new w _)]; exact hu)

def shortB (m : Nat) : Value → Bool | .string s => decide (s.size ≤ m) | _ => false
def intB (lo hi : Int) : Value → Bool | .int .i64 n => decide (lo ≤ n) && decide (n ≤ hi) | _ => false
theorem shortB_iff {m : Nat} {v : Value} (h : shortB m v = true) : ∃ s, v = .string s ∧ s.size ≤ m := by
  unfold shortB at h; split at h
  · exact ⟨_, rfl, by simpa using h⟩
  · cases h
theorem intB_iff {lo hi : Int} {v : Value} (h : intB lo hi v = true) : ∃ n, v = .int .i64 n ∧ lo ≤ n ∧ n ≤ hi := by
  unfold intB at h; split at h
  · exact ⟨_, rfl, by simpa using h⟩
  · cases h
/-- 'pick' of the place of a literal's element. -/
theorem pick_lit {w : World} {g p : Nat} {cs : Array Value} {E : TypeId} (k : Nat) (chk : Value → Bool) (hr : Rdr w g p) (hp : p ≤ 1000000000) (hk : cs.size = k) (hpos : 0 < k) (hb : k ≤ 1000) (hc : cs.toList.all chk = true) :
    Calls Tryz.prog 52 #[.pointer (some ⟨g, 0, none⟩), .int .i64 (k : Int)] (w.alloc (.cells cs E)) fun e w' =>
      ∃ (x : Nat) (u : Value), e = .returned (.int .i64 x) ∧ x < k ∧ w'.cell? ⟨w.heap.size, x, none⟩ = some u ∧ chk u = true ∧ Only g w w' ∧ Rdr w' g (p + 1) := by
  refine (pick_any (k : Int) g p _ (hr.alloc _) hp (by omega)).mono ?_
  rintro e w' ⟨x, rfl, hx, ho, hr'⟩
  have hxk : x < cs.size := by omega
  refine ⟨x, cs[x], rfl, by omega, lit_cell ho hr.lt (Array.getElem?_eq_getElem hxk), List.all_eq_true.1 hc _ (by simp), (Only.of_below ((Below.refl _ _).alloc (Nat.le_refl _) _)).trans ho, hr'⟩
theorem pick_str {w : World} {g p : Nat} {cs : Array Value} {E : TypeId} (k m : Nat) (hr : Rdr w g p) (hp : p ≤ 1000000000) (hk : cs.size = k) (hpos : 0 < k) (hb : k ≤ 1000) (hc : cs.toList.all (shortB m) = true) :
    Calls Tryz.prog 52 #[.pointer (some ⟨g, 0, none⟩), .int .i64 (k : Int)] (w.alloc (.cells cs E)) fun e w' =>
      ∃ (x : Nat) (s : ByteArray), e = .returned (.int .i64 x) ∧ x < k ∧ w'.cell? ⟨w.heap.size, x, none⟩ = some (.string s) ∧ s.size ≤ m ∧ Only g w w' ∧ Rdr w' g (p + 1) := by
  refine (pick_lit k (shortB m) hr hp hk hpos hb hc).mono ?_
  rintro e w' ⟨x, u, rfl, hx, hu, hcu, ho, hr'⟩
  obtain ⟨s, rfl, hs⟩ := shortB_iff hcu
  exact ⟨x, s, rfl, hx, hu, hs, ho, hr'⟩
theorem pick_int {w : World} {g p : Nat} {cs : Array Value} {E : TypeId} (k : Nat) (lo hi : Int) (hr : Rdr w g p) (hp : p ≤ 1000000000) (hk : cs.size = k) (hpos : 0 < k) (hb : k ≤ 1000) (hc : cs.toList.all (intB lo hi) = true) :
    Calls Tryz.prog 52 #[.pointer (some ⟨g, 0, none⟩), .int .i64 (k : Int)] (w.alloc (.cells cs E)) fun e w' =>
      ∃ (x : Nat) (n : Int), e = .returned (.int .i64 x) ∧ x < k ∧ w'.cell? ⟨w.heap.size, x, none⟩ = some (.int .i64 n) ∧ lo ≤ n ∧ n ≤ hi ∧ Only g w w' ∧ Rdr w' g (p + 1) := by
  refine (pick_lit k (intB lo hi) hr hp hk hpos hb hc).mono ?_
  rintro e w' ⟨x, u, rfl, hx, hu, hcu, ho, hr'⟩
  obtain ⟨n, rfl, h1, h2⟩ := intB_iff hcu
  exact ⟨x, n, rfl, hx, hu, h1, h2, ho, hr'⟩

/-- A drawn result of a 'Draw..' function: no memory that was there has turned. -/
def Drawn (P : Value → Prop) (w : World) (e : Ending) (w' : World) : Prop := ∃ v, e = .returned v ∧ P v ∧ Below w.heap.size w w'
end Go.Proofs.YtedcgbmdfmgcgaaGreatDoor

/- Filters: FilterHas, FilterJoin, FilterWanted; drawn prints and filters. -/
set_option linter.unusedVariables false
namespace Go.Proofs.YtedcgbmdfmgcgaaGreatDoor
open Go.RowKit

theorem has_nat {F : Nat} {p : Int} (hf : fv (F : Int) = true) (hp : pv p = true) : filterHas (F : Int) p = (((F &&& maskN p.toNat : Nat) : Int) == ((maskN p.toNat : Nat) : Int)) := by
  unfold filterHas; rw [hf, hp, Int.toNat_natCast]
  simp only [Bool.and_self, Bool.true_and]
  rw [Bool.eq_iff_iff]; simp only [beq_iff_eq]; omega
theorem has_badf {f p : Int} (hf : fv f = false) : filterHas f p = false := by unfold filterHas; simp [hf]
theorem has_badp {f p : Int} (hp : pv p = false) : filterHas f p = false := by unfold filterHas; simp [hp]

theorem join_bad {a b : Int} (h : fv a = false ∨ fv b = false) : filterJoin a b = -1 := by
  unfold filterJoin; rcases h with h | h <;> simp [h]
theorem join_nat {F G : Nat} (hf : fv (F : Int) = true) (hg : fv (G : Int) = true) : filterJoin F G = ((F ||| G : Nat) : Int) := by
  unfold filterJoin; rw [hf, hg]; rfl
theorem wanted_bad {f : Int} {l : List Int} (h : fv f = false ∨ l.all pv = false) : filterWanted f l = [] := by
  unfold filterWanted; rcases h with h | h <;> simp [h]
theorem wanted_ok {f : Int} {l : List Int} (hf : fv f = true) (hl : l.all pv = true) : filterWanted f l = l.filter (fun p => !filterHas f p) := by
  unfold filterWanted; simp [hf, hl]
theorem filter_take_yes {α : Type} {p : α → Bool} {l : List α} {k : Nat} (hk : k < l.length) (h : p l[k] = true) : (l.take (k + 1)).filter p = (l.take k).filter p ++ [l[k]] := by
  rw [List.take_succ_eq_append_getElem hk, List.filter_append]; simp [h]
theorem filter_take_no {α : Type} {p : α → Bool} {l : List α} {k : Nat} (hk : k < l.length) (h : p l[k] = false) : (l.take (k + 1)).filter p = (l.take k).filter p := by
  rw [List.take_succ_eq_append_getElem hk, List.filter_append]; simp [h]
end Go.Proofs.YtedcgbmdfmgcgaaGreatDoor

/- 'append' of one element onto a row of the call's own, telling besides what became of all other rows. -/
set_option linter.unusedVariables false
namespace Go.Proofs.YtedcgbmdfmgcgaaGreatDoor
open Go.RowKit

/-- w' is w but for new blocks and for the row that v owns. -/
def Grew (v : Value) (w w' : World) : Prop := w.grownBy w' v.ownBlock
/-- No slice at A lies in v's own block. -/
def Apart (A : Option Addr) (v : Value) : Prop := ∀ b o, A = some ⟨b, o, none⟩ → v.ownBlock ≠ some b
theorem Apart.nil (A : Option Addr) : Apart A (.slice none 0 0) := fun b o _ h => by simp [Value.ownBlock] at h
theorem Sl.grew {α : Type} {enc : α → List Value} {w w' : World} {size : Nat} {A : Option Addr} {l : List α} {v : Value} (h : Sl w enc size A l) (hg : Grew v w w') (ha : Apart A v) : Sl w' enc size A l := by
  intro hn
  obtain ⟨b, o, e, hc⟩ := h hn
  refine ⟨b, o, e, fun j u hu => ?_⟩
  have hcc := hc j u hu
  have hlt := World.block_lt_of_cell? w _ hcc
  rw [World.cell?_of_block (w := w) (hg.block b hlt (fun e2 => ha b o e (by rw [e2])))]; exact hcc
theorem Own.blk {α : Type} {enc : α → List Value} {w : World} {base size : Nat} {E : TypeId} {v : Value} {l : List α} (h : Own w base E size enc v l) : ∀ g, v.ownBlock = some g → base ≤ g ∧ g < w.heap.size := fun g hg => World.ownsRow.lt h g hg
/-- What is read lies below the base of what is owned: apart. -/
theorem Apart.of_lt {A : Option Addr} {v : Value} {B : Nat} (hA : ∀ b o, A = some ⟨b, o, none⟩ → b < B) (hv : ∀ g, v.ownBlock = some g → B ≤ g) : Apart A v := fun b o e h => by
  have h1 := hA b o e; have h2 := hv b h; exact absurd h1 (by omega)
theorem Apart.of_ge {A : Option Addr} {v : Value} {B : Nat} (hA : ∀ b o, A = some ⟨b, o, none⟩ → B ≤ b) (hv : ∀ g, v.ownBlock = some g → g < B) : Apart A v := fun b o e h => by
  have := hA b o e; have := hv b h; omega
theorem Sl.lt {α : Type} {enc : α → List Value} {w : World} {size : Nat} {A : Option Addr} {l : List α} (h : Sl w enc size A l) (he : ∀ x, (enc x).length = size) (hs : 0 < size) (hl : 0 < l.length) : ∀ b o, A = some ⟨b, o, none⟩ → b < w.heap.size := by
  intro b o e
  obtain ⟨b', o', e', hc⟩ := h hl
  have hpos : 0 < (flat enc l).length := by rw [flat_length he l]; exact Nat.mul_pos hl hs
  have h0 := hc 0 _ (List.getElem?_eq_getElem hpos)
  have hlt : b' < w.heap.size := World.block_lt_of_cell? w _ h0
  rw [e] at e'; injection e' with e'; injection e' with e1 _
  omega

theorem wpList_app2 {P : Program} {α : Type} {enc : α → List Value} {ops : Array Oper} {rest : List Oper} {o : Oper} {a : Act} {Q : Exit → Act → World → Prop} {w0 wr : World} {B base size bytes : Nat} {t E : TypeId} {i : TypeInfo} {z : Value} {v : Value} {l : List α}
    (ht : P.underlying t = some (.slice E)) (hi : P.info? E = some i) (hz : i.zero = some z) (hsize : i.size = size) (hby : i.bytes = bytes) (hzs : z.cells.size = size) (hsz : 0 < size) (hb200 : bytes ≤ 256)
    (hgd : o.guard = none) (s x : Operand) (ho : o.op = .call { callee := .builtin .append, args := #[s, x], argTypes := #[t, t] })
    (hs : a.eval s = v) (hx : a.eval x = .slice (some ⟨wr.heap.size, 0, none⟩) 1 1)
    (hown : Own wr base E size enc v l) (hb : Below B w0 wr) (hB : B ≤ base) (hbase : base ≤ wr.heap.size) (hn : l.length ≤ 16777216) (y : α) (cells : Array Value) (hcl : cells = (enc y).toArray) (hce : (enc y).length = size) (h1 : ∀ u ∈ enc y, u.oneCell' = true)
    (h : ∀ v' w', Own w' base E size enc v' (l ++ [y]) → Below B w0 w' → Grew v wr w' → wpList P ops Q rest (a.put o.dst v') w') : wpList P ops Q (o :: rest) a (wr.alloc (.cells cells E)) := by
  subst hcl
  refine wpList_append_own _ hgd s x t ho base E i z size bytes ht hi hz hsize hby hzs hsz v l.length (flat enc l) hs (World.ownsRow.alloc hown _) ⟨wr.heap.size, 0, none⟩ 1 1 (enc y) hx (by rw [hce, Nat.one_mul]) ?_ h1 ?_ ?_ ?_ ?_
  · intro j u hu
    have hadd : (⟨wr.heap.size, 0, none⟩ : Addr).add j = ⟨wr.heap.size, j, none⟩ := by unfold Addr.add; split <;> simp_all
    rw [hadd, cell_of_row _ _ j _ E (0, 0) (heap_alloc_new wr _)]
    simpa using hu
  · unfold maxLen; omega
  · have := Nat.mul_le_mul_left (l.length + 1) hb200; omega
  · simp; omega
  · intro v' w' hown' hg _
    refine h v' w' ?_ ((hb.alloc (Nat.le_trans hB hbase) _).grown hg (by simp; omega) (fun k hk => ?_)) ?_
    · show w'.ownsRow base E size v' (l ++ [y]).length (flat enc (l ++ [y]))
      rw [flat_snoc, List.length_append]; exact hown'
    · exact Nat.le_trans hB (World.ownsRow.lt hown k hk).1
    · exact ⟨hg.os, hg.tape, hg.output, Nat.le_trans (by simp) hg.size, fun k hk hne => (hg.block k (by simp; omega) hne).trans (Below.heap_alloc wr _ k hk)⟩
section
variable {ops : Array Oper} {rest : List Oper} {o : Oper} {a : Act} {Q : Exit → Act → World → Prop} {w0 wr : World} {v : Value}
theorem app_int2 {l : List Int} {y : Int} {s x : Operand} (hgd : o.guard = none) (ho : o.op = .call { callee := .builtin .append, args := #[s, x], argTypes := #[105, 105] })
    (hs : a.eval s = v) (hx : a.eval x = .slice (some ⟨wr.heap.size, 0, none⟩) 1 1)
    (hown : Own wr w0.heap.size 3 1 encI v l) (hb : Below w0.heap.size w0 wr) (hn : l.length ≤ 16777216)
    (h : ∀ v' w', Own w' w0.heap.size 3 1 encI v' (l ++ [y]) → Below w0.heap.size w0 w' → Grew v wr w' → wpList Tryz.prog ops Q rest (a.put o.dst v') w') :
    wpList Tryz.prog ops Q (o :: rest) a (wr.alloc (.cells #[.int .i64 y] 3)) := by
  obtain ⟨i0, hi0, hz0, hz1, hz2⟩ := info_parts int_info
  exact wpList_app2 Tryz.underlying105 hi0 hz0 hz1 hz2 rfl (by decide) (by decide) hgd s x ho hs hx hown hb (Nat.le_refl _) hb.size hn y _ rfl rfl (by intro u hu; simp [encI] at hu; subst hu; rfl) h
end
end Go.Proofs.YtedcgbmdfmgcgaaGreatDoor

/- Regions that draw their order and whose calls make memory of their own: ONE walk, in the order of the text, in every world that is as this one below its heap's size. -/
set_option linter.unusedVariables false
namespace Go.Proofs.YtedcgbmdfmgcgaaGreatDoor
open Go.RowKit

/-- What may have come since: new blocks, and a count of draws. -/
structure Since where
  os : Array Obj
  n : Nat
instance : Inhabited Since := ⟨⟨#[], 0⟩⟩
def far (w : World) (p : Since) : World := { w with heap := w.heap ++ p.os, drawn := p.n }
theorem far_size (w : World) (p : Since) : (far w p).heap.size = w.heap.size + p.os.size := by simp [far]
theorem far_below (w : World) (p : Since) : Below w.heap.size w (far w p) := ⟨rfl, rfl, rfl, by rw [far_size]; omega, fun k hk => by simp [far, Array.getElem?_append, hk]⟩
theorem below_far {w w' : World} (h : Below w.heap.size w w') : ∃ p, w' = far w p := by
  refine ⟨⟨w'.heap.extract w.heap.size w'.heap.size, w'.drawn⟩, ?_⟩
  obtain ⟨h1, h2, h3, h4, h5⟩ := h
  obtain ⟨hp, t, d, o, out⟩ := w'
  simp only at h1 h2 h3 h4 h5
  subst h1 h2 h3
  have e : hp = w.heap ++ hp.extract w.heap.size hp.size := by
    apply Array.ext_getElem?
    intro k
    by_cases hk : k < w.heap.size
    · rw [h5 k hk, Array.getElem?_append_left hk]
    · rw [Array.getElem?_append_right (by omega), Array.getElem?_extract]
      have e : w.heap.size + (k - w.heap.size) = k := by omega
      rw [e]
      split
      · rfl
      · rename_i hn
        rw [Array.getElem?_eq_none]
        omega
  unfold far
  exact congrArg (fun h => (⟨h, w.tape, d, w.os, w.output⟩ : World)) e
theorem far_cell {w : World} {a : Addr} {v : Value} (h : w.cell? a = some v) (p : Since) : (far w p).cell? a = some v :=
  ((far_below w p).cell (World.block_lt_of_cell? w _ h)).trans h
theorem wp_region_far {P : Program} {id : Nat} {Q : Exit → Act → World → Prop} {a : Act} {w : World} {l : List Oper} (hm : P.follows .mixedOrders = true) (hB : Region.lexB .any l.toArray = true)
    (h : wpQuiet P l.toArray (fun w' => ∃ p : Since, w' = far w p) (fun a' => ∀ w', (∃ p : Since, w' = far w p) → Q .normal a' w') l a) : (Code.region id l.toArray true).wp P Q a w :=
  wp_region_quiet (C := fun w' => ∃ p : Since, w' = far w p) hm hB (below_far ((Below.refl _ w).drew)) (by simpa using h)
section
variable {P : Program} {f : FuncId} {args : Array Value} {w : World} {p : Since} {v : Value}
theorem far_call (h : Calls P f args (far w p) fun e w' => e = .returned v ∧ Below (far w p).heap.size (far w p) w') : Calls P f args (far w p) fun e w'' => e = .returned v ∧ ∃ q : Since, w'' = far w q :=
  h.mono fun _ _ ⟨he, hb⟩ => ⟨he, below_far (Below_then (far_below w p) hb (Nat.le_refl _))⟩
theorem far_same (h : Calls P f args (far w p) fun e w' => e = .returned v ∧ far w p = w') : Calls P f args (far w p) fun e w'' => e = .returned v ∧ ∃ q : Since, w'' = far w q :=
  h.mono fun _ _ ⟨he, hb⟩ => ⟨he, p, hb.symm⟩
theorem far_drawn (h : Calls P f args (far w p) fun e w' => e = .returned v ∧ ∃ n, w' = (far w p).drewN n) : Calls P f args (far w p) fun e w'' => e = .returned v ∧ ∃ q : Since, w'' = far w q :=
  far_call (h.mono fun _ _ ⟨he, n, hn⟩ => ⟨he, by rw [hn]; exact Below_drewN (Below.refl _ _) n⟩)
theorem far_drawn_ (h : Calls P f args (far w p) fun e w' => e = .returned v ∧ Drawn_ (far w p) w') : Calls P f args (far w p) fun e w'' => e = .returned v ∧ ∃ q : Since, w'' = far w q :=
  far_drawn h
end
theorem Below_drew {w w1 : World} (h : Below w.drew.heap.size w.drew w1) : Below w.heap.size w w1 := ⟨h.os, h.tape, h.output, h.size, h.block⟩
theorem Sl.far {α : Type} {enc : α → List Value} {w : World} {size : Nat} {A : Option Addr} {l : List α} (h : Sl w enc size A l) (p : Since) : Sl (far w p) enc size A l := h.below (far_below w p)
end Go.Proofs.YtedcgbmdfmgcgaaGreatDoor

/- Marks that a law writes into slices, and looks for afterwards. -/
set_option linter.unusedVariables false
namespace Go.Proofs.YtedcgbmdfmgcgaaGreatDoor
open Go.RowKit

/-! ### plain -/
def dgo : Nat → Nat → Bs → Bs
  | 0, _, acc => acc
  | f + 1, k, acc => if k = 0 then acc else dgo f (k / 10) (UInt8.ofNat (48 + k % 10) :: acc)
def markT (k : Nat) : Bs := if k = 0 then [109, 48] else 109 :: dgo k k []
def MarkAt (k0 : Nat) (acc : Bs) (K : Nat) : Prop := ∃ f, K ≤ f ∧ dgo k0 k0 [] = dgo f K acc
theorem MarkAt.start (k0 : Nat) : MarkAt k0 [] k0 := ⟨k0, Nat.le_refl _, rfl⟩
theorem MarkAt.step {k0 : Nat} {acc : Bs} {K : Nat} (h : MarkAt k0 acc K) (hK : 0 < K) : MarkAt k0 (UInt8.ofNat (48 + K % 10) :: acc) (K / 10) := by
  obtain ⟨f, hf, e⟩ := h
  cases f with
  | zero => omega
  | succ f => exact ⟨f, by omega, by rw [e, dgo, if_neg (by omega)]⟩
theorem MarkAt.done {k0 : Nat} {acc : Bs} {K : Nat} (h : MarkAt k0 acc K) (hK : ¬ 0 < K) : dgo k0 k0 [] = acc := by
  obtain ⟨f, hf, e⟩ := h
  have : K = 0 := by omega
  subst this
  rw [e]
  cases f with
  | zero => rfl
  | succ f => rw [dgo, if_pos rfl]
theorem markT_pos {k : Nat} (h : 0 < k) : markT k = 109 :: dgo k k [] := by unfold markT; rw [if_neg (by omega)]
theorem markT_zero : markT 0 = [109, 48] := rfl

/-! ### memory -/
theorem Own.grew {α : Type} {enc : α → List Value} {w w' : World} {base size : Nat} {E : TypeId} {u v : Value} {l : List α} (h : Own w base E size enc u l) (hg : Grew v w w') (hne : ∀ g, u.ownBlock = some g → v.ownBlock ≠ some g) : Own w' base E size enc u l := by
  refine World.ownsRow.kept h (row := v.ownBlock) hg ?_
  cases hu : u.ownBlock with
  | none => exact .inl rfl
  | some k => right; intro e; exact hne k hu e.symm
theorem Grew.below {w w' : World} {v : Value} (h : Below w.heap.size w w') : Grew v w w' := ⟨h.os, h.tape, h.output, h.size, fun k hk _ => h.block k hk⟩
theorem Grew.refl (v : Value) (w : World) : Grew v w w := ⟨rfl, rfl, rfl, Nat.le_refl _, fun _ _ _ => rfl⟩
theorem Grew.trans {v : Value} {w w1 w2 : World} (h : Grew v w w1) (h2 : Grew v w1 w2) : Grew v w w2 :=
  ⟨h2.os.trans h.os, h2.tape.trans h.tape, h2.output.trans h.output, Nat.le_trans h.size h2.size, fun k hk hne => (h2.block k (Nat.lt_of_lt_of_le hk h.size) hne).trans (h.block k hk hne)⟩
theorem Grew.set {v : Value} {w w1 : World} (h : Grew v w w1) {g o : Nat} (hv : v.ownBlock = some g) (u : Value) : Grew v w (w1.setCell ⟨g, o, none⟩ u) :=
  h.trans ⟨rfl, rfl, rfl, by simp [World.setCell], fun k hk hne => Below.heap_setCell _ _ _ _ (by rintro rfl; exact hne (by rw [hv]))⟩
/-- Below a base that is not above what v owns, nothing has turned. -/
theorem Grew.under {v : Value} {w0 w w' : World} (h : Grew v w w') (hb : Below w0.heap.size w0 w) (hv : ∀ g, v.ownBlock = some g → w0.heap.size ≤ g) : Below w0.heap.size w0 w' :=
  hb.trans ⟨h.os, h.tape, h.output, h.size, fun k hk => h.block k (Nat.lt_of_lt_of_le hk hb.size) (fun e => by have := hv k e.symm; omega)⟩
/-- A row that is owned, ready to be written anew. -/
theorem Own.row {α : Type} {enc : α → List Value} {w : World} {base size : Nat} {E : TypeId} {v : Value} {l : List α} (h : Own w base E size enc v l) (hl : 0 < l.length) :
    ∃ g cap, v = .slice (some ⟨g, 0, none⟩) l.length cap ∧ base ≤ g ∧ l.length ≤ cap ∧ cap ≤ maxLen ∧ Filled w g (cap * size) E [] := by
  rcases h.2 with ⟨hv, hn⟩ | ⟨g, cap, cur, hv, hg, hh, hnc, hcm, hsz, ht⟩
  · omega
  · exact ⟨g, cap, hv, hg, hnc, hcm, cur, hh, hsz, Nat.zero_le _, rfl⟩
theorem Filled.ownc {α : Type} {enc : α → List Value} {wr : World} {g cap : Nat} {E : TypeId} {l : List α} {size base : Nat} (h : Filled wr g (cap * size) E (flat enc l)) (he : ∀ x, (enc x).length = size) (hb : base ≤ g) (hm : cap ≤ maxLen) (hl : l.length ≤ cap) :
    Own wr base E size enc (.slice (some ⟨g, 0, none⟩) l.length cap) l := by
  obtain ⟨cs, hg, hs, hd, ht⟩ := h
  refine ⟨flat_length he l, .inr ⟨g, cap, cs, rfl, hb, hg, hl, hm, hs, ?_⟩⟩
  rw [← flat_length he l]; exact ht
theorem own_of_slice (g o n c : Nat) : (Value.slice (some ⟨g, o, none⟩) n c).ownBlock = some g := rfl

/-! ### walks -/

/-! ### numbers -/
def cntI (k n : Nat) : List Int := (List.range n).map fun j => ((k + j : Nat) : Int)
theorem cntI_len (k n : Nat) : (cntI k n).length = n := by simp [cntI]
theorem cntI_succ (k n : Nat) : cntI k (n + 1) = cntI k n ++ [((k + n : Nat) : Int)] := by simp [cntI, List.range_succ]
theorem cntI_at {k n j : Nat} (h : j < n) : (cntI k n)[j]'(by rw [cntI_len]; exact h) = ((k + j : Nat) : Int) := by simp [cntI]
theorem flatI_len (l : List Int) : (flat encI l).length = l.length := by rw [flat_length (size := 1) (fun _ => rfl), Nat.mul_one]
def Marked {α : Type} (E : TypeId) (size : Nat) (enc : α → List Value) (base : Nat) (v : Value) (l' : List α) (r : Nat) (w : World) (e : Ending) (w' : World) : Prop :=
  e = .returned (.int .i64 (r : Int)) ∧ Own w' base E size enc v l' ∧ Grew v w w'
theorem Own.empty {α : Type} {enc : α → List Value} {w : World} {base size : Nat} {E : TypeId} {v : Value} {l l' : List α} (h : Own w base E size enc v l) (hl : l.length = 0) (hl' : l'.length = 0) : Own w base E size enc v l' := by
  have e1 : l = [] := List.eq_nil_of_length_eq_zero hl
  have e2 : l' = [] := List.eq_nil_of_length_eq_zero hl'
  rw [e2]; rw [e1] at h; exact h
end Go.Proofs.YtedcgbmdfmgcgaaGreatDoor

/- Walks: pieces. -/
set_option linter.unusedVariables false
namespace Go.Proofs.YtedcgbmdfmgcgaaGreatDoor
open Go.RowKit

def pieceR (p : Pc) : Bool := textV (bs p.2) && (prOf (bs p.2) == p.1)
theorem below1 {w : World} (o : Obj) (n : Nat) : Below w.heap.size w ((w.alloc o).drewN n) := Below_drewN ((Below.refl _ _).alloc (Nat.le_refl _) o) n

def szT (left n : Int) : Int := if left < n then -1 else left - n
theorem below3 {w : World} (o1 o2 o3 : Obj) : Below w.heap.size w (((w.alloc o1).alloc o2).alloc o3) :=
  (((Below.refl _ _).alloc (Nat.le_refl _) o1).alloc (by simp) o2).alloc (by simp; omega) o3
theorem box_cell {w w1 : World} {cs : Array Value} {E : TypeId} (hb : Below (w.alloc (.cells cs E)).heap.size (w.alloc (.cells cs E)) w1) (k : Nat) {u : Value} (hu : cs[k]? = some u) : w1.cell? ⟨w.heap.size, k, none⟩ = some u := by
  rw [hb.cell (p := ⟨w.heap.size, k, none⟩) (by simp), cell_of_row _ _ k _ E (0, 0) (heap_alloc_new w _)]; exact hu

end Go.Proofs.YtedcgbmdfmgcgaaGreatDoor

/- Words for slices of structs: several cells written one after the other; marks at a number. -/
set_option linter.unusedVariables false
namespace Go.Proofs.YtedcgbmdfmgcgaaGreatDoor
open Go.RowKit

/-- Cells stored one after the other. -/
def setAll (w : World) (g : Nat) : Nat → List Value → World
  | _, [] => w
  | j, u :: r => setAll (w.setCell ⟨g, j, none⟩ u) g (j + 1) r
theorem Filled.stores_of {wr : World} {g N : Nat} {E : TypeId} : ∀ {done : List Value} (us : List Value) {j : Nat}, Filled wr g N E done → done.length = j → j + us.length ≤ N → Filled (setAll wr g j us) g N E (done ++ us) := by
  intro done us
  induction us generalizing wr done with
  | nil => intro j h _ _; rw [List.append_nil]; exact h
  | cons u r ih =>
    intro j h hd hl
    simp only [List.length_cons] at hl
    have h1 := h.store u (by omega)
    rw [hd] at h1
    have h2 := ih h1 (j := j + 1) (by simp; omega) (by omega)
    have e : done ++ u :: r = done ++ [u] ++ r := by simp
    rw [e]; exact h2
theorem Filled.stores {wr : World} {g N : Nat} {E : TypeId} {done : List Value} (h : Filled wr g N E done) (us : List Value) (hl : done.length + us.length ≤ N) : Filled (setAll wr g done.length us) g N E (done ++ us) :=
  Filled.stores_of us h rfl hl
theorem Own.sl' {α : Type} {enc : α → List Value} {w : World} {base size : Nat} {E : TypeId} {A : Option Addr} {n c : Nat} {l : List α} (h : Own w base E size enc (.slice A n c) l) : Sl w enc size A l := by
  obtain ⟨A', c', e, _, hs, _⟩ := h.sl
  injection e with e1 _ _
  rw [e1]; exact hs
theorem Own.up {α : Type} {enc : α → List Value} {w : World} {base size : Nat} {E : TypeId} {v : Value} {l : List α} (h : Own w base E size enc v l) : ∀ g, v.ownBlock = some g → g < w.heap.size := fun g hg => (h.blk g hg).2
theorem apart_of {u v : Value} {m n : Nat} (hu : ∀ g, u.ownBlock = some g → g < m) (hv : ∀ g, v.ownBlock = some g → n ≤ g) (h : m ≤ n) : ∀ g, u.ownBlock = some g → v.ownBlock ≠ some g := fun g h1 h2 => by
  have a := hu g h1; have b := hv g h2; exact absurd a (by omega)
theorem apart_of' {u v : Value} {m n : Nat} (hu : ∀ g, u.ownBlock = some g → n ≤ g) (hv : ∀ g, v.ownBlock = some g → g < m) (h : m ≤ n) : ∀ g, u.ownBlock = some g → v.ownBlock ≠ some g := fun g h1 h2 => by
  have a := hu g h1; have b := hv g h2; exact absurd b (by omega)
theorem Own.lo {α : Type} {enc : α → List Value} {w : World} {base size : Nat} {E : TypeId} {v : Value} {l : List α} (h : Own w base E size enc v l) : ∀ g, v.ownBlock = some g → base ≤ g := fun g hg => (h.blk g hg).1
end Go.Proofs.YtedcgbmdfmgcgaaGreatDoor

/- Quotas: rows, plain. -/
set_option linter.unusedVariables false
namespace Go.Proofs.YtedcgbmdfmgcgaaGreatDoor
open Go.RowKit
theorem Sl.getQ {w : World} {A : Option Addr} {l : List Qt} {k : Nat} (h : Sl w encQ 2 A l) (hk : k < l.length) :
    ∃ b o, A = some ⟨b, o, none⟩ ∧ w.cell? ⟨b, o + k * 2, none⟩ = some (.string l[k].1) ∧ w.cell? ⟨b, o + k * 2 + 1, none⟩ = some (.int .i64 l[k].2) := by
  obtain ⟨b, o, e, hc⟩ := h.get (fun _ => rfl) hk
  exact ⟨b, o, e, by simpa using hc 0 _ (by omega) rfl, by simpa [Nat.add_assoc] using hc 1 _ (by omega) rfl⟩
def FitQ (l : List Qt) : Prop := ∀ p ∈ l, p.1.size ≤ 1048576
theorem quoV_no {l : List Qt} {k : Nat} (hk : k < l.length) (h : quoAt l k = false) : quoV l = false := by
  unfold quoV
  rw [Bool.and_eq_false_iff]; right
  rw [List.all_eq_false]
  exact ⟨k, List.mem_range.2 hk, by rw [h]; simp⟩
theorem quoV_long {l : List Qt} (h : ¬ l.length ≤ 6) : quoV l = false := by
  unfold quoV; rw [decide_eq_false h]; rfl
theorem quoV_all {l : List Qt} (h : ∀ k, k < l.length → quoAt l k = true) : quoV l = decide (l.length ≤ 6) := by
  unfold quoV
  rw [show (List.range l.length).all (quoAt l) = true from List.all_eq_true.2 fun k hk => h k (List.mem_range.1 hk), Bool.and_true]
theorem quoAt_path {l : List Qt} {k : Nat} (hk : k < l.length) (h : (pathP (bs l[k].1)).isSome = false) : quoAt l k = false := by
  unfold quoAt; rw [List.getElem?_eq_getElem hk]; simp only [tx]; rw [h]; rfl
theorem quoAt_most {l : List Qt} {k : Nat} (hk : k < l.length) (h : inI l[k].2 0 1000 = false) : quoAt l k = false := by
  unfold quoAt; rw [List.getElem?_eq_getElem hk]; simp only; rw [h]; simp
theorem quoAt_twice {l : List Qt} {k j : Nat} (hk : k < l.length) (hj : j < k) (h : bs l[j].1 = bs l[k].1) : quoAt l k = false := by
  unfold quoAt; rw [List.getElem?_eq_getElem hk]; simp only
  rw [show ((l.take k).any fun o => tx o.1 == tx l[k].1) = true from List.any_eq_true.2 ⟨l[j], List.mem_take_iff_getElem.2 ⟨j, by omega, rfl⟩, by simpa [tx] using h⟩]
  simp
theorem quoAt_yes {l : List Qt} {k : Nat} (hk : k < l.length) (h1 : (pathP (bs l[k].1)).isSome = true) (h2 : inI l[k].2 0 1000 = true) (h3 : ∀ j (hj : j < l.length), j < k → bs l[j].1 ≠ bs l[k].1) : quoAt l k = true := by
  unfold quoAt; rw [List.getElem?_eq_getElem hk]; simp only [tx]
  rw [h1, h2]
  have e : ((l.take k).any fun o => bs o.1 == bs l[k].1) = false := by
    rw [List.any_eq_false]
    intro o ho
    obtain ⟨j, hj, rfl⟩ := List.mem_take_iff_getElem.1 ho
    have := h3 j (by omega) (by omega)
    simpa using this
  exact (congrArg (fun b => (true && true) && !b) e)
end Go.Proofs.YtedcgbmdfmgcgaaGreatDoor

/- Sizes below paths, files with a word, quotas that are passed: plain lemmas for the walks of the code. -/
set_option linter.unusedVariables false
namespace Go.Proofs.YtedcgbmdfmgcgaaGreatDoor
open Go.RowKit
theorem fileOf_len {s : List Pc} {p : Int} {t : Bs} (h : fileOf s p = some t) : t.length ≤ 40 := by
  unfold fileOf at h
  obtain ⟨u, _, h2⟩ := Option.bind_eq_some_iff.1 h
  have := (readFi_iff.1 h2).2
  unfold contV at this
  rw [Bool.and_eq_true, decide_eq_true_eq] at this; exact this.2
theorem readAt_len (s : List Pc) (root : Int) (p : Bs) : ((readAt s root p).getD []).length ≤ 40 := by
  cases h : readAt s root p with
  | none => simp
  | some t =>
    unfold readAt at h
    obtain ⟨q, _, h2⟩ := Option.bind_eq_some_iff.1 h
    exact fileOf_len h2
def filesB (s : List Pc) (root : Int) : List ByteArray := (allF s root).map mk
theorem filesB_len (s : List Pc) (root : Int) : (filesB s root).length ≤ 27 := by unfold filesB; rw [List.length_map]; exact allF_len s root
theorem filesB_size (s : List Pc) (root : Int) : ∀ x ∈ filesB s root, x.size ≤ 27 := by
  intro x hx
  unfold filesB at hx
  obtain ⟨y, hy, rfl⟩ := List.mem_map.1 hx
  rw [mk_size]; exact allF_size s root y hy
theorem filesB_bs (s : List Pc) (root : Int) : (filesB s root).map bs = allF s root := by
  unfold filesB
  rw [List.map_map]
  exact (List.map_congr_left fun x _ => rfl).trans (List.map_id _)
/-- What the first k files below a path have. -/
def useUpto (s : List Pc) (root : Int) (path : Bs) (l : List ByteArray) (k : Nat) : Int := sizeOf' s root (((l.take k).map bs).filter fun f => belowP f path)
theorem useUpto_zero (s : List Pc) (root : Int) (path : Bs) (l : List ByteArray) : useUpto s root path l 0 = 0 := rfl
theorem useUpto_yes {s : List Pc} {root : Int} {path : Bs} {l : List ByteArray} {k : Nat} (hk : k < l.length) (h : belowP (bs l[k]) path = true) :
    useUpto s root path l (k + 1) = useUpto s root path l k + ((mk ((readAt s root (bs l[k])).getD [])).size : Int) := by
  unfold useUpto sizeOf'
  rw [List.take_succ_eq_append_getElem hk, List.map_append, List.filter_append, List.foldl_append, List.map_cons, List.map_nil, List.filter_cons, h, if_pos rfl, List.filter_nil, List.foldl_cons, List.foldl_nil, mk_size]
  rfl
theorem useUpto_no {s : List Pc} {root : Int} {path : Bs} {l : List ByteArray} {k : Nat} (hk : k < l.length) (h : belowP (bs l[k]) path = false) :
    useUpto s root path l (k + 1) = useUpto s root path l k := by
  unfold useUpto sizeOf'
  rw [List.take_succ_eq_append_getElem hk, List.map_append, List.filter_append, List.map_cons, List.map_nil, List.filter_cons, h]
  simp
theorem useUpto_bd (s : List Pc) (root : Int) (path : Bs) (l : List ByteArray) : ∀ k, k ≤ l.length → 0 ≤ useUpto s root path l k ∧ useUpto s root path l k ≤ 40 * k
  | 0, _ => by rw [useUpto_zero]; omega
  | k + 1, hk => by
    have ih := useUpto_bd s root path l k (by omega)
    cases h : belowP (bs l[k]) path
    · rw [useUpto_no (by omega) h]; omega
    · rw [useUpto_yes (by omega) h, mk_size]
      have := readAt_len s root (bs l[k])
      omega
theorem useUpto_all {s : List Pc} {root : Int} {path : Bs} {k : Nat} (hp : (pathP path).isSome = true) (hv : storeV s = true) (hk : (filesB s root).length ≤ k) : useUpto s root path (filesB s root) k = usedP s root path := by
  unfold useUpto usedP
  rw [List.take_of_length_le hk, filesB_bs, hp, hv]; rfl
theorem usedP_path {s : List Pc} {root : Int} {path : Bs} (h : (pathP path).isSome = false) : usedP s root path = -1 := by unfold usedP; rw [h]; rfl
theorem usedP_store {s : List Pc} {root : Int} {path : Bs} (h : storeV s = false) : usedP s root path = -1 := by unfold usedP; rw [h]; simp
/-! ### files with a word -/
def hasW (s : List Pc) (root : Int) (word : Bs) (f : Bs) : Bool := (wordsOf ((readAt s root f).getD [])).contains word
def withP (s : List Pc) (root : Int) (word : Bs) : List Bs := (allF s root).filter (hasW s root word)
def withB (s : List Pc) (root : Int) (word : Bs) : List ByteArray := (filesB s root).filter fun f => hasW s root word (bs f)
theorem withB_eq (s : List Pc) (root : Int) (word : Bs) : withB s root word = (withP s root word).map mk := by
  unfold withB withP filesB
  rw [List.filter_map]; rfl
theorem withB_len (s : List Pc) (root : Int) (word : Bs) : (withB s root word).length ≤ 27 := Nat.le_trans (List.length_filter_le _ _) (filesB_len s root)
theorem filterB_upto {p : ByteArray → Bool} {l : List ByteArray} {k : Nat} (h : k < l.length) : (l.take (k + 1)).filter p = (l.take k).filter p ++ if p l[k] then [l[k]] else [] := by
  rw [List.take_succ_eq_append_getElem h, List.filter_append]
  cases hp : p l[k] <;> simp [hp]
/-! ### quotas that are passed -/
def overQ (s : List Pc) (root : Int) (q : Qt) : Bool := decide (usedP s root (bs q.1) > q.2)
def overB (s : List Pc) (root : Int) (l : List Qt) : List ByteArray := (l.filter (overQ s root)).map (·.1)
def overR (s : List Pc) (root : Int) (l : List Qt) : List ByteArray := if quoV l && storeV s then overB s root l else []
theorem overB_next {s : List Pc} {root : Int} {l : List Qt} {k : Nat} (h : k < l.length) : overB s root (l.take (k + 1)) = overB s root (l.take k) ++ if overQ s root l[k] then [l[k].1] else [] := by
  unfold overB
  rw [List.take_succ_eq_append_getElem h, List.filter_append, List.map_append]
  cases hp : overQ s root l[k] <;> simp [hp]
theorem overB_len (s : List Pc) (root : Int) (l : List Qt) : (overB s root l).length ≤ l.length := by
  unfold overB; rw [List.length_map]; exact List.length_filter_le _ _
theorem overR_len (s : List Pc) (root : Int) (l : List Qt) : (overR s root l).length ≤ l.length := by
  unfold overR; split
  · exact overB_len s root l
  · simp
theorem overR_yes {s : List Pc} {root : Int} {l : List Qt} (h1 : quoV l = true) (h2 : storeV s = true) : overR s root l = overB s root l := by unfold overR; rw [h1, h2]; rfl
theorem overR_no {s : List Pc} {root : Int} {l : List Qt} (h1 : quoV l = false ∨ storeV s = false) : overR s root l = [] := by
  unfold overR
  rcases h1 with h | h
  · rw [h]; rfl
  · rw [h]; simp
theorem quoV_len {l : List Qt} (h : quoV l = true) : l.length ≤ 6 := by
  unfold quoV at h; rw [Bool.and_eq_true, decide_eq_true_eq] at h; exact h.1
theorem quoV_path {l : List Qt} (h : quoV l = true) {q : Qt} (hq : q ∈ l) : (pathP (bs q.1)).isSome = true ∧ 0 ≤ q.2 ∧ q.2 ≤ 1000 := by
  unfold quoV at h
  rw [Bool.and_eq_true, List.all_eq_true] at h
  obtain ⟨k, hk, rfl⟩ := List.getElem_of_mem hq
  have h2 := h.2 k (List.mem_range.2 hk)
  unfold quoAt at h2
  rw [List.getElem?_eq_getElem hk] at h2
  simp only [Bool.and_eq_true] at h2
  refine ⟨h2.1.1, ?_⟩
  have := h2.1.2
  unfold inI at this
  rwa [decide_eq_true_eq] at this
theorem usedP_bd {s : List Pc} {root : Int} {path : Bs} : -1 ≤ usedP s root path ∧ usedP s root path ≤ 1080 := by
  cases hp : (pathP path).isSome
  · rw [usedP_path hp]; omega
  · cases hv : storeV s
    · rw [usedP_store hv]; omega
    · have := useUpto_bd s root path (filesB s root) _ (Nat.le_refl _)
      rw [useUpto_all hp hv (Nat.le_refl _)] at this
      have h2 := filesB_len s root
      omega
/-! ### one path below another -/
theorem belowP_no {a b : Bs} (h : pathP a = none ∨ pathP b = none) : belowP a b = false := by
  unfold belowP
  rcases h with h | h
  · rw [h]
  · rw [h]; cases pathP a <;> rfl
theorem belowP_yes {a b : Bs} {x y : List Bs} (h : pathP a = some x) (h2 : pathP b = some y) : belowP a b = y.isPrefixOf x := by
  unfold belowP; rw [h, h2]
theorem prefix_len {x y : List Bs} (h : ¬ y.length ≤ x.length) : y.isPrefixOf x = false := by
  cases hp : y.isPrefixOf x
  · rfl
  · exact absurd (List.isPrefixOf_iff_prefix.1 hp).length_le h
theorem prefix_take {x y : List Bs} (h : y.length ≤ x.length) : y.isPrefixOf x = decide (x.take y.length = y) := by
  rw [Bool.eq_iff_iff, List.isPrefixOf_iff_prefix, decide_eq_true_eq, List.prefix_iff_eq_take]
  exact eq_comm
theorem prefix_no {x y : List Bs} {k : Nat} (hk : k < y.length) (hx : k < x.length) (h : x[k] ≠ y[k]) : y.isPrefixOf x = false := by
  cases hp : y.isPrefixOf x
  · rfl
  · obtain ⟨t, rfl⟩ := List.isPrefixOf_iff_prefix.1 hp
    exact absurd (List.getElem_append_left hk) h
theorem prefix_yes {x y : List Bs} (hl : y.length ≤ x.length) (h : ∀ k (h1 : k < y.length) (h2 : k < x.length), x[k] = y[k]) : y.isPrefixOf x = true := by
  rw [List.isPrefixOf_iff_prefix, List.prefix_iff_eq_take]
  apply List.ext_getElem
  · rw [List.length_take]; omega
  · intro k h1 h2
    rw [List.getElem_take]; exact (h k h1 (by rw [List.length_take] at h2; omega)).symm
theorem bs_at {x : List Bs} {k : Nat} (h : k < (x.map mk).length) : bs (x.map mk)[k] = x[k]'(by rw [List.length_map] at h; exact h) := by
  rw [List.getElem_map]; rfl
theorem below_ne {a b : Bs} {x y : List Bs} (h : pathP a = some x) (h2 : pathP b = some y) (k : Nat) (hk : k < (y.map mk).length) (hk2 : k < (x.map mk).length) (h3 : bs (x.map mk)[k] ≠ bs (y.map mk)[k]) : belowP a b = false := by
  rw [belowP_yes h h2]
  rw [bs_at, bs_at] at h3
  exact prefix_no _ _ h3
theorem below_all {a b : Bs} {x y : List Bs} (h : pathP a = some x) (h2 : pathP b = some y) (hl : (y.map mk).length ≤ (x.map mk).length) (h3 : ∀ k (hk : k < (y.map mk).length) (hk2 : k < (x.map mk).length), bs (x.map mk)[k] = bs (y.map mk)[k]) : belowP a b = true := by
  rw [belowP_yes h h2]
  rw [List.length_map, List.length_map] at hl
  refine prefix_yes hl fun k h1 h4 => ?_
  have := h3 k (by rw [List.length_map]; exact h1) (by rw [List.length_map]; exact h4)
  rwa [bs_at, bs_at] at this
theorem below_long {a b : Bs} {x y : List Bs} (h : pathP a = some x) (h2 : pathP b = some y) (hl : ¬ (y.map mk).length ≤ (x.map mk).length) : belowP a b = false := by
  rw [belowP_yes h h2]
  rw [List.length_map, List.length_map] at hl
  exact prefix_len hl
theorem below_eq {a b : Bs} {x y : List Bs} (h : pathP a = some x) (h2 : pathP b = some y) (hl : (y.map mk).length ≤ (x.map mk).length) : belowP a b = decide (((x.map mk).take (y.map mk).length).map bs = (y.map mk).map bs) := by
  rw [belowP_yes h h2]
  rw [List.length_map, List.length_map] at hl
  rw [prefix_take hl, List.map_take, List.map_map, List.map_map, List.length_map]
  rw [show x.map (bs ∘ mk) = x from (List.map_congr_left fun z _ => rfl).trans (List.map_id _), show y.map (bs ∘ mk) = y from (List.map_congr_left fun z _ => rfl).trans (List.map_id _)]
def eqL (l m : List ByteArray) : Bool := decide (l.map bs = m.map bs)
theorem eqL_len {l m : List ByteArray} (h : l.length ≠ m.length) : eqL l m = false := by
  unfold eqL; exact decide_eq_false fun e => h (by have := congrArg List.length e; simpa using this)
theorem eqL_ne {l m : List ByteArray} (k : Nat) (h1 : k < l.length) (h2 : k < m.length) (h : bs l[k] ≠ bs m[k]) : eqL l m = false := by
  unfold eqL
  refine decide_eq_false fun e => h ?_
  have : (l.map bs)[k]? = (m.map bs)[k]? := by rw [e]
  rw [List.getElem?_map, List.getElem?_map, List.getElem?_eq_getElem h1, List.getElem?_eq_getElem h2] at this
  injection this
theorem eqL_all {l m : List ByteArray} (h : l.length = m.length) (h2 : ∀ k (h1 : k < l.length) (h2 : k < m.length), bs l[k] = bs m[k]) : eqL l m = true := by
  unfold eqL
  refine decide_eq_true (List.ext_getElem (by simpa using h) fun k h3 h4 => ?_)
  rw [List.getElem_map, List.getElem_map]
  exact h2 k (by simpa using h3) (by simpa using h4)
end Go.Proofs.YtedcgbmdfmgcgaaGreatDoor

/- What a write or a drop leaves: stores that only grow, folders that name what is there. Plain Lean, no program in sight. -/
set_option linter.unusedVariables false
namespace Go.Proofs.YtedcgbmdfmgcgaaGreatDoor
theorem restD_valid (l : List En) (n : Bs) (o : Option Int) : entsV (restD l n o) = true := by
  cases hv : entsV l
  · cases o with
    | none => show entsV (dropE l n).1 = true; rw [dropE_bad hv]; rfl
    | some q => show entsV (putE l (mk n, q)).1 = true; rw [putE_bad hv]; rfl
  · cases o with
    | none => exact dropE_valid hv n
    | some q =>
      show entsV (putE l (mk n, q)).1 = true
      unfold putE
      rw [hv, if_pos rfl]
      split
      · rename_i h; exact h
      · exact hv
theorem restD_mem {l : List En} {n : Bs} {o : Option Int} {e : En} (h : e ∈ restD l n o) : e ∈ l ∨ (e.1 = mk n ∧ o = some e.2) := by
  cases hv : entsV l
  · cases o with
    | none =>
      have h2 : e ∈ (dropE l n).1 := h
      rw [dropE_bad hv] at h2; cases h2
    | some q =>
      have h2 : e ∈ (putE l (mk n, q)).1 := h
      rw [putE_bad hv] at h2; cases h2
  · cases o with
    | none =>
      have h2 : e ∈ (dropE l n).1 := h
      rw [dropE_filter hv] at h2
      exact .inl (List.mem_filter.1 h2).1
    | some q =>
      have h2 : e ∈ (putE l (mk n, q)).1 := h
      unfold putE at h2
      rw [hv, if_pos rfl] at h2
      split at h2
      · rcases (mem_insE (entsV_sorted hv) (mk n, q) e).1 h2 with rfl | ⟨h3, _⟩
        · exact .inr ⟨rfl, rfl⟩
        · exact .inl h3
      · exact .inl h2
theorem folder_put {s s' : List Pc} {ts : List ByteArray} {l : List En} (hs : storeV s = true) (h : putAll s ts = some s') (ht : mk (foldT l) ∈ ts) (hl : entsV l = true) : folderOf s' (prOf (foldT l)) = some l := by
  have h1 : getT s' (prOf (foldT l)) = some (mk (foldT l)) := getT_put hs h ht
  unfold folderOf
  rw [h1, Option.bind_some]
  exact readF_foldT hl
theorem file_put {s s' : List Pc} {ts : List ByteArray} {c : Bs} (hs : storeV s = true) (h : putAll s ts = some s') (ht : mk (fileT c) ∈ ts) (hc : contV c = true) : fileOf s' (prOf (fileT c)) = some c := by
  have h1 : getT s' (prOf (fileT c)) = some (mk (fileT c)) := getT_put hs h ht
  unfold fileOf
  rw [h1, Option.bind_some]
  exact readFi_fileT hc
/-! ### the parts of a write -/
theorem upT_top {l : List En} {fs : List (List En)} {n : Bs} {ns : List Bs} {leaf : Int} {x : List ByteArray × Int} (h : upT (l :: fs) (n :: ns) leaf = some x) :
    ∃ y, upT fs ns leaf = some y ∧ (putE l (mk n, y.2)).2 = true ∧ x = (y.1 ++ [mk (foldT (putE l (mk n, y.2)).1)], prOf (foldT (putE l (mk n, y.2)).1)) := by
  rw [upT] at h
  obtain ⟨y, hy, h⟩ := Option.bind_eq_some_iff.1 h
  split at h
  · rename_i hp; injection h with h; exact ⟨y, hy, hp, h.symm⟩
  · cases h
theorem foldsW_top {s : List Pc} {a : Option Int} {n : Bs} {r : List Bs} {fs : List (List En)} (h : foldsW s a (n :: r) = some fs) :
    ∃ l fs', listAt s a = some l ∧ foldsW s (getE l n) r = some fs' ∧ fs = l :: fs' ∧ (r = [] → leafOk s (getE l n) = true) := by
  rw [foldsW] at h
  obtain ⟨l, hl, h⟩ := Option.bind_eq_some_iff.1 h
  split at h
  · cases h
  · rename_i hc
    obtain ⟨fs', h1, h2⟩ := Option.map_eq_some_iff.1 h
    refine ⟨l, fs', hl, h1, h2.symm, ?_⟩
    rintro rfl
    simpa using hc
theorem foldsW_mem {s : List Pc} : ∀ (ps : List Bs) (a : Option Int) (fs : List (List En)), foldsW s a ps = some fs → ∀ l ∈ fs, l = [] ∨ ∃ p, folderOf s p = some l
  | [], a, fs, h, l, hl => by rw [foldsW] at h; injection h with h; subst h; cases hl
  | n :: r, a, fs, h, l, hl => by
    obtain ⟨l0, fs', h1, h2, rfl, _⟩ := foldsW_top h
    rcases List.mem_cons.1 hl with rfl | hl
    · cases a with
      | none => have h1 : some [] = some l := h1; injection h1 with h1; exact .inl h1.symm
      | some p => exact .inr ⟨p, h1⟩
    · exact foldsW_mem r _ fs' h2 l hl
theorem foldsD_mem {s : List Pc} : ∀ (ps : List Bs) (p : Int), ∀ l ∈ foldsD s p ps, l = [] ∨ ∃ p, folderOf s p = some l
  | [], p, l, hl => by cases hl
  | n :: r, p, l, hl => by
    rw [foldsD] at hl
    rcases List.mem_cons.1 hl with rfl | hl
    · cases h : folderOf s p with
      | none => exact .inl rfl
      | some x => exact .inr ⟨p, h⟩
    · exact foldsD_mem r _ l hl
/-- What a folder put anew holds: what it held, and the name with a print below. -/
def NewIn (fs : List (List En)) (ns : List Bs) (P : Int → Prop) (t : ByteArray) : Prop :=
  ∃ L : List En, entsV L = true ∧ t = mk (foldT L) ∧ ∀ e ∈ L, (∃ l ∈ fs, e ∈ l) ∨ (tx e.1 ∈ ns ∧ P e.2)
theorem NewIn.up {fs : List (List En)} {ns : List Bs} {P Q : Int → Prop} {t : ByteArray} {l : List En} {n : Bs} (h : NewIn fs ns P t) (hP : ∀ p, P p → Q p) : NewIn (l :: fs) (n :: ns) Q t := by
  obtain ⟨L, h1, h2, h3⟩ := h
  refine ⟨L, h1, h2, fun e he => ?_⟩
  rcases h3 e he with ⟨m, hm, h4⟩ | ⟨h4, h5⟩
  · exact .inl ⟨m, by simp [hm], h4⟩
  · exact .inr ⟨by simp [h4], hP _ h5⟩
theorem upT_texts : ∀ (fs : List (List En)) (ns : List Bs) (leaf : Int) (x : List ByteArray × Int), upT fs ns leaf = some x →
    (∀ t ∈ x.1, NewIn fs ns (fun q => q = leaf ∨ ∃ u ∈ x.1, q = prOf (tx u)) t) ∧ (x.2 = leaf ∨ ∃ u ∈ x.1, x.2 = prOf (tx u))
  | [], ns, leaf, x, h => by
    rw [upT] at h; injection h with h; subst h
    · exact ⟨fun t ht => by simp at ht, .inl rfl⟩
    · intro l fs n ns h; cases h
  | l :: fs, [], leaf, x, h => by
    rw [upT] at h; injection h with h; subst h
    · exact ⟨fun t ht => by simp at ht, .inl rfl⟩
    · intro l fs n ns _ h; cases h
  | l :: fs, n :: ns, leaf, x, h => by
    obtain ⟨y, hy, hp, rfl⟩ := upT_top h
    obtain ⟨i1, i2⟩ := upT_texts fs ns leaf y hy
    obtain ⟨g1, g2, g3⟩ := putE_ok hp
    have hup : ∀ q, (q = leaf ∨ ∃ u ∈ y.1, q = prOf (tx u)) → (q = leaf ∨ ∃ u ∈ (y.1 ++ [mk (foldT (putE l (mk n, y.2)).1)]), q = prOf (tx u)) := by
      rintro q (h | ⟨u, hu, h⟩)
      · exact .inl h
      · exact .inr ⟨u, by simp [hu], h⟩
    refine ⟨fun t ht => ?_, .inr ⟨mk (foldT (putE l (mk n, y.2)).1), by simp, rfl⟩⟩
    rcases List.mem_append.1 ht with ht | ht
    · exact (i1 t ht).up hup
    · rw [List.mem_singleton] at ht
      subst ht
      refine ⟨_, g2, rfl, fun e he => ?_⟩
      rw [g3] at he
      rcases (mem_insE (entsV_sorted g1) (mk n, y.2) e).1 he with rfl | ⟨he, _⟩
      · exact .inr ⟨by show n ∈ _; simp, hup _ i2⟩
      · exact .inl ⟨l, by simp, he⟩
theorem dT_texts : ∀ (fs : List (List En)) (ns : List Bs),
    (∀ t ∈ (dT fs ns).1, NewIn fs ns (fun q => ∃ u ∈ (dT fs ns).1, q = prOf (tx u)) t) ∧ (∀ q, (dT fs ns).2 = some q → ∃ u ∈ (dT fs ns).1, q = prOf (tx u))
  | [], ns => by
    have e : dT [] ns = ([], none) := by cases ns <;> rfl
    rw [e]
    exact ⟨fun t ht => by simp at ht, fun q h => by cases h⟩
  | l :: fs, [] => by
    have e : dT (l :: fs) [] = ([], none) := rfl
    rw [e]
    exact ⟨fun t ht => by simp at ht, fun q h => by cases h⟩
  | l :: fs, n :: ns => by
    obtain ⟨i1, i2⟩ := dT_texts fs ns
    rw [dT]
    split
    · exact ⟨fun t ht => (i1 t ht).up fun _ h => h, fun q h => by cases h⟩
    · have hup : ∀ q, (∃ u ∈ (dT fs ns).1, q = prOf (tx u)) → ∃ u ∈ ((dT fs ns).1 ++ [mk (foldT (restD l n (dT fs ns).2))]), q = prOf (tx u) := by
        rintro q ⟨u, hu, h⟩
        exact ⟨u, by simp [hu], h⟩
      refine ⟨fun t ht => ?_, fun q h => ?_⟩
      · rcases List.mem_append.1 ht with ht | ht
        · exact (i1 t ht).up hup
        · rw [List.mem_singleton] at ht
          subst ht
          refine ⟨_, restD_valid _ _ _, rfl, fun e he => ?_⟩
          rcases restD_mem he with he | ⟨h1, h2⟩
          · exact .inl ⟨l, by simp, he⟩
          · exact .inr ⟨by rw [h1, tx_mk]; simp, hup _ (i2 _ h2)⟩
      · injection h with h
        exact ⟨mk (foldT (restD l n (dT fs ns).2)), by simp, h.symm⟩
/-! ### stores that only grow, folders that name what is there -/
def Keep (s s' : List Pc) : Prop := ∀ p t, getT s p = some t → getT s' p = some t
theorem Keep.refl (s : List Pc) : Keep s s := fun _ _ h => h
theorem Keep.trans {a b c : List Pc} (h : Keep a b) (h2 : Keep b c) : Keep a c := fun p t hg => h2 p t (h p t hg)
theorem keep_put {s s' : List Pc} {ts : List ByteArray} (hs : storeV s = true) (h : putAll s ts = some s') : Keep s s' := fun _ _ hg => getT_keep hs h hg
theorem Keep.there {s s' : List Pc} (h : Keep s s') {p : Int} (hp : (getT s p).isSome = true) : (getT s' p).isSome = true := by
  obtain ⟨t, ht⟩ := Option.isSome_iff_exists.1 hp
  rw [h p t ht]; rfl
theorem Keep.gT {s s' : List Pc} (h : Keep s s') {p : Int} (hp : (getT s p).isSome = true) : getT s' p = getT s p := by
  obtain ⟨t, ht⟩ := Option.isSome_iff_exists.1 hp
  rw [h p t ht, ht]
theorem Keep.fo {s s' : List Pc} (h : Keep s s') {p : Int} (hp : (getT s p).isSome = true) : folderOf s' p = folderOf s p := by
  unfold folderOf; rw [h.gT hp]
theorem Keep.fi {s s' : List Pc} (h : Keep s s') {p : Int} (hp : (getT s p).isSome = true) : fileOf s' p = fileOf s p := by
  unfold fileOf; rw [h.gT hp]
theorem folder_there {s : List Pc} {p : Int} {l : List En} (h : folderOf s p = some l) : (getT s p).isSome = true := by
  unfold folderOf at h
  obtain ⟨t, ht, _⟩ := Option.bind_eq_some_iff.1 h
  rw [ht]; rfl
theorem file_there {s : List Pc} {p : Int} (h : (fileOf s p).isSome = true) : (getT s p).isSome = true := by
  unfold fileOf at h
  cases hg : getT s p with
  | none => rw [hg] at h; cases h
  | some t => rfl
theorem Keep.fold {s s' : List Pc} (h : Keep s s') {p : Int} {l : List En} (hf : folderOf s p = some l) : folderOf s' p = some l := by rw [h.fo (folder_there hf), hf]
/-- Each entry of each folder is there, and has a name of a kind. -/
def Good (N : Bs → Prop) (s : List Pc) : Prop := ∀ p l, folderOf s p = some l → ∀ e ∈ l, (getT s e.2).isSome = true ∧ N (tx e.1)
theorem good_nil (N : Bs → Prop) : Good N [] := fun p l h => by cases h
theorem Good.mono {N M : Bs → Prop} {s : List Pc} (h : Good N s) (hm : ∀ n, N n → M n) : Good M s := fun p l hf e he => ⟨(h p l hf e he).1, hm _ (h p l hf e he).2⟩
theorem good_put {N : Bs → Prop} {s s' : List Pc} {ts : List ByteArray} (hs : storeV s = true) (hg : Good N s) (h : putAll s ts = some s')
    (ht : ∀ t ∈ ts, ∀ l, readF (tx t) = some l → ∀ e ∈ l, N (tx e.1) ∧ ((getT s e.2).isSome = true ∨ ∃ u ∈ ts, e.2 = prOf (tx u))) : Good N s' := by
  obtain ⟨h1, h2⟩ := putAll_ok _ _ _ hs h
  have hk := keep_put hs h
  intro p l hf e he
  unfold folderOf at hf
  obtain ⟨t, hp, hr⟩ := Option.bind_eq_some_iff.1 hf
  rcases (h2 _).1 (getT_some hp) with h3 | ⟨u, hu, h3⟩
  · have h4 : folderOf s p = some l := by unfold folderOf; rw [getT_mem (storeV_sorted hs) h3]; exact hr
    exact ⟨hk.there (hg p l h4 e he).1, (hg p l h4 e he).2⟩
  · injection h3 with h5 h6
    subst h6
    obtain ⟨h7, h8⟩ := ht t hu l hr e he
    refine ⟨?_, h7⟩
    rcases h8 with h8 | ⟨v, hv, h8⟩
    · exact hk.there h8
    · rw [h8, getT_put hs h hv]; rfl
theorem newIn_good {N : Bs → Prop} {s : List Pc} {fs : List (List En)} {ns : List Bs} {P : Int → Prop} {ts : List ByteArray} {t : ByteArray} (hg : Good N s) (hfs : ∀ l ∈ fs, l = [] ∨ ∃ p, folderOf s p = some l) (hns : ∀ n ∈ ns, N n)
    (hP : ∀ q, P q → ∃ u ∈ ts, q = prOf (tx u)) (h : NewIn fs ns P t) : ∀ l, readF (tx t) = some l → ∀ e ∈ l, N (tx e.1) ∧ ((getT s e.2).isSome = true ∨ ∃ u ∈ ts, e.2 = prOf (tx u)) := by
  obtain ⟨L, h1, rfl, h3⟩ := h
  intro l hr e he
  rw [tx_mk, readF_foldT h1] at hr
  injection hr with hr
  subst hr
  rcases h3 e he with ⟨m, hm, h4⟩ | ⟨h4, h5⟩
  · rcases hfs m hm with rfl | ⟨p, hp⟩
    · cases h4
    · have := hg p m hp e h4
      exact ⟨this.2, .inl this.1⟩
  · exact ⟨hns _ h4, .inr (hP _ h5)⟩
/-! ### writing -/
theorem writeA_ok {s s' : List Pc} {root r' : Int} {path c : Bs} (h : writeA s root path c = (s', r', true)) : storeV s = true ∧ contV c = true ∧ ∃ n r fs x, pathP path = some (n :: r) ∧ foldsW s (some root) (n :: r) = some fs ∧
    upT fs (n :: r) (prOf (fileT c)) = some x ∧ putAll s (mk (fileT c) :: x.1) = some s' ∧ r' = x.2 := by
  unfold writeA at h
  cases hc : storeV s && contV c
  · rw [hc] at h; simp at h
  · rw [hc, if_pos rfl] at h
    rw [Bool.and_eq_true] at hc
    cases hp : pathP path with
    | none => rw [hp] at h; simp at h
    | some ps =>
      rw [hp] at h
      cases ps with
      | nil => simp at h
      | cons n r =>
        simp only at h
        cases hw : writeP s root (n :: r) c with
        | none => rw [hw] at h; simp at h
        | some x =>
          rw [hw] at h
          simp only [Prod.mk.injEq, and_true] at h
          obtain ⟨rfl, rfl⟩ := h
          unfold writeP at hw
          obtain ⟨fs, h1, hw⟩ := Option.bind_eq_some_iff.1 hw
          obtain ⟨y, h2, hw⟩ := Option.bind_eq_some_iff.1 hw
          obtain ⟨s', h3, hw⟩ := Option.map_eq_some_iff.1 hw
          subst hw
          exact ⟨hc.1, hc.2, n, r, fs, y, rfl, h1, h2, h3, rfl⟩
theorem dropA_ok {s s' : List Pc} {root r' : Int} {path : Bs} (h : dropA s root path = (s', r', true)) : storeV s = true ∧ ∃ n r, pathP path = some (n :: r) ∧
    putAll s (dropTs (dT (foldsD s root (n :: r)) (n :: r))).1 = some s' ∧ r' = (dropTs (dT (foldsD s root (n :: r)) (n :: r))).2 := by
  unfold dropA at h
  cases hc : storeV s
  · rw [hc] at h; simp at h
  · rw [hc, if_pos rfl] at h
    cases hp : pathP path with
    | none => rw [hp] at h; simp at h
    | some ps =>
      rw [hp] at h
      cases ps with
      | nil => simp at h
      | cons n r =>
        simp only at h
        cases hw : dropP s root (n :: r) with
        | none => rw [hw] at h; simp at h
        | some x =>
          rw [hw] at h
          simp only [Prod.mk.injEq, and_true] at h
          obtain ⟨rfl, rfl⟩ := h
          unfold dropP at hw
          split at hw
          · obtain ⟨s', h3, hw⟩ := Option.map_eq_some_iff.1 hw
            subst hw
            exact ⟨rfl, n, r, rfl, h3, rfl⟩
          · cases hw
/-- What a change of a store leaves. -/
structure Chg (s s' : List Pc) (r' : Int) : Prop where
  old : storeV s = true
  valid : storeV s' = true
  keep : Keep s s'
  root : (folderOf s' r').isSome = true
theorem write_chg {s s' : List Pc} {root r' : Int} {path c : Bs} (h : writeA s root path c = (s', r', true)) : Chg s s' r' := by
  obtain ⟨hs, hc, n, r, fs, x, _, hf, hx, hp, rfl⟩ := writeA_ok h
  refine ⟨hs, (putAll_ok _ _ _ hs hp).1, keep_put hs hp, ?_⟩
  obtain ⟨l, fs', _, _, rfl, _⟩ := foldsW_top hf
  obtain ⟨y, _, hpe, rfl⟩ := upT_top hx
  rw [folder_put hs hp (by simp) (putE_ok hpe).2.1]; rfl
theorem drop_chg {s s' : List Pc} {root r' : Int} {path : Bs} (h : dropA s root path = (s', r', true)) : Chg s s' r' := by
  obtain ⟨hs, n, r, _, hp, rfl⟩ := dropA_ok h
  refine ⟨hs, (putAll_ok _ _ _ hs hp).1, keep_put hs hp, ?_⟩
  rw [foldsD] at hp ⊢
  generalize (folderOf s root).getD [] = l at *
  generalize foldsD s _ r = fs at *
  rw [dT] at hp ⊢
  split at hp
  · rename_i h1
    rw [if_pos h1]
    show (folderOf s' (prOf (foldT []))).isSome = true
    have hp : putAll s ((dT fs r).1 ++ [mk (foldT [])]) = some s' := hp
    rw [folder_put hs hp (by simp) entsV_nil]; rfl
  · rename_i h1
    rw [if_neg h1]
    show (folderOf s' (prOf (foldT _))).isSome = true
    have hp : putAll s ((dT fs r).1 ++ [mk (foldT (restD l n (dT fs r).2))]) = some s' := hp
    rw [folder_put hs hp (by simp) (restD_valid _ _ _)]; rfl
theorem write_good {N : Bs → Prop} {s s' : List Pc} {root r' : Int} {path c : Bs} (h : writeA s root path c = (s', r', true)) (hg : Good N s) (hn : ∀ ps, pathP path = some ps → ∀ n ∈ ps, N n) : Good N s' := by
  obtain ⟨hs, hc, n, r, fs, x, hpp, hf, hx, hp, rfl⟩ := writeA_ok h
  refine good_put hs hg hp fun t ht => ?_
  rcases List.mem_cons.1 ht with rfl | ht
  · intro l hr
    have h0 : readF (tx (mk (fileT c))) = none := readF_file (by rw [tx_mk, readFi_fileT hc]; rfl)
    rw [h0] at hr; cases hr
  · refine newIn_good hg (foldsW_mem _ _ _ hf) (hn _ hpp) ?_ ((upT_texts _ _ _ _ hx).1 t ht)
    rintro q (rfl | ⟨u, hu, rfl⟩)
    · exact ⟨mk (fileT c), by simp, rfl⟩
    · exact ⟨u, by simp [hu], rfl⟩
theorem drop_good {N : Bs → Prop} {s s' : List Pc} {root r' : Int} {path : Bs} (h : dropA s root path = (s', r', true)) (hg : Good N s) (hn : ∀ ps, pathP path = some ps → ∀ n ∈ ps, N n) : Good N s' := by
  obtain ⟨hs, n, r, hpp, hp, rfl⟩ := dropA_ok h
  obtain ⟨h1, h2⟩ := dT_texts (foldsD s root (n :: r)) (n :: r)
  have hfs := foldsD_mem (s := s) (n :: r) root
  generalize dT (foldsD s root (n :: r)) (n :: r) = X at *
  generalize foldsD s root (n :: r) = fs at *
  refine good_put hs hg hp fun t ht => ?_
  obtain ⟨X1, o⟩ := X
  cases o with
  | some p =>
    exact newIn_good hg hfs (hn _ hpp) (fun q hq => hq) (h1 t ht)
  | none =>
    have ht : t ∈ X1 ++ [mk (foldT [])] := ht
    rcases List.mem_append.1 ht with ht | ht
    · refine newIn_good hg hfs (hn _ hpp) (fun q hq => ?_) (h1 t ht)
      obtain ⟨u, hu, hq⟩ := hq
      exact ⟨u, List.mem_append.2 (.inl hu), hq⟩
    · rw [List.mem_singleton] at ht
      subst ht
      intro l hr e he
      rw [tx_mk, readF_foldT entsV_nil] at hr
      injection hr with hr
      subst hr; cases he
end Go.Proofs.YtedcgbmdfmgcgaaGreatDoor

/- strings.Cut at a byte. -/
set_option linter.unusedVariables false
namespace Go.Proofs.YtedcgbmdfmgcgaaGreatDoor
open Go.RowKit
def headC (c : UInt8) (s : Bs) : Bs := s.takeWhile fun x => x != c
def cutC (c : UInt8) (s : Bs) : Option (Bs × Bs) := if (headC c s).length < s.length then some (headC c s, s.drop ((headC c s).length + 1)) else none
theorem headC_le (c : UInt8) (s : Bs) : (headC c s).length ≤ s.length := (List.takeWhile_sublist _).length_le
theorem headC_cons (c x : UInt8) (r : Bs) : headC c (x :: r) = if x = c then [] else x :: headC c r := by
  unfold headC; rw [List.takeWhile_cons]
  by_cases h : x = c <;> simp [h]
theorem headC_take (c : UInt8) : ∀ s : Bs, headC c s = s.take (headC c s).length
  | [] => rfl
  | x :: r => by
    rw [headC_cons]
    split
    · rfl
    · rw [List.length_cons, List.take_succ_cons, ← headC_take c r]
theorem headC_ne (c : UInt8) : ∀ (s : Bs) (j : Nat) (h : j < s.length), j < (headC c s).length → s[j] ≠ c
  | [], j, h, _ => by simp at h
  | x :: r, j, h, hj => by
    rw [headC_cons] at hj
    split at hj
    · simp at hj
    · rename_i hx
      cases j with
      | zero => simpa using hx
      | succ j => simpa using headC_ne c r j (by simpa using h) (by simpa using hj)
theorem headC_at (c : UInt8) : ∀ (s : Bs) (h : (headC c s).length < s.length), s[(headC c s).length] = c
  | [], h => by simp at h
  | x :: r, h => by
    by_cases hx : x = c
    · have e : headC c (x :: r) = [] := by rw [headC_cons, if_pos hx]
      simp only [e, List.length_nil, List.getElem_cons_zero]; exact hx
    · have e : headC c (x :: r) = x :: headC c r := by rw [headC_cons, if_neg hx]
      have h' : (headC c r).length < r.length := by rw [e] at h; simpa using h
      have := headC_at c r h'
      simp only [e, List.length_cons, List.getElem_cons_succ]; exact this
theorem idx_head (c : UInt8) : ∀ s : Bs, Lib.indexByte s c = if (headC c s).length < s.length then ((headC c s).length : Int) else -1
  | [] => rfl
  | x :: r => by
    unfold Lib.indexByte headC
    rw [List.takeWhile_cons]
    by_cases h : x = c
    · subst h; simp
    · have ih := idx_head c r
      have h1 : (x == c) = false := beq_eq_false_iff_ne.2 h
      have h2 : (x != c) = true := by simp [h]
      unfold headC at ih
      rw [h1, h2, ih]
      simp only [Bool.false_eq_true, if_false, if_true, List.length_cons, Nat.add_lt_add_iff_right]
      split
      · have e : ((((r.takeWhile fun x => x != c).length : Nat) : Int) == -1) = false := by rw [beq_eq_false_iff_ne]; omega
        rw [e]; simp
      · simp
theorem cut_at (c : UInt8) (s : Bs) : Lib.cut s [c] = match cutC c s with | some (a, b) => (a, b, true) | none => (s, [], false) := by
  unfold Lib.cut cutC
  rw [Lib.index_one, idx_head]
  split
  · rename_i h
    rw [if_pos (by omega)]
    simp only [Int.toNat_natCast, List.length_singleton]
    rw [← headC_take]
  · rw [if_neg (by omega)]
def cutV (c : UInt8) (s : ByteArray) : Value := match cutC c (bs s) with | some (a, b) => .tuple #[.string (mk a), .string (mk b), .bool true] | none => .tuple #[.string s, .string ⟨#[]⟩, .bool false]
theorem cutC_some {c : UInt8} {s a b : Bs} (h : cutC c s = some (a, b)) : s = a ++ c :: b ∧ a = headC c s := by
  unfold cutC at h
  split at h
  · rename_i hlt
    injection h with h; injection h with h1 h2
    have h3 := headC_at c s hlt
    refine ⟨?_, h1.symm⟩
    rw [← h1, ← h2]
    conv => lhs; rw [← List.take_append_drop (headC c s).length s, ← headC_take, List.drop_eq_getElem_cons hlt, h3]
  · cases h
theorem cutC_len {c : UInt8} {s : ByteArray} {a b : Bs} (h : cutC c (bs s) = some (a, b)) : a.length + b.length + 1 = s.size := by
  have h1 := (cutC_some h).1
  have h2 := size_bs s
  rw [h1, List.length_append, List.length_cons] at h2; omega
theorem Cut_any (s : ByteArray) (c : UInt8) (w : World) (hs : s.size ≤ 16777216) (hm : MaxL w) :
    Calls Tryz.prog 108 #[.string s, .string ⟨#[c]⟩] w fun e w' => e = .returned (cutV c s) ∧ Below w.heap.size w w' := by
  obtain ⟨m, hm⟩ := hm
  refine (Tryz.strings_Cut s ⟨#[c]⟩ m w (by omega) hm).mono fun e w' ⟨h1, n, h2⟩ => ?_
  have e2 : Lib.cut s.data.toList (⟨#[c]⟩ : ByteArray).data.toList = Lib.cut (bs s) [c] := rfl
  rw [e2, cut_at] at h1
  refine ⟨?_, by rw [h2]; exact Below_drewN (Below.refl _ _) n⟩
  rw [h1]
  unfold cutV
  cases cutC c (bs s) with
  | none =>
    rw [show (⟨(bs s).toArray⟩ : ByteArray) = s from mk_bs s]
  | some x => rfl
end Go.Proofs.YtedcgbmdfmgcgaaGreatDoor

/- strconv.FormatInt at base 16, walked. -/
set_option linter.unusedVariables false
namespace Go.Proofs.YtedcgbmdfmgcgaaGreatDoor
open Go.RowKit
--BEGIN
/-- The table by which trailing zeros are found: its place for 16. -/
theorem cell_allocQ {u : Value} {w : World} {x : Obj} {a : Addr} (hc : w.cell? a = some u) : (w.alloc x).cell? a = some u := (World.cell?_alloc_lt w x a (World.block_lt_of_cell? w _ hc)).trans hc
def TzL (w : World) : Prop := w.cell? ⟨5, 15, none⟩ = some (.int .u8 4)
theorem TzL.below {w w' : World} (h : TzL w) (hb : Below w.heap.size w w') : TzL w' := Below_cells hb _ _ _ h
set_option maxHeartbeats 2000000 in
set_option maxRecDepth 100000 in
theorem tz64_any (w : World) (ht : TzL w) : Calls Tryz.prog 183 #[.int .u64 16] w fun e w' => e = .returned (.int .i64 4) ∧ w = w' := by
  unfold TzL at ht
  have hA : bits .and .u64 16 (IntKind.u64.wrap (-16)) = 16 := by kernel_rfl
  have hW : IntKind.u64.wrap (16 * 285870213051353865) = 4573923408821661840 := by kernel_rfl
  go_enter Tryz.func183, Tryz.ntmps183
  go_wp2
  go_ret
  exact ⟨rfl, rfl⟩
set_option maxHeartbeats 2000000 in
set_option maxRecDepth 100000 in
theorem tz_any (w : World) (ht : TzL w) : Calls Tryz.prog 179 #[.int .u64 16] w fun e w' => e = .returned (.int .i64 4) ∧ w = w' := by
  have HT := Lib.hid ht
  clear ht
  go_enter Tryz.func179, Tryz.ntmps179
  go_wp2_with (go_at_call 183; refine (tz64_any _ HT.out).mono ?_; rintro e w' ⟨rfl, rfl⟩)
  go_ret
  exact ⟨rfl, rfl⟩
set_option maxHeartbeats 2000000 in
set_option maxRecDepth 100000 in
theorem pow2_any (w : World) : Calls Tryz.prog 178 #[.int .i64 16] w fun e w' => e = .returned (.bool true) ∧ w = w' := by
  go_enter Tryz.func178, Tryz.ntmps178
  go_wp2
  go_ret
  exact ⟨rfl, rfl⟩
/-- N is left, 'acc' stands behind. -/
def HexI (n0 N : Nat) (acc : Bs) : Prop := ∃ f, N < 16 ^ (f + 1) ∧ f + 1 + acc.length = 7 ∧ hexF 7 n0 = hexF (f + 1) N ++ acc
theorem HexI.start {n0 : Nat} (h : n0 ≤ 16777212) : HexI n0 n0 [] := by
  have e : (16 : Nat) ^ (6 + 1) = 268435456 := by decide
  exact ⟨6, by omega, rfl, by simp⟩
theorem HexI.step {n0 N : Nat} {acc : Bs} (h : HexI n0 N acc) (hN : 16 ≤ N) : HexI n0 (N / 16) (hexD (N % 16) :: acc) ∧ acc.length ≤ 5 := by
  obtain ⟨f, hf, hl, he⟩ := h
  cases f with
  | zero => simp at hf; omega
  | succ f =>
    refine ⟨⟨f, by rw [Nat.pow_succ] at hf; omega, by simp; omega, ?_⟩, by omega⟩
    rw [he, hexF, if_neg (by omega)]
    simp
theorem HexI.done {n0 N : Nat} {acc : Bs} (h : HexI n0 N acc) (hN : N < 16) : hexF 7 n0 = hexD N :: acc ∧ acc.length ≤ 6 := by
  obtain ⟨f, hf, hl, he⟩ := h
  refine ⟨?_, by omega⟩
  rw [he, hexF, if_pos hN]; rfl
def DigRow (wr : World) (g : Nat) (acc : Bs) : Prop := ∃ cs : Array Value, wr.heap[g]? = some (.cells cs 173 (0, 0)) ∧ cs.size = 65 ∧ cs.toList.drop (65 - acc.length) = acc.map fun c => Value.int .u8 (c.toNat : Int)
theorem DigRow.cell {wr : World} {g : Nat} {acc : Bs} (h : DigRow wr g acc) {j : Nat} (hj : j < 65) : ∃ u, wr.cell? ⟨g, j, none⟩ = some u := by
  obtain ⟨cs, hg, hs, _⟩ := h
  exact ⟨cs[j], by rw [cell_of_row wr g j cs _ (0, 0) hg, Array.getElem?_eq_getElem (by omega)]⟩
theorem DigRow.free {wr : World} {g : Nat} {acc : Bs} (h : DigRow wr g acc) (j : Nat) : wr.frozen? ⟨g, j, none⟩ = false := by
  obtain ⟨cs, hg, _⟩ := h
  exact frozen_of_row wr g j cs _ hg
theorem DigRow.store {wr : World} {g : Nat} {acc : Bs} (h : DigRow wr g acc) (c : UInt8) {j : Nat} (hj : j + 1 + acc.length = 65) : DigRow (wr.setCell ⟨g, j, none⟩ (.int .u8 (c.toNat : Int))) g (c :: acc) := by
  obtain ⟨cs, hg, hs, ht⟩ := h
  refine ⟨cs.setIfInBounds j (.int .u8 (c.toNat : Int)), heap_setCell_same wr g _ cs _ _ hg, by simpa using hs, ?_⟩
  have e1 : 65 - (c :: acc).length = j := by simp; omega
  have e2 : 65 - acc.length = j + 1 := by omega
  rw [e2] at ht
  rw [e1, Array.toList_setIfInBounds, List.drop_eq_getElem_cons (by simp; omega), List.getElem_set_self, List.drop_set_of_lt (by omega), ht]
  rfl
theorem ofInt_nat64 (a : Nat) (ha : a < 18446744073709551616) : (BitVec.ofInt 64 (a : Int)).toNat = a := by
  rw [BitVec.ofInt_natCast, BitVec.toNat_ofNat]; exact Nat.mod_eq_of_lt (by omega)
theorem u64_and15 (N : Nat) (h : N ≤ 16777212) : bits .and .u64 (N : Int) 15 = ((N % 16 : Nat) : Int) := by
  have e : N &&& 15 = N % 16 := Nat.and_two_pow_sub_one_eq_mod N 4
  show IntKind.u64.wrap ((BitVec.ofInt 64 (N : Int) &&& BitVec.ofInt 64 ((15 : Nat) : Int)).toNat : Int) = _
  rw [BitVec.toNat_and, ofInt_nat64 N (by omega), ofInt_nat64 15 (by omega), e, IntKind.wrap_u64]
  omega
def digs : ByteArray := ⟨#[48, 49, 50, 51, 52, 53, 54, 55, 56, 57, 97, 98, 99, 100, 101, 102, 103, 104, 105, 106, 107, 108, 109, 110, 111, 112, 113, 114, 115, 116, 117, 118, 119, 120, 121, 122]⟩
theorem digs_at (d : Nat) (h : d < 16) (h' : d < digs.size) : digs[d] = hexD d := by
  have key : ∀ d : Fin 16, digs[d.val]'(Nat.lt_trans d.isLt (by decide)) = hexD d.val := by decide
  exact key ⟨d, h⟩
theorem u64_shr4 (N : Nat) : (N : Int) / 16 = ((N / 16 : Nat) : Int) := by omega
theorem slice65 (W : World) (g k : Nat) (hk : k < 65) : (Instr.sliceAt 173 (.pointer (some ⟨g, 0, none⟩)) (some (.int .i64 (k : Int))) none none).run Tryz.prog W = .ok (.slice (some ⟨g, k, none⟩) (65 - k) (65 - k)) W := by
  have hl : Tryz.prog.arrayLen 173 = 65 := by kernel_rfl
  have hz : (sizeOf (Tryz.prog.elem 173)).run Tryz.prog W = .ok 1 W := by kernel_rfl
  have h := run_sliceAt_array_l (P := Tryz.prog) W 173 ⟨g, 0, none⟩ (by kernel_rfl) .i64 (k : Int) (by omega) (by rw [hl]; omega)
  rw [h, hz, hl]
  show Result.ok (slicedAt _ _ _ _ _) W = _
  unfold slicedAt
  rw [if_neg (by omega)]
  simp [Addr.add]
  omega
theorem DigRow.conv {W : World} {g : Nat} {acc : Bs} (h : DigRow W g acc) (h1 : 1 ≤ acc.length) (h2 : acc.length ≤ 65) : (convert 22 9 (.slice (some ⟨g, 65 - acc.length, none⟩) acc.length acc.length)).run Tryz.prog W = .ok (.string (mk acc)) W := by
  obtain ⟨cs, hg, hs, ht⟩ := h
  refine run_convert_bytes_back (P := Tryz.prog) W 22 9 5 ⟨g, 65 - acc.length, none⟩ acc.length acc Tryz.underlying22 Tryz.underlying5 Tryz.underlying9 ?_
  intro j hj
  have hadd : (⟨g, 65 - acc.length, none⟩ : Addr).add j = ⟨g, 65 - acc.length + j, none⟩ := by unfold Addr.add; split <;> simp_all
  rw [hadd, cell_of_row _ _ _ _ _ (0, 0) hg, ← Array.getElem?_toList]
  have : (cs.toList.drop (65 - acc.length))[j]? = (acc.map fun c => Value.int .u8 (c.toNat : Int))[j]? := by rw [ht]
  rw [List.getElem?_drop] at this
  rw [this, List.getElem?_map, List.getElem?_eq_getElem hj]; rfl
set_option maxHeartbeats 4000000 in
set_option maxRecDepth 100000 in
theorem formatBits_any (n : Nat) (w : World) (hn : n ≤ 16777212) (ht : TzL w) : Calls Tryz.prog 166 #[.slice none 0 0, .int .u64 (n : Int), .int .i64 16, .bool false, .bool false] w fun e w' => e = .returned (.tuple #[.slice none 0 0, .string (mk (hexF 7 n))]) ∧ Below w.heap.size w w' := by
  have HT := Lib.hid ht
  clear ht
  have hz : ∀ w, (zeroValue 173).run Tryz.prog w = .ok (.agg (Array.replicate 65 (.int .u8 0))) w := fun w => by kernel_rfl
  have HZ := Lib.hid (show (Array.replicate 65 (Value.int .u8 0)).size = 65 by rfl)
  generalize Array.replicate 65 (Value.int .u8 0) = Z at *
  go_enter Tryz.func166, Tryz.ntmps166
  go_wp2_with (first
    | (go_at_call 178; refine (pow2_any _).mono ?_; rintro e w' ⟨rfl, rfl⟩)
    | (go_at_call 179; refine (tz_any _ (cell_allocQ HT.out)).mono ?_; rintro e w' ⟨rfl, rfl⟩))
  go_loopw [1, 13] (fun u i wr => ∃ (N : Nat) (acc : Bs), u = .int .u64 (N : Int) ∧ i = .int .i64 ((65 - acc.length : Nat) : Int) ∧ N ≤ n ∧ acc.length ≤ 6 ∧ Hid (HexI n N acc) ∧ Hid (DigRow wr w.heap.size acc) ∧ Hid (Below w.heap.size w wr)) (fun u _ _ => (intOf u).toNat)
  case atStart => exact ⟨n, [], rfl, rfl, Nat.le_refl _, by simp, HexI.start hn, ⟨Z, heap_alloc_new w _, HZ.out, by rw [List.drop_eq_nil_of_le (by rw [Array.length_toList, HZ.out]; simp)]; rfl⟩, (Below.refl _ _).alloc (Nat.le_refl _) _⟩
  case round =>
    obtain ⟨N, acc, rfl, rfl, hN, hal, HI, HD, HB⟩ := hrel
    by_cases hlt : 16 ≤ N
    · obtain ⟨u0, hu0⟩ := HD.out.cell (j := 64 - acc.length) (by omega)
      have hfr := HD.out.free (64 - acc.length)
      have hand := u64_and15 N (by omega)
      have hlt' : (16 : Int) ≤ (N : Int) := by omega
      have e1 : (((65 - acc.length : Nat) : Int) - 1) = ((64 - acc.length : Nat) : Int) := by omega
      obtain ⟨hst, hac⟩ := HI.out.step hlt
      have HST := Lib.hid hst
      have hd := fun h' => digs_at (N % 16) (by omega) h'
      unfold digs at hd
      have HSD := Lib.hid (HD.out.store (hexD (N % 16)) (j := 64 - acc.length) (by omega))
      have HSB := Lib.hid (fun u => HB.out.setCell (p := ⟨w.heap.size, 64 - acc.length, none⟩) (Nat.le_refl _) u)
      clear hst
      go_wp2
      go_roundw
      case rel => exact ⟨N / 16, hexD (N % 16) :: acc, by rw [u64_shr4], by rw [List.length_cons, show 65 - (acc.length + 1) = 64 - acc.length by omega], by omega, by rw [List.length_cons]; omega, HST.out, HSD.out, HSB.out _⟩
      case measure => simp [intOf]; omega
    · obtain ⟨u0, hu0⟩ := HD.out.cell (j := 64 - acc.length) (by omega)
      have hfr := HD.out.free (64 - acc.length)
      have hlt' : ¬ (16 : Int) ≤ (N : Int) := by omega
      have e1 : (((65 - acc.length : Nat) : Int) - 1) = ((64 - acc.length : Nat) : Int) := by omega
      obtain ⟨hdn, hac⟩ := HI.out.done (by omega)
      have HDN := Lib.hid hdn
      have hd := fun h' => digs_at N (by omega) h'
      unfold digs at hd
      have HSD := Lib.hid (HD.out.store (hexD N) (j := 64 - acc.length) (by omega))
      have HSB := Lib.hid (fun u => HB.out.setCell (p := ⟨w.heap.size, 64 - acc.length, none⟩) (Nat.le_refl _) u)
      have hsl := fun W => slice65 W w.heap.size (64 - acc.length) (by omega)
      rw [show 65 - (64 - acc.length) = acc.length + 1 by omega] at hsl
      have hcv := HSD.out.conv (by simp) (by simp; omega)
      rw [List.length_cons, show 65 - (acc.length + 1) = 64 - acc.length by omega, ← HDN.out] at hcv
      clear hdn
      go_wp2
      go_ret2
      exact ⟨rfl, HSB.out _⟩
set_option maxHeartbeats 4000000 in
set_option maxRecDepth 100000 in
theorem fmtInt_any (n : Nat) (w : World) (hn : n ≤ 16777212) (ht : TzL w) : Calls Tryz.prog 150 #[.int .i64 (n : Int), .int .i64 16] w fun e w' => e = .returned (.string (mk (hexF 7 n))) ∧ Below w.heap.size w w' := by
  have HF := Lib.hid (formatBits_any n w hn ht)
  have hw : IntKind.u64.wrap (n : Int) = (n : Int) := by rw [IntKind.wrap_u64]; omega
  clear ht
  go_enter Tryz.func150, Tryz.ntmps150
  go_wp2_with fail
  refine HF.out.mono ?_
  rintro e w1 ⟨rfl, hb⟩
  have HB := Lib.hid hb
  clear hb
  go_wp2
  go_ret
  exact ⟨rfl, HB.out⟩
set_option maxHeartbeats 4000000 in
set_option maxRecDepth 100000 in
theorem FormatInt_any (n : Nat) (w : World) (hn : n ≤ 16777212) (ht : TzL w) : Calls Tryz.prog 130 #[.int .i64 (n : Int), .int .i64 16] w fun e w' => e = .returned (.string (mk (hexF 7 n))) ∧ Below w.heap.size w w' := by
  have HF := Lib.hid (fmtInt_any n w hn ht)
  clear ht
  go_enter Tryz.func130, Tryz.ntmps130
  go_wp2_with fail
  refine HF.out.mono ?_
  rintro e w1 ⟨rfl, hb⟩
  have HB := Lib.hid hb
  clear hb
  go_wp2
  go_ret
  exact ⟨rfl, HB.out⟩
set_option maxHeartbeats 4000000 in
set_option maxRecDepth 100000 in
theorem iHexText_any (n : Int) (w : World) (ht : TzL w) : Calls Tryz.prog 106 #[.int .i64 n] w fun e w' => e = .returned (.string (mk (hexT n))) ∧ Below w.heap.size w w' := by
  cases hp : pv n
  · have E := Lib.hid (hexT_bad hp)
    have hP := fun w => iprintValid_any n w
    rw [hp] at hP
    have HP := Lib.hid hP
    clear ht hp hP
    rw [E.out]
    go_enter Tryz.func106, Tryz.ntmps106
    go_wp2_with (go_at_call 77; refine (HP.out _).mono ?_; rintro e w' ⟨rfl, rfl⟩)
    go_ret
    exact ⟨rfl, Below.refl _ _⟩
  · have h2 := pv_iff.1 hp
    obtain ⟨m, rfl⟩ := Int.eq_ofNat_of_zero_le h2.1
    have E := Lib.hid (hexT_ok (n := m) (by omega))
    have hP := fun w => iprintValid_any (m : Int) w
    rw [hp] at hP
    have HP := Lib.hid hP
    have HF := Lib.hid (FormatInt_any m w (by omega) ht)
    clear ht hp hP h2
    rw [E.out]
    go_enter Tryz.func106, Tryz.ntmps106
    go_wp2_with (first
      | (go_at_call 77; refine (HP.out _).mono ?_; rintro e w' ⟨rfl, rfl⟩)
      | (go_at_call 130; refine HF.out.mono ?_; rintro e w1 ⟨rfl, hb⟩; have HB := Lib.hid hb; clear hb))
    go_ret
    exact ⟨rfl, HB.out⟩
end Go.Proofs.YtedcgbmdfmgcgaaGreatDoor

/- HexText of the reference; ReadHex, walked. -/
set_option linter.unusedVariables false
namespace Go.Proofs.YtedcgbmdfmgcgaaGreatDoor
open Go.RowKit
attribute [local go_sem] mk_size mk_append
--BEGIN
def digs16 : ByteArray := ⟨#[48, 49, 50, 51, 52, 53, 54, 55, 56, 57, 97, 98, 99, 100, 101, 102]⟩
theorem digs16_at (d : Nat) (h : d < 16) : digs16.extract d (d + 1) = mk [hexD d] := by
  have key : ∀ d : Fin 16, digs16.extract d.val (d.val + 1) = mk [hexD d.val] := by decide
  exact key ⟨d, h⟩
set_option maxHeartbeats 4000000 in
set_option maxRecDepth 100000 in
theorem sHexText_any (n : Int) (w : World) : Calls Tryz.prog 71 #[.int .i64 n] w fun e w' => e = .returned (.string (mk (hexT n))) ∧ w = w' := by
  cases hp : pv n
  · have E := Lib.hid (hexT_bad hp)
    have hP : ∀ w, Calls Tryz.prog 100 #[.int .i64 n, .int .i64 0, .int .i64 16777212] w fun e w' => e = .returned (.bool false) ∧ w = w' := fun w => hp ▸ sl1In_any n 0 16777212 w
    have HP := Lib.hid hP
    clear hp hP
    rw [E.out]
    go_enter Tryz.func71, Tryz.ntmps71
    go_wp2_with (go_at_call 100; refine (HP.out _).mono ?_; rintro e w' ⟨rfl, rfl⟩)
    go_ret
    exact ⟨rfl, rfl⟩
  · have h2 := pv_iff.1 hp
    obtain ⟨m, rfl⟩ := Int.eq_ofNat_of_zero_le h2.1
    have hm : m ≤ 16777212 := by omega
    have E := Lib.hid (hexT_ok hm)
    have hP : ∀ w, Calls Tryz.prog 100 #[.int .i64 (m : Int), .int .i64 0, .int .i64 16777212] w fun e w' => e = .returned (.bool true) ∧ w = w' := fun w => hp ▸ sl1In_any (m : Int) 0 16777212 w
    have HP := Lib.hid hP
    have hx := digs16_at (m % 16) (by omega)
    unfold digs16 at hx
    have HS := Lib.hid (HexAt.start hm)
    clear hp hP h2
    rw [E.out]
    clear E
    go_enter Tryz.func71, Tryz.ntmps71
    go_wp2_with (go_at_call 100; refine (HP.out _).mono ?_; rintro e w' ⟨rfl, rfl⟩)
    go_loop [0, 4] (fun u o => ∃ (N : Nat) (acc : Bs), u = .int .i64 (N : Int) ∧ o = .string (mk acc) ∧ N ≤ m ∧ acc.length ≤ 7 ∧ Hid (HexAt m N acc)) (fun u _ => (intOf u).toNat)
    case atStart => exact ⟨m, [hexD (m % 16)], rfl, by rw [hx], Nat.le_refl _, by simp, HS.out⟩
    case round =>
      obtain ⟨N, acc, rfl, rfl, hN, hal, HA⟩ := hrel
      by_cases hlt : 16 ≤ N
      · have hlt' : (16 : Int) ≤ (N : Int) := by omega
        have hd : (N : Int) / 16 = ((N / 16 : Nat) : Int) := by omega
        have hst := HA.out.step hlt
        have hac := hst.1
        have HST := Lib.hid hst
        clear hx
        have hx := digs16_at (N / 16 % 16) (by omega)
        unfold digs16 at hx
        have hlt2 : N / 16 ≤ N := Nat.div_le_self _ _
        have hlt3 : N / 16 < N := Nat.div_lt_self (by omega) (by omega)
        generalize N / 16 = M at *
        clear hst
        go_wp2
        go_round
        case rel => exact ⟨M, hexD (M % 16) :: acc, rfl, by first | rfl | rw [hx]; rfl, by omega, hac, HST.out⟩
        case measure => simp [intOf]; omega
      · have hlt' : ¬ (16 : Int) ≤ (N : Int) := by omega
        have HD := Lib.hid (HA.out.done (by omega))
        go_wp2
        go_ret
        exact ⟨ret_str (by rw [HD.out]), rfl⟩
end Go.Proofs.YtedcgbmdfmgcgaaGreatDoor

/- Repaired pieces, and free names, in plain Lean. -/
set_option linter.unusedVariables false
namespace Go.Proofs.YtedcgbmdfmgcgaaGreatDoor
--BEGIN
def goodCopy (p : Int) (copies : List Pc) : Option Pc := copies.find? fun c => c.1 == p && pieceR c
/-- A piece, repaired; and how many were (0, 1). -/
def repair1 (copies : List Pc) (p : Pc) : Pc × Int := if pieceR p then (p, 0) else match goodCopy p.1 copies with | some c => (c, 1) | none => (p, 0)
def repairs (copies : List Pc) (l : List Pc) : List Pc := l.map fun p => (repair1 copies p).1
def many (copies : List Pc) : List Pc → Int
  | [] => 0
  | p :: r => (repair1 copies p).2 + many copies r
def damaged (l : List Pc) : List Int := (l.filter fun p => !pieceR p).map (·.1)
theorem many_append (copies : List Pc) : ∀ a b : List Pc, many copies (a ++ b) = many copies a + many copies b
  | [], b => by simp [many]
  | p :: r, b => by rw [List.cons_append, many, many, many_append copies r b]; omega
theorem many_take {copies l : List Pc} {k : Nat} (h : k < l.length) : many copies (l.take (k + 1)) = many copies (l.take k) + (repair1 copies l[k]).2 := by
  rw [List.take_succ_eq_append_getElem h, many_append]; simp [many]
theorem repair1_bd (copies : List Pc) (p : Pc) : 0 ≤ (repair1 copies p).2 ∧ (repair1 copies p).2 ≤ 1 := by
  unfold repair1; split
  · simp
  · split <;> simp
theorem many_bd (copies : List Pc) : ∀ l : List Pc, 0 ≤ many copies l ∧ many copies l ≤ l.length
  | [] => by simp [many]
  | p :: r => by
    have := many_bd copies r
    have := repair1_bd copies p
    rw [many, List.length_cons]; omega
theorem goodCopy_some {p : Int} {copies : List Pc} {c : Pc} (h : goodCopy p copies = some c) : c.1 = p ∧ pieceR c = true := by
  have := List.find?_some h
  simp only [Bool.and_eq_true, beq_iff_eq] at this
  exact this
theorem repair1_print (copies : List Pc) (p : Pc) : (repair1 copies p).1.1 = p.1 := by
  unfold repair1; split
  · rfl
  · split
    · rename_i c h; exact (goodCopy_some h).1
    · rfl
theorem repair1_right {copies : List Pc} {p : Pc} (h : pieceR p = true) : repair1 copies p = (p, 0) := by unfold repair1; rw [if_pos h]
theorem damaged_many (copies : List Pc) : ∀ l : List Pc, ((damaged (repairs copies l)).length : Int) + many copies l = (damaged l).length
  | [] => rfl
  | p :: r => by
    have ih := damaged_many copies r
    have e : repairs copies (p :: r) = (repair1 copies p).1 :: repairs copies r := rfl
    rw [e, many]
    unfold damaged at ih ⊢
    cases hp : pieceR p
    · cases hg : goodCopy p.1 copies with
      | none =>
        have e1 : repair1 copies p = (p, 0) := by unfold repair1; rw [if_neg (by simp [hp]), hg]
        rw [e1]
        simp only [List.filter_cons, hp, Bool.not_false, if_true, List.map_cons, List.length_cons]
        omega
      | some c =>
        have e1 : repair1 copies p = (c, 1) := by unfold repair1; rw [if_neg (by simp [hp]), hg]
        rw [e1]
        have hc := (goodCopy_some hg).2
        simp only [List.filter_cons, hp, hc, Bool.not_false, Bool.not_true, if_true, List.map_cons, List.length_cons]
        simp
        simp at ih
        omega
    · rw [repair1_right hp]
      simp only [List.filter_cons, hp, Bool.not_true]
      simp at ih ⊢
      omega
theorem damaged_len (l : List Pc) : (damaged l).length ≤ l.length := by
  unfold damaged; rw [List.length_map]; exact List.length_filter_le _ _
theorem damaged_take {l : List Pc} {k : Nat} (h : k < l.length) : damaged (l.take (k + 1)) = damaged (l.take k) ++ if pieceR l[k] then [] else [l[k].1] := by
  unfold damaged
  rw [List.take_succ_eq_append_getElem h, List.filter_append, List.map_append]
  congr 1
  cases hp : pieceR l[k] <;> simp [hp]
--END
end Go.Proofs.YtedcgbmdfmgcgaaGreatDoor

/- Damaged pieces, walked. -/
set_option linter.unusedVariables false
namespace Go.Proofs.YtedcgbmdfmgcgaaGreatDoor
open Go.RowKit

def FitP (l : List Pc) : Prop := ∀ p ∈ l, p.2.size ≤ 16777216
theorem FitP.at {l : List Pc} (h : FitP l) {k : Nat} (hk : k < l.length) : l[k].2.size ≤ 16777216 := h _ (by simp)

end Go.Proofs.YtedcgbmdfmgcgaaGreatDoor

/- Trees: levels, roots, proofs. -/
set_option linter.unusedVariables false
namespace Go.Proofs.YtedcgbmdfmgcgaaGreatDoor
open Go.RowKit
theorem new_cell1 (w : World) (u : Value) (E : TypeId) : (w.alloc (.cells #[u] E)).drew.cell? ⟨w.heap.size, 0, none⟩ = some u := by
  show (w.alloc (.cells #[u] E)).cell? ⟨w.heap.size, 0, none⟩ = some u
  rw [cell_of_row _ _ 0 _ E (0, 0) (heap_alloc_new w _)]; rfl
theorem lvlUp_two {l : List Int} {k : Nat} (h : k + 1 < l.length) : lvlUp (l.drop k) = prPair l[k] l[k + 1] :: lvlUp (l.drop (k + 2)) := by
  rw [List.drop_eq_getElem_cons (by omega), List.drop_eq_getElem_cons (by omega)]; rfl
theorem lvlUp_one {l : List Int} {k : Nat} (h : k < l.length) (h2 : ¬ k + 1 < l.length) : lvlUp (l.drop k) = [l[k]] := by
  rw [List.drop_eq_getElem_cons (by omega), List.drop_of_length_le (by omega)]; rfl
theorem lvlUp_none {l : List Int} {k : Nat} (h : ¬ k < l.length) : lvlUp (l.drop k) = [] := by
  rw [List.drop_of_length_le (by omega)]; rfl
theorem lvlUp_drop_end {l : List Int} {k : Nat} (h : k < l.length) (h2 : ¬ k + 1 < l.length) : lvlUp (l.drop (k + 2)) = [] := by
  rw [List.drop_of_length_le (by omega)]; rfl

end Go.Proofs.YtedcgbmdfmgcgaaGreatDoor

/- Trees: valid leaves, the root, and the same of texts. -/
set_option linter.unusedVariables false
namespace Go.Proofs.YtedcgbmdfmgcgaaGreatDoor
open Go.RowKit

theorem lvlUp_length : ∀ (n : Nat) (l : List Int), l.length ≤ n → (lvlUp l).length = (l.length + 1) / 2
  | 0, l, h => by have : l = [] := List.eq_nil_of_length_eq_zero (by omega); subst this; rfl
  | n + 1, l, h => by
    match l, h with
    | [], _ => rfl
    | [a], _ => simp [lvlUp]
    | a :: b :: r, h =>
      have := lvlUp_length n r (by simp at h; omega)
      simp only [lvlUp, List.length_cons, this]; omega
theorem lvlUp_len (l : List Int) : (lvlUp l).length = (l.length + 1) / 2 := lvlUp_length _ l (Nat.le_refl _)
theorem lvlUp_pv : ∀ (n : Nat) (l : List Int), l.length ≤ n → l.all pv = true → (lvlUp l).all pv = true
  | 0, l, h, _ => by have : l = [] := List.eq_nil_of_length_eq_zero (by omega); subst this; rfl
  | n + 1, l, h, ha => by
    match l, h, ha with
    | [], _, _ => rfl
    | [a], _, ha => exact ha
    | a :: b :: r, h, ha =>
      simp only [List.all_cons, Bool.and_eq_true] at ha
      simp only [lvlUp, List.all_cons, Bool.and_eq_true]
      exact ⟨prPair_pv ha.1 ha.2.1, lvlUp_pv n r (by simp at h; omega) ha.2.2⟩
theorem topF_step {f : Nat} {l : List Int} (h : 1 < l.length) : topF (f + 1) l = topF f (lvlUp l) := by
  rw [topF, if_pos h]
theorem topF_one {f : Nat} {l : List Int} (h : l.length = 1) : topF f l = l.headD 0 := by
  cases f with
  | zero => rfl
  | succ f => rw [topF, if_neg (by omega)]
theorem treeRoot_bad {l : List Int} (h : leavesV l = false) : treeRoot l = -1 := by unfold treeRoot; simp [h]
theorem treeRoot_ok {l : List Int} (h : leavesV l = true) : treeRoot l = topF 5 l := by unfold treeRoot; simp [h]
theorem leavesV_iff {l : List Int} : leavesV l = true ↔ 1 ≤ l.length ∧ l.length ≤ 16 ∧ l.all pv = true := by
  unfold leavesV; rw [Bool.and_eq_true, decide_eq_true_eq, and_assoc]
theorem leavesV_len {l : List Int} (h : ¬ (1 ≤ l.length ∧ l.length ≤ 16)) : leavesV l = false := by
  cases hl : leavesV l with
  | false => rfl
  | true => exact absurd ⟨(leavesV_iff.1 hl).1, (leavesV_iff.1 hl).2.1⟩ h
theorem leavesV_all {l : List Int} (h : l.all pv = false) : leavesV l = false := by
  cases hl : leavesV l with
  | false => rfl
  | true => rw [(leavesV_iff.1 hl).2.2] at h; cases h

def lenOf : Value → Nat | .slice _ n _ => n | _ => 0
def Level (l : List Int) (v : Value) (wr : World) : Prop := ∃ (A : Option Addr) (c f : Nat) (m : List Int), v = .slice A m.length c ∧ Sl wr encI 1 A m ∧ 1 ≤ m.length ∧ m.length ≤ 16 ∧ m.length ≤ 2 ^ f ∧ topF 5 l = topF f m

end Go.Proofs.YtedcgbmdfmgcgaaGreatDoor

/- Trees in plain Lean: proofs, roots of proofs; that they meet. -/
set_option linter.unusedVariables false
namespace Go.Proofs.YtedcgbmdfmgcgaaGreatDoor

/-- The root to which a proof leads. -/
def rootF : List Int → Int → Nat → Nat → Int
  | [], p, _, m => if 1 < m then -1 else p
  | x :: r, p, n, m =>
    if m = 1 then -1
    else if m ≤ n ^^^ 1 then (if x = -1 then rootF r p (n / 2) ((m + 1) / 2) else -1)
    else if pv x then rootF r (if n % 2 = 0 then prPair p x else prPair x p) (n / 2) ((m + 1) / 2)
    else -1
def inTree (p n m : Int) : Bool := pv p && decide (1 ≤ m ∧ m ≤ 16) && decide (0 ≤ n ∧ n < m)
def proofRoot (p n m : Int) (l : List Int) : Int := if inTree p n m then rootF l p n.toNat m.toNat else -1

theorem xor1 (n : Nat) : n ^^^ 1 = n + 1 - n % 2 * 2 := by
  have h2 : (n ^^^ 1) / 2 = n / 2 := by
    have := Nat.xor_div_two (a := n) (b := 1)
    simpa using this
  have h := Nat.xor_mod_two_pow (a := n) (b := 1) (n := 1)
  have h3 : n % 2 = 0 ∨ n % 2 = 1 := by omega
  have e0 : (0 ^^^ 1 % 2 : Nat) = 1 := rfl
  have e1 : (1 ^^^ 1 % 2 : Nat) = 0 := rfl
  simp only [Nat.pow_one] at h
  rcases h3 with h3 | h3
  · rw [h3, e0] at h; omega
  · rw [h3, e1] at h; omega
theorem xor1_even {n : Nat} (h : n % 2 = 0) : n ^^^ 1 = n + 1 := by rw [xor1]; omega
theorem xor1_odd {n : Nat} (h : n % 2 = 1) : n ^^^ 1 = n - 1 := by rw [xor1]; omega

theorem proofF_done {f : Nat} {m : List Int} {n : Nat} (h : m.length = 1) : proofF f m n = [] := by
  cases f with
  | zero => rfl
  | succ f => rw [proofF, if_neg (by omega)]
theorem proofF_step {f : Nat} {m : List Int} {n : Nat} (h : 1 < m.length) : proofF (f + 1) m n = (if n ^^^ 1 < m.length then m.getD (n ^^^ 1) 0 else -1) :: proofF f (lvlUp m) (n / 2) := by
  rw [proofF, if_pos h]
theorem proofF_len (f : Nat) : ∀ (m : List Int) (n : Nat), (proofF f m n).length ≤ f := by
  induction f with
  | zero => intro m n; simp [proofF]
  | succ f ih =>
    intro m n; rw [proofF]; split
    · simp; exact ih _ _
    · simp
theorem treeProof_bad {l : List Int} {n : Int} (h : leavesV l = false ∨ n < 0 ∨ (l.length : Int) ≤ n) : treeProof l n = [] := by
  unfold treeProof; rw [if_neg]; rintro ⟨h1, h2, h3⟩
  rcases h with h | h | h
  · rw [h] at h1; cases h1
  · omega
  · omega
theorem treeProof_ok {l : List Int} {n : Int} (h : leavesV l = true) (h0 : 0 ≤ n) (h1 : n < l.length) : treeProof l n = proofF 5 l n.toNat := by
  unfold treeProof; rw [if_pos ⟨h, h0, h1⟩]
theorem treeProof_len (l : List Int) (n : Int) : (treeProof l n).length ≤ 5 := by
  unfold treeProof; split
  · exact proofF_len _ _ _
  · simp

theorem lvlUp_at : ∀ (k : Nat) (l : List Int) (d : Int), (lvlUp l).getD k d = if 2 * k + 1 < l.length then prPair (l.getD (2 * k) d) (l.getD (2 * k + 1) d) else l.getD (2 * k) d
  | 0, [], d => rfl
  | 0, [a], d => rfl
  | 0, a :: b :: r, d => by simp [lvlUp]
  | k + 1, [], d => by simp [lvlUp]
  | k + 1, [a], d => by simp [lvlUp]
  | k + 1, a :: b :: r, d => by
    have ih := lvlUp_at k r d
    show (prPair a b :: lvlUp r).getD (k + 1) d = _
    have e : 2 * (k + 1) = 2 * k + 1 + 1 := by omega
    rw [List.getD_cons_succ, ih, e]
    simp only [List.length_cons, List.getD_cons_succ]
    have e2 : 2 * k + 1 + 1 + 1 < r.length + 1 + 1 ↔ 2 * k + 1 < r.length := by omega
    simp only [e2]
theorem getD_pv {l : List Int} (h : l.all pv = true) {k : Nat} (hk : k < l.length) (d : Int) : pv (l.getD k d) = true := by
  rw [List.getD_eq_getElem?_getD, List.getElem?_eq_getElem hk]
  exact List.all_eq_true.1 h _ (by simp)

/-- A proof leads to the root. -/
theorem root_of_proof (f : Nat) : ∀ (l : List Int) (n : Nat), l.all pv = true → n < l.length → l.length ≤ 2 ^ f → rootF (proofF f l n) (l.getD n 0) n l.length = topF f l := by
  induction f with
  | zero =>
    intro l n hp hn hl
    have h1 : l.length = 1 := by simp at hl; omega
    obtain ⟨x, rfl⟩ : ∃ x, l = [x] := by
      match l, h1 with
      | [x], _ => exact ⟨x, rfl⟩
    have : n = 0 := by simp at hn; omega
    subst this
    simp [proofF, rootF, topF]
  | succ f ih =>
    intro l n hp hn hl
    by_cases h1 : 1 < l.length
    · rw [proofF_step h1, topF_step h1]
      have hlen := lvlUp_len l
      have hup := lvlUp_pv _ l (Nat.le_refl _) hp
      have hih := ih (lvlUp l) (n / 2) hup (by omega) (by rw [hlen]; simp only [Nat.pow_succ] at hl; omega)
      have hat := lvlUp_at (n / 2) l 0
      rw [rootF, if_neg (by omega)]
      by_cases hb : n ^^^ 1 < l.length
      · rw [if_neg (by omega), if_pos hb, if_pos (getD_pv hp hb 0), ← hih]
        rw [hlen]
        congr 1
        rw [hat]
        by_cases he : n % 2 = 0
        · rw [if_pos he, xor1_even he] at *
          have e : 2 * (n / 2) = n := by omega
          rw [e, if_pos hb]
        · have ho : n % 2 = 1 := by omega
          rw [if_neg he, xor1_odd ho] at *
          have e : 2 * (n / 2) = n - 1 := by omega
          have e2 : n - 1 + 1 = n := by omega
          rw [e, e2, if_pos hn]
      · rw [if_pos (by omega), if_neg hb, if_pos rfl, ← hih, hlen]
        congr 1
        rw [hat]
        have he : n % 2 = 0 := by
          by_cases he : n % 2 = 0
          · exact he
          · exfalso; rw [xor1_odd (by omega)] at hb; omega
        rw [xor1_even he] at hb
        have e : 2 * (n / 2) = n := by omega
        rw [e, if_neg hb]
    · have h2 : l.length = 1 := by omega
      rw [proofF_done h2, topF_one h2, rootF, if_neg (by omega)]
      have : n = 0 := by omega
      subst this
      cases l <;> rfl
theorem topF_pv (f : Nat) : ∀ l : List Int, l.all pv = true → 1 ≤ l.length → pv (topF f l) = true := by
  induction f with
  | zero => intro l hp hl; rw [topF]; cases l with
    | nil => simp at hl
    | cons a r => simp only [List.all_cons, Bool.and_eq_true] at hp; exact hp.1
  | succ f ih =>
    intro l hp hl
    rw [topF]
    split
    · exact ih _ (lvlUp_pv _ l (Nat.le_refl _) hp) (by rw [lvlUp_len]; omega)
    · cases l with
      | nil => simp at hl
      | cons a r => simp only [List.all_cons, Bool.and_eq_true] at hp; exact hp.1
theorem treeRoot_pv {l : List Int} (h : leavesV l = true) : pv (treeRoot l) = true := by
  obtain ⟨h1, h2, h3⟩ := leavesV_iff.1 h
  rw [treeRoot_ok h]; exact topF_pv 5 l h3 h1
theorem treeRoot_bd (l : List Int) : -1 ≤ treeRoot l ∧ treeRoot l ≤ 16777212 := by
  cases h : leavesV l
  · rw [treeRoot_bad h]; omega
  · have := pv_iff.1 (treeRoot_pv h); omega
theorem treeRoot_neg {l : List Int} (h : treeRoot l < 0) : leavesV l = false := by
  cases hl : leavesV l
  · rfl
  · have := pv_iff.1 (treeRoot_pv hl); omega
theorem treeRoot_nonneg {l : List Int} (h : ¬ treeRoot l < 0) : leavesV l = true := by
  cases hl : leavesV l
  · rw [treeRoot_bad hl] at h; omega
  · rfl
/-- The proof of a leaf leads to the root. -/
theorem proofRoot_tree {l : List Int} {n : Int} (h : leavesV l = true) (h0 : 0 ≤ n) (h1 : n < l.length) : proofRoot (l.getD n.toNat 0) n l.length (treeProof l n) = treeRoot l := by
  obtain ⟨hl1, hl2, hp⟩ := leavesV_iff.1 h
  have hin : inTree (l.getD n.toNat 0) n l.length = true := by
    unfold inTree
    rw [getD_pv hp (by omega), Bool.true_and, Bool.and_eq_true]
    exact ⟨decide_eq_true (by omega), decide_eq_true (by omega)⟩
  unfold proofRoot
  rw [if_pos hin, treeProof_ok h h0 h1, treeRoot_ok h]
  have := root_of_proof 5 l n.toNat hp (by omega) (by omega)
  simpa using this
theorem rootF_bd : ∀ (l : List Int) (p : Int) (n m : Nat), -1 ≤ p ∧ p ≤ 16777212 → -1 ≤ rootF l p n m ∧ rootF l p n m ≤ 16777212
  | [], p, n, m, h => by rw [rootF]; split <;> omega
  | x :: r, p, n, m, h => by
    rw [rootF]
    split
    · omega
    · split
      · split
        · exact rootF_bd r p _ _ h
        · omega
      · split
        · refine rootF_bd r _ _ _ ?_
          split <;> exact prPair_bd _ _
        · omega
theorem proofRoot_bd (p n m : Int) (l : List Int) : -1 ≤ proofRoot p n m l ∧ proofRoot p n m l ≤ 16777212 := by
  unfold proofRoot; split
  · rename_i h
    have hp : pv p = true := by unfold inTree at h; simp only [Bool.and_eq_true] at h; exact h.1.1
    have := pv_iff.1 hp
    exact rootF_bd _ _ _ _ (by omega)
  · omega
end Go.Proofs.YtedcgbmdfmgcgaaGreatDoor

/- Trees: proofs, walked. -/
set_option linter.unusedVariables false
namespace Go.Proofs.YtedcgbmdfmgcgaaGreatDoor
open Go.RowKit

theorem i64_xor_nat (a b : Nat) (ha : a < 9223372036854775808) (hb : b < 9223372036854775808) : bits .xor .i64 (a : Int) (b : Int) = ((a ^^^ b : Nat) : Int) := by
  show IntKind.i64.wrap ((BitVec.ofInt 64 (a : Int) ^^^ BitVec.ofInt 64 (b : Int)).toNat : Int) = _
  rw [BitVec.toNat_xor, ofInt_i64 a ha, ofInt_i64 b hb, IntKind.wrap_i64]
  have := Nat.xor_lt_two_pow (n := 63) (x := a) (y := b) (by simpa using ha) (by simpa using hb)
  omega
theorem xor1_int (N : Nat) (h : N ≤ 1000) : bits .xor .i64 (N : Int) 1 = ((N ^^^ 1 : Nat) : Int) := i64_xor_nat N 1 (by omega) (by omega)

/-- One level of a tree on the way of a proof: what was written so far, what is to come. -/
def ProofAt (l : List Int) (n : Nat) (acc m : List Int) (N : Nat) : Prop := ∃ f, m.length ≤ 2 ^ f ∧ proofF 5 l n = acc ++ proofF f m N
theorem ProofAt.start {l : List Int} {n : Nat} (h : l.length ≤ 16) : ProofAt l n [] l n := ⟨5, by omega, rfl⟩
theorem ProofAt.len {l : List Int} {n : Nat} {acc m : List Int} {N : Nat} (h : ProofAt l n acc m N) : acc.length ≤ 5 := by
  obtain ⟨f, _, e⟩ := h
  have := proofF_len 5 l n
  rw [e, List.length_append] at this; omega
theorem ProofAt.step {l : List Int} {n : Nat} {acc m : List Int} {N : Nat} (h : ProofAt l n acc m N) (h1 : 1 < m.length) (x : Int) (hx : x = if N ^^^ 1 < m.length then m.getD (N ^^^ 1) 0 else -1) : ProofAt l n (acc ++ [x]) (lvlUp m) (N / 2) := by
  obtain ⟨f, hf, e⟩ := h
  cases f with
  | zero => simp at hf; omega
  | succ f =>
    refine ⟨f, ?_, ?_⟩
    · rw [lvlUp_len]; simp only [Nat.pow_succ] at hf; omega
    · rw [e, proofF_step h1, ← hx]; simp
theorem ProofAt.done {l : List Int} {n : Nat} {acc m : List Int} {N : Nat} (h : ProofAt l n acc m N) (h1 : m.length = 1) : proofF 5 l n = acc := by
  obtain ⟨f, hf, e⟩ := h
  rw [e, proofF_done h1, List.append_nil]
theorem getD_of_lt {m : List Int} {k : Nat} (h : k < m.length) : m.getD k 0 = m[k] := by rw [List.getD_eq_getElem?_getD, List.getElem?_eq_getElem h]; rfl
/-- A level that is read: no part of what is written. -/
def LvlIn (w0 wr : World) (v : Value) (m : List Int) (A : Option Addr) : Prop := Sl wr encI 1 A m ∧ Apart A v

end Go.Proofs.YtedcgbmdfmgcgaaGreatDoor

/- Roots of proofs, walked. -/
set_option linter.unusedVariables false
namespace Go.Proofs.YtedcgbmdfmgcgaaGreatDoor
open Go.RowKit

theorem rootF_one {x p : Int} {r : List Int} {N : Nat} : rootF (x :: r) p N 1 = -1 := by rw [rootF, if_pos rfl]
theorem rootF_alone {p : Int} {r : List Int} {N M : Nat} (h1 : M ≠ 1) (h2 : M ≤ N ^^^ 1) : rootF (-1 :: r) p N M = rootF r p (N / 2) ((M + 1) / 2) := by rw [rootF, if_neg h1, if_pos h2, if_pos rfl]
theorem rootF_alone_bad {x p : Int} {r : List Int} {N M : Nat} (h1 : M ≠ 1) (h2 : M ≤ N ^^^ 1) (hx : x ≠ -1) : rootF (x :: r) p N M = -1 := by rw [rootF, if_neg h1, if_pos h2, if_neg hx]
theorem rootF_bad {x p : Int} {r : List Int} {N M : Nat} (h1 : M ≠ 1) (h2 : ¬ M ≤ N ^^^ 1) (hx : pv x = false) : rootF (x :: r) p N M = -1 := by rw [rootF, if_neg h1, if_neg h2, if_neg (by rw [hx]; simp)]
theorem rootF_left {x p : Int} {r : List Int} {N M : Nat} (h1 : M ≠ 1) (h2 : ¬ M ≤ N ^^^ 1) (hx : pv x = true) (h : N % 2 = 0) : rootF (x :: r) p N M = rootF r (prPair p x) (N / 2) ((M + 1) / 2) := by rw [rootF, if_neg h1, if_neg h2, if_pos hx, if_pos h]
theorem rootF_right {x p : Int} {r : List Int} {N M : Nat} (h1 : M ≠ 1) (h2 : ¬ M ≤ N ^^^ 1) (hx : pv x = true) (h : ¬ N % 2 = 0) : rootF (x :: r) p N M = rootF r (prPair x p) (N / 2) ((M + 1) / 2) := by rw [rootF, if_neg h1, if_neg h2, if_pos hx, if_neg h]
theorem rootF_end {p : Int} {N M : Nat} : rootF [] p N M = if 1 < M then -1 else p := rfl
theorem inTree_iff {p n m : Int} : inTree p n m = true ↔ pv p = true ∧ (1 ≤ m ∧ m ≤ 16) ∧ (0 ≤ n ∧ n < m) := by
  unfold inTree; simp only [Bool.and_eq_true, decide_eq_true_eq, and_assoc]
theorem proofRoot_out {p n m : Int} {l : List Int} (h : inTree p n m = false) : proofRoot p n m l = -1 := by unfold proofRoot; rw [h]; rfl
theorem inTree_bad {p n m : Int} (h : ¬ (pv p = true ∧ (1 ≤ m ∧ m ≤ 16) ∧ (0 ≤ n ∧ n < m))) : inTree p n m = false := by
  cases hh : inTree p n m
  · rfl
  · exact absurd (inTree_iff.1 hh) h
/-- How a proof is read: what is left to be reckoned. -/
def RootAt (l : List Int) (R : Int) (k : Nat) (p : Int) (N M : Nat) : Prop := R = rootF (l.drop k) p N M
theorem RootAt.cons {l : List Int} {R p : Int} {k N M : Nat} (h : RootAt l R k p N M) (hk : k < l.length) : R = rootF (l[k] :: l.drop (k + 1)) p N M := by
  unfold RootAt at h; rw [h, List.drop_eq_getElem_cons hk]
theorem RootAt.nil {l : List Int} {R p : Int} {k N M : Nat} (h : RootAt l R k p N M) (hk : ¬ k < l.length) : R = if 1 < M then -1 else p := by
  unfold RootAt at h; rw [h, List.drop_of_length_le (by omega)]; rfl

theorem inI_pv {x : Int} (h : inI x (-1) 16777212 = true) (hx : x ≠ -1) : pv x = true := by
  simp only [inI, decide_eq_true_eq] at h; exact pv_iff.2 (by omega)
theorem inI_bad {x : Int} (h : inI x (-1) 16777212 = false) : pv x = false ∧ x ≠ -1 := by
  simp only [inI, decide_eq_false_iff_not] at h
  exact ⟨pv_false.2 (by omega), by omega⟩
theorem alone_iff {N M : Nat} (hN : N < M) : M ≤ N ^^^ 1 ↔ N % 2 = 0 ∧ N + 1 = M := by
  by_cases h : N % 2 = 0
  · rw [xor1_even h]; omega
  · rw [xor1_odd (by omega)]; omega
end Go.Proofs.YtedcgbmdfmgcgaaGreatDoor

/- Drawn inputs: prints, filters. -/
set_option linter.unusedVariables false
namespace Go.Proofs.YtedcgbmdfmgcgaaGreatDoor
open Go.RowKit

def IntIn (lo hi : Int) (v : Value) : Prop := ∃ n : Int, v = .int .i64 n ∧ lo ≤ n ∧ n ≤ hi
theorem three_cells {a b c : Int} (ha : 0 ≤ a ∧ a ≤ 16777212) (hb : 0 ≤ b ∧ b ≤ 16777212) (hc : 0 ≤ c ∧ c ≤ 16777212) (m : Nat) (hm : m < 3) :
    ∃ u : Int, (#[Value.int .i64 a, .int .i64 b, .int .i64 c] : Array Value)[m]? = some (.int .i64 u) ∧ 0 ≤ u ∧ u ≤ 16777212 := by
  match m, hm with
  | 0, _ => exact ⟨a, rfl, ha⟩
  | 1, _ => exact ⟨b, rfl, hb⟩
  | 2, _ => exact ⟨c, rfl, hc⟩

/-- What 'odd(n)' may answer. -/
def OddQ (Q : Bool → Prop) (n : Int) (g p : Nat) : Prop :=
  ∀ W, Rdr W g p → Calls Tryz.prog 69 #[.pointer (some ⟨g, 0, none⟩), .int .i64 n] W fun e w' => ∃ (x : Bool) (p1 : Nat), e = .returned (.bool x) ∧ Q x ∧ Only g W w' ∧ Rdr w' g p1 ∧ p1 ≤ p + 1
theorem oddq_any (n : Int) (g p : Nat) (hp : p ≤ 1000000000) (hn : n ≤ 1000000000) : OddQ (fun _ => True) n g p := fun W hr =>
  (odd_any n g p W hr hp hn).mono fun e w' ⟨x, p', h1, h2, h3, h4⟩ => ⟨x, p', h1, trivial, h2, h3, h4⟩
theorem oddq_zero (g p : Nat) (hp : p ≤ 1000000000) : OddQ (fun x => x = false) 0 g p := fun W hr =>
  (odd0_any g p W hr hp).mono fun e w' ⟨h1, h2⟩ => ⟨false, p, h1, rfl, by rw [← h2]; exact Only.refl _ _, by rw [← h2]; exact hr, by omega⟩

set_option maxHeartbeats 2000000 in
set_option maxRecDepth 100000 in
theorem l20Print_q (Q : Bool → Prop) (n : Int) (g p : Nat) (w : World) (hr : Rdr w g p) (hp : p ≤ 900000000) (hodd : OddQ Q n g p) :
    Calls Tryz.prog 82 #[.pointer (some ⟨g, 0, none⟩), .int .i64 n] w (Drew (fun v => ∃ x, Q x ∧ if x then IntIn (-1) 16777213 v else IntIn 0 16777212 v) 4 w g p) := by
  have HR := Lib.hid hr
  have HO := Lib.hid hodd
  clear hr hodd
  go_enter Tryz.func82, Tryz.ntmps82
  go_wp2_with fail
  refine (HO.out _ HR.out).mono ?_
  rintro e w1 ⟨x, p1, rfl, hq, ho1, hr1, hp1⟩
  have HQ := Lib.hid hq
  clear hq
  have HR1 := Lib.hid hr1
  have HO1 := Lib.hid ho1
  clear hr1 ho1
  cases x
  · go_wp2_with fail
    refine (pick_any _ _ _ _ HR1.out (by omega) (by omega)).mono ?_
    rintro e w2 ⟨a, rfl, ha, ho2, hr2⟩
    have HR2 := Lib.hid hr2
    have HO2 := Lib.hid ho2
    have ha' : (a : Int) ≤ 99 := by omega
    clear hr2 ho2 ha
    go_wp2_with fail
    refine (pick_any _ _ _ _ HR2.out (by omega) (by omega)).mono ?_
    rintro e w3 ⟨b, rfl, hb, ho3, hr3⟩
    have HR3 := Lib.hid hr3
    have HO3 := Lib.hid ho3
    have hb' : (b : Int) ≤ 255 := by omega
    clear hr3 ho3 hb
    go_wp2_with fail
    refine (pick_int 7 0 2 (HR3.out.alloc _) (by omega) rfl (by omega) (by omega) (by decide)).mono ?_
    rintro e w4 ⟨y, m, rfl, hy, hc, hm0, hm1, ho4, hr4⟩
    obtain ⟨m, rfl⟩ := Int.eq_ofNat_of_zero_le hm0
    have hg3 := HR3.out.lt
    obtain ⟨u, hu, hu0, hu1⟩ := three_cells (a := (a : Int)) (b := (b : Int) * 65000) (c := 16777212) (by omega) (by omega) (by omega) m (by omega)
    have hcu := lit_cell ho4 hg3 hu
    have hc2 : w4.cell? ⟨w3.heap.size + 1, y, none⟩ = some (.int .i64 (m : Int)) := by simpa using hc
    have HR4 := Lib.hid hr4
    have HO4 := Lib.hid (((Only.of_below ((Below.refl _ _).alloc (Nat.le_refl w3.heap.size) _)).trans ho4))
    clear hr4 ho4 hc hu
    go_wp2_with fail
    go_ret
    exact ⟨_, _, rfl, ⟨_, HQ.out, _, rfl, hu0, hu1⟩, HO1.out.trans (HO2.out.trans (HO3.out.trans HO4.out)), HR4.out, by omega⟩
  · go_wp2_with fail
    refine (pick_int 2 (-1) 16777213 HR1.out (by omega) rfl (by omega) (by omega) (by decide)).mono ?_
    rintro e w2 ⟨y, m, rfl, hy, hc, hm0, hm1, ho2, hr2⟩
    have HR2 := Lib.hid hr2
    have HO2 := Lib.hid ho2
    clear hr2 ho2
    go_wp2_with fail
    go_ret
    exact ⟨_, _, rfl, ⟨_, HQ.out, _, rfl, hm0, hm1⟩, HO1.out.trans HO2.out, HR2.out, by omega⟩

theorem IntIn.mono {a b c d : Int} {v : Value} (h : IntIn a b v) (h1 : c ≤ a) (h2 : b ≤ d) : IntIn c d v := by
  obtain ⟨n, e, x, y⟩ := h; exact ⟨n, e, by omega, by omega⟩
theorem Drew.imp {P P' : Value → Prop} {C g p : Nat} {w w' : World} {e : Ending} (h : Drew P C w g p e w') (hP : ∀ v, P v → P' v) : Drew P' C w g p e w' := by
  obtain ⟨v, p', h1, h2, h3⟩ := h; exact ⟨v, p', h1, hP v h2, h3⟩
theorem l20Print_any (n : Int) (g p : Nat) (w : World) (hr : Rdr w g p) (hp : p ≤ 900000000) (hn : n ≤ 1000000000) :
    Calls Tryz.prog 82 #[.pointer (some ⟨g, 0, none⟩), .int .i64 n] w (Drew (IntIn (-1) 16777213) 4 w g p) :=
  (l20Print_q _ n g p w hr hp (oddq_any n g p (by omega) hn)).mono fun e w' h => h.imp fun v ⟨x, _, hv⟩ => by
    cases x
    · exact IntIn.mono hv (by omega) (by omega)
    · exact hv
theorem l20Print_zero (g p : Nat) (w : World) (hr : Rdr w g p) (hp : p ≤ 900000000) :
    Calls Tryz.prog 82 #[.pointer (some ⟨g, 0, none⟩), .int .i64 0] w (Drew (IntIn 0 16777212) 4 w g p) :=
  (l20Print_q _ 0 g p w hr hp (oddq_zero g p (by omega))).mono fun e w' h => h.imp fun v ⟨x, hx, hv⟩ => by
    subst hx; exact hv

/-- A drawn slice in new memory: its elements, at most M of them, meet P. -/
def DrewSl {α : Type} (E : TypeId) (size : Nat) (enc : α → List Value) (P : List α → Prop) (C : Nat) (w : World) (g p : Nat) (e : Ending) (w' : World) : Prop :=
  ∃ (v : Value) (l : List α) (p' : Nat), e = .returned v ∧ Own w' w.heap.size E size enc v l ∧ P l ∧ Only g w w' ∧ Rdr w' g p' ∧ p' ≤ p + C

/-- 'append' of one element onto a row, where the reader's block may have turned as well. -/
theorem app_int_only {ops : Array Oper} {rest : List Oper} {o : Oper} {a : Act} {Q : Exit → Act → World → Prop} {w0 wr : World} {v : Value} {g : Nat} {l : List Int} {y : Int} {s x : Operand} (hgd : o.guard = none) (ho : o.op = .call { callee := .builtin .append, args := #[s, x], argTypes := #[105, 105] })
    (hs : a.eval s = v) (hx : a.eval x = .slice (some ⟨wr.heap.size, 0, none⟩) 1 1)
    (hown : Own wr w0.heap.size 3 1 encI v l) (hb : Only g w0 wr) (hn : l.length ≤ 16777216)
    (h : ∀ v' w', Own w' w0.heap.size 3 1 encI v' (l ++ [y]) → Below w0.heap.size wr w' → wpList Tryz.prog ops Q rest (a.put o.dst v') w') :
    wpList Tryz.prog ops Q (o :: rest) a (wr.alloc (.cells #[.int .i64 y] 3)) := by
  obtain ⟨i0, hi0, hz0, hz1, hz2⟩ := info_parts int_info
  exact wpList_app1 Tryz.underlying105 hi0 hz0 hz1 hz2 rfl (by decide) (by decide) hgd s x ho hs hx hown (Below.refl w0.heap.size wr) (Nat.le_refl _) hb.size hn y _ rfl rfl (by intro u hu; simp [encI] at hu; subst hu; rfl) h
theorem Only.and_below {g : Nat} {w0 wr w' : World} (h : Only g w0 wr) (hb : Below w0.heap.size wr w') : Only g w0 w' :=
  ⟨hb.os.trans h.os, hb.tape.trans h.tape, hb.output.trans h.output, Nat.le_trans h.size hb.size, fun k hk hne => (hb.block k hk).trans (h.block k hk hne)⟩

/-! ### drawn prints -/
end Go.Proofs.YtedcgbmdfmgcgaaGreatDoor

/- Drawn inputs: texts, pieces. -/
set_option linter.unusedVariables false
namespace Go.Proofs.YtedcgbmdfmgcgaaGreatDoor
open Go.RowKit

theorem Only.frozen {g : Nat} {w w1 : World} (h : Only g w w1) {b o : Nat} (hb : b ≠ g) (hlt : b < w.heap.size) : w1.frozen? ⟨b, o, none⟩ = w.frozen? ⟨b, o, none⟩ :=
  World.frozen?_of_block (w := w) (h.block b hlt (by intro e; injection e; contradiction))
theorem Only.setNew {g : Nat} {w w1 : World} (h : Only g w w1) {p : Addr} (hp : w.heap.size ≤ p.block) (u : Value) : Only g w (w1.setCell p u) :=
  ⟨h.os, h.tape, h.output, by simpa [World.setCell] using h.size, fun k hk hne => (Below.heap_setCell _ _ _ _ (by omega)).trans (h.block k hk hne)⟩
theorem Rdr.setNew {w : World} {g p : Nat} (h : Rdr w g p) {q : Addr} (hq : g < q.block) (u : Value) : Rdr (w.setCell q u) g p :=
  h.under hq ((Below.refl _ _).setCell (Nat.le_refl _) u)
/-- A block of the call's own: what it holds, and that it is not frozen. -/
theorem new_cell {w : World} {cs : Array Value} {E : TypeId} {k : Nat} {u : Value} (hu : cs[k]? = some u) : (w.alloc (.cells cs E)).cell? ⟨w.heap.size, k, none⟩ = some u := by
  rw [cell_of_row _ _ k _ E (0, 0) (heap_alloc_new w _)]; exact hu
theorem new_free {w : World} {cs : Array Value} {E : TypeId} (k : Nat) : (w.alloc (.cells cs E)).frozen? ⟨w.heap.size, k, none⟩ = false := by
  have h := heap_alloc_new w (.cells cs E)
  unfold World.frozen?
  simp only [h]
  simp

/-- A drawn text: valid, and with another print than the one text that a law puts in its place. -/
def txB : Value → Bool | .string s => textV (bs s) && decide (s.size ≤ 60) && !(prOf (bs s) == prOf (bs ⟨#[113, 117, 105, 116, 101, 32, 111, 116, 104, 101, 114]⟩)) | _ => false
def Txt (v : Value) : Prop := ∃ s : ByteArray, v = .string s ∧ s.size ≤ 60 ∧ textV (bs s) = true ∧ prOf (bs s) ≠ prOf (bs ⟨#[113, 117, 105, 116, 101, 32, 111, 116, 104, 101, 114]⟩)
theorem txB_iff {v : Value} (h : txB v = true) : Txt v := by
  unfold txB at h; split at h
  · simp only [Bool.and_eq_true, decide_eq_true_eq, Bool.not_eq_true', beq_eq_false_iff_ne] at h
    exact ⟨_, rfl, h.1.2, h.1.1, h.2⟩
  · cases h
set_option maxHeartbeats 2000000 in
set_option maxRecDepth 100000 in
theorem l20Text_zero (g p : Nat) (w : World) (hr : Rdr w g p) (hp : p ≤ 900000000) :
    Calls Tryz.prog 72 #[.pointer (some ⟨g, 0, none⟩), .int .i64 0] w (Drew Txt 1 w g p) := by
  have HR := Lib.hid hr
  clear hr
  go_enter Tryz.func72, Tryz.ntmps72
  go_wp2_with fail
  refine (odd0_any _ _ _ HR.out (by omega)).mono ?_
  rintro e w' ⟨rfl, rfl⟩
  go_wp2_with fail
  refine (pick_lit 8 txB HR.out (by omega) rfl (by omega) (by omega) (by decide +kernel)).mono ?_
  rintro e w2 ⟨x, u, rfl, hx, hc, hu, ho2, hr2⟩
  obtain ⟨s, rfl, hs⟩ := txB_iff hu
  have HR2 := Lib.hid hr2
  have HO2 := Lib.hid ho2
  have HT := Lib.hid hs
  clear hr2 ho2 hs hu
  go_wp2_with fail
  go_ret
  exact ⟨_, _, rfl, ⟨_, rfl, HT.out⟩, HO2.out, HR2.out, by omega⟩

theorem flat3 {a0 a1 a2 : Int} {t0 t1 t2 : ByteArray} (x : Nat) (hx : x < 3) : ∃ (a : Int) (t : ByteArray), (#[Value.int .i64 a0, .string t0, .int .i64 a1, .string t1, .int .i64 a2, .string t2] : Array Value)[x * 2]? = some (.int .i64 a) ∧
    (#[Value.int .i64 a0, .string t0, .int .i64 a1, .string t1, .int .i64 a2, .string t2] : Array Value)[x * 2 + 1]? = some (.string t) ∧ (a = a0 ∨ a = a1 ∨ a = a2) ∧ (t = t0 ∨ t = t1 ∨ t = t2) := by
  match x, hx with
  | 0, _ => exact ⟨a0, t0, rfl, rfl, .inl rfl, .inl rfl⟩
  | 1, _ => exact ⟨a1, t1, rfl, rfl, .inr (.inl rfl), .inr (.inl rfl)⟩
  | 2, _ => exact ⟨a2, t2, rfl, rfl, .inr (.inr rfl), .inr (.inr rfl)⟩
def PcV (v : Value) : Prop := ∃ (a : Int) (t : ByteArray), v = .agg #[.int .i64 a, .string t] ∧ -1 ≤ a ∧ a ≤ 16777212 ∧ t.size ≤ 60
def DrawnPc (w : World) (e : Ending) (w' : World) : Prop := ∃ (a : Int) (t : ByteArray), e = .returned (.agg #[.int .i64 a, .string t]) ∧ -1 ≤ a ∧ a ≤ 16777212 ∧ t.size ≤ 60 ∧ Below w.heap.size w w'
end Go.Proofs.YtedcgbmdfmgcgaaGreatDoor

/- 'append' of a whole slice onto a row of the call's own; 'append' of one struct. -/
set_option linter.unusedVariables false
namespace Go.Proofs.YtedcgbmdfmgcgaaGreatDoor
open Go.RowKit

theorem Own.cz {α : Type} {enc : α → List Value} {w : World} {base size : Nat} {E : TypeId} {A : Option Addr} {n c : Nat} {l : List α} (h : Own w base E size enc (.slice A n c) l) : A = none → c = 0 := by
  rintro rfl
  rcases h.2 with ⟨hv, hn⟩ | ⟨g, cap, cur, hv, hg, hh, hnc, hcm, hsz, ht⟩
  · injection hv
  · injection hv with e; cases e
theorem wpList_appN {P : Program} {α : Type} {enc : α → List Value} {ops : Array Oper} {rest : List Oper} {o : Oper} {a : Act} {Q : Exit → Act → World → Prop} {w0 wr : World} {B base size bytes : Nat} {t E : TypeId} {i : TypeInfo} {z : Value} {v : Value} {l m : List α} {A : Option Addr} {c : Nat}
    (ht : P.underlying t = some (.slice E)) (hi : P.info? E = some i) (hz : i.zero = some z) (hsize : i.size = size) (hby : i.bytes = bytes) (hzs : z.cells.size = size) (hsz : 0 < size) (hb200 : bytes ≤ 256)
    (hgd : o.guard = none) (s x : Operand) (ho : o.op = .call { callee := .builtin .append, args := #[s, x], argTypes := #[t, t] })
    (hown : Own wr base E size enc v l) (hb : Below B w0 wr) (hB : B ≤ base) (hbase : base ≤ wr.heap.size) (hn : l.length + m.length ≤ 33554432)
    (hsl : Sl wr enc size A m) (hcz : A = none → c = 0) (hce : ∀ y, (enc y).length = size) (h1 : ∀ y, ∀ u ∈ enc y, u.oneCell' = true)
    (hs : a.eval s = v) (hx : a.eval x = .slice A m.length c)
    (h : ∀ v' w', Own w' base E size enc v' (l ++ m) → Below B w0 w' → Grew v wr w' → wpList P ops Q rest (a.put o.dst v') w') : wpList P ops Q (o :: rest) a wr := by
  cases A with
  | none =>
    have hm : m = [] := by
      cases m with
      | nil => rfl
      | cons y r => obtain ⟨b, o, e, _⟩ := hsl (by simp); cases e
    subst hm
    rw [hcz rfl] at hx
    refine wpList_append_own_none hgd s x t ho base E i size ht hi v l.length (flat enc l) hs hown hx ?_
    exact h v wr (by rw [List.append_nil]; exact hown) hb (Grew.refl _ _)
  | some ad =>
    refine wpList_append_own _ hgd s x t ho base E i z size bytes ht hi hz hsize hby hzs hsz v l.length (flat enc l) hs hown ad m.length c (flat enc m) hx (flat_length hce m) ?_ ?_ ?_ ?_ hbase ?_
    · intro j u hu
      have hpos : 0 < m.length := by
        have hlt := (List.getElem?_eq_some_iff.1 hu).1
        rw [flat_length hce] at hlt
        cases m with
        | nil => simp at hlt
        | cons y r => simp
      obtain ⟨b, o', e, hc⟩ := hsl hpos
      injection e with e
      subst e
      have hadd : (⟨b, o', none⟩ : Addr).add j = ⟨b, o' + j, none⟩ := by unfold Addr.add; split <;> simp_all
      rw [hadd]; exact hc j u hu
    · intro u hu
      unfold flat at hu
      obtain ⟨y, _, hy⟩ := List.mem_flatMap.1 hu
      exact h1 y u hy
    · unfold maxLen; omega
    · have := Nat.mul_le_mul_left (l.length + m.length) hb200; omega
    · intro v' w' hown' hg _
      refine h v' w' ?_ (hb.grown hg (Nat.le_trans hB hbase) (fun k hk => Nat.le_trans hB (World.ownsRow.lt hown k hk).1)) hg
      show w'.ownsRow base E size v' (l ++ m).length (flat enc (l ++ m))
      rw [flat_append, List.length_append]; exact hown'
theorem oneI : ∀ y, ∀ u ∈ encI y, u.oneCell' = true := by intro y u hu; simp [encI] at hu; subst hu; rfl
theorem oneS : ∀ y, ∀ u ∈ encS y, u.oneCell' = true := by intro y u hu; simp [encS] at hu; subst hu; rfl
theorem oneP : ∀ y, ∀ u ∈ encP y, u.oneCell' = true := by intro y u hu; simp [encP] at hu; rcases hu with rfl | rfl <;> rfl
theorem oneV : ∀ y, ∀ u ∈ encV y, u.oneCell' = true := by intro y u hu; simp [encV] at hu; rcases hu with rfl | rfl | rfl <;> rfl
theorem oneT : ∀ y, ∀ u ∈ encT y, u.oneCell' = true := by intro y u hu; simp [encT] at hu; rcases hu with rfl | rfl | rfl | rfl <;> rfl
section
variable {ops : Array Oper} {rest : List Oper} {o : Oper} {a : Act} {Q : Exit → Act → World → Prop} {w0 wr : World} {v : Value}
theorem app_pcN {l m : List Pc} {A : Option Addr} {c : Nat} {s x : Operand} (hgd : o.guard = none) (ho : o.op = .call { callee := .builtin .append, args := #[s, x], argTypes := #[23, 23] })
    (hown : Own wr w0.heap.size 83 2 encP v l) (hb : Below w0.heap.size w0 wr) (hn : l.length + m.length ≤ 33554432) (hsl : Sl wr encP 2 A m) (hcz : A = none → c = 0)
    (hs : a.eval s = v) (hx : a.eval x = .slice A m.length c)
    (h : ∀ v' w', Own w' w0.heap.size 83 2 encP v' (l ++ m) → Below w0.heap.size w0 w' → Grew v wr w' → wpList Tryz.prog ops Q rest (a.put o.dst v') w') : wpList Tryz.prog ops Q (o :: rest) a wr := by
  obtain ⟨i0, hi0, hz0, hz1, hz2⟩ := info_parts pc_info
  exact wpList_appN Tryz.underlying23 hi0 hz0 hz1 hz2 rfl (by decide) (by decide) hgd s x ho hown hb (Nat.le_refl _) hb.size hn hsl hcz (fun _ => rfl) oneP hs hx h
theorem app_strN {l m : List ByteArray} {A : Option Addr} {c : Nat} {s x : Operand} (hgd : o.guard = none) (ho : o.op = .call { callee := .builtin .append, args := #[s, x], argTypes := #[33, 33] })
    (hown : Own wr w0.heap.size 9 1 encS v l) (hb : Below w0.heap.size w0 wr) (hn : l.length + m.length ≤ 33554432) (hsl : Sl wr encS 1 A m) (hcz : A = none → c = 0)
    (hs : a.eval s = v) (hx : a.eval x = .slice A m.length c)
    (h : ∀ v' w', Own w' w0.heap.size 9 1 encS v' (l ++ m) → Below w0.heap.size w0 w' → Grew v wr w' → wpList Tryz.prog ops Q rest (a.put o.dst v') w') : wpList Tryz.prog ops Q (o :: rest) a wr := by
  obtain ⟨i0, hi0, hz0, hz1, hz2⟩ := info_parts str_info
  exact wpList_appN Tryz.underlying33 hi0 hz0 hz1 hz2 rfl (by decide) (by decide) hgd s x ho hown hb (Nat.le_refl _) hb.size hn hsl hcz (fun _ => rfl) oneS hs hx h
end
/-! ### slices.Clone -/
set_option maxHeartbeats 2000000 in
set_option maxRecDepth 100000 in
theorem ClonePc_any (A : Option Addr) (c : Nat) (l : List Pc) (w : World) (hs : Sl w encP 2 A l) (hcz : A = none → c = 0) (hl : l.length ≤ 16777216) :
    Calls Tryz.prog 64 #[.slice A l.length c] w (OwnRes 83 2 encP l w) := by
  have HS := Lib.hid hs
  have HC := Lib.hid hcz
  clear hs hcz
  have hnil := fun (W : World) (A : Option Addr) (n c : Nat) => Lib.run_eql_slice_nil (P := Tryz.prog) W 23 83 A n c 0 0 Tryz.underlying23
  cases A with
  | none =>
    have hm : l = [] := by
      cases l with
      | nil => rfl
      | cons y r => obtain ⟨b, o, e, _⟩ := HS.out (by simp); cases e
    subst hm
    go_enter Tryz.func64, Tryz.ntmps64
    go_wp2
    go_ret
    exact ⟨_, rfl, Own.nil, Below.refl _ _⟩
  | some ad =>
    go_enter Tryz.func64, Tryz.ntmps64
    go_wp2_with (at_builtin; refine app_pcN rfl rfl (Own.made (Nat.le_refl _)) ((Below.refl _ _).alloc (Nat.le_refl _) _) (by simp; omega) (HS.out.alloc _) HC.out (by rfl) (by rfl) ?_; intro v1 w2 hown2 hb2 hg2; have HW2 := Lib.hid hown2; have HB2 := Lib.hid hb2; clear hown2 hb2 hg2)
    go_ret
    exact ⟨_, rfl, by have h := HW2.out; rwa [List.nil_append] at h, HB2.out⟩
end Go.Proofs.YtedcgbmdfmgcgaaGreatDoor

/- 'copy' of elements of more than one cell, as run equations; a row written whole. -/
set_option linter.unusedVariables false
namespace Go.Proofs.YtedcgbmdfmgcgaaGreatDoor
open Go.RowKit

theorem run_copy_rowK {P : Program} (w : World) (dT sT ty elem : TypeId) (g o dLen dCap : Nat) (a : Addr) (sLen sCap : Nat) (cur : Array Value) (t : TypeId) (cs : List Value) (k m : Nat)
    (hu : P.underlying dT = some (.slice elem)) (hs : (P.info? elem).map (·.size) = some k) (hm : Nat.min sLen dLen = m)
    (hg : w.heap[g]? = some (.cells cur t (0, 0))) (hn : cs.length = m * k)
    (hsrc : ∀ j v, cs[j]? = some v → w.cell? (a.add j) = some v) (hfit : o + cs.length ≤ cur.size) (h1 : ∀ v ∈ cs, v.oneCell' = true) :
    (Builtin.copy_ #[dT, sT] ty #[.slice (some ⟨g, o, none⟩) dLen dCap, .slice (some a) sLen sCap]).run P w =
      .ok (goInt m) (w.setRow g (cur.toList.take o ++ cs ++ cur.toList.drop (o + cs.length)).toArray) := by
  have hl := run_loadCells_list (P := P) w a cs hsrc
  have hst := run_storeCells_at P g o t cs 0 cur w hg (by simpa using hfit) h1
  rw [hn] at hl
  cases hq : P.info? elem with
  | none => simp [hq] at hs
  | some i =>
    have hi : i.size = k := by simpa [hq] using hs
    simp [Builtin.copy_, run_underlying hu, Builtin.lenOf, Builtin.firstCells, sizeOf, typeInfo, hq, hi, hm, hl, hst]
end Go.Proofs.YtedcgbmdfmgcgaaGreatDoor

/- Regions that draw their order, by an invariant: one case for each operation, whatever came before it. -/
set_option linter.unusedVariables false
namespace Go.Proofs.YtedcgbmdfmgcgaaGreatDoor
open Go.RowKit

/-- Each operation waits for earlier ones alone. -/
def afterLow (l : List Oper) : Bool := (List.range l.length).all fun i => ((l[i]?).map fun o => o.after.all fun e => !Region.binds .any e || decide (e.on < i)).getD true
/-- What is asked of each operation: from the invariant to the invariant. -/
def InvSteps (P : Program) (ops : Array Oper) (Q : Exit → Act → World → Prop) (J : (Nat → Bool) → Act → World → Prop) : Nat → List Oper → Prop
  | _, [] => True
  | i, o :: r => (∀ (d : Nat → Bool) (a : Act) (w : World) (K : Act → World → Prop), d i = false → (∀ e ∈ o.after, Region.binds .any e = true → d e.on = true) → J d a w → (∀ a' w', J (fun j => j == i || d j) a' w' → K a' w') →
      if Region.wanted o (yielded ops a.tmps) = true then o.wp P a w K Q else K (a.put o.dst undef) w) ∧ InvSteps P ops Q J (i + 1) r
theorem InvSteps.at {P : Program} {ops : Array Oper} {Q : Exit → Act → World → Prop} {J : (Nat → Bool) → Act → World → Prop} : ∀ (l : List Oper) (k i : Nat) (o : Oper), InvSteps P ops Q J k l → l[i]? = some o →
    ∀ (d : Nat → Bool) (a : Act) (w : World) (K : Act → World → Prop), d (k + i) = false → (∀ e ∈ o.after, Region.binds .any e = true → d e.on = true) → J d a w → (∀ a' w', J (fun j => j == k + i || d j) a' w' → K a' w') →
      if Region.wanted o (yielded ops a.tmps) = true then o.wp P a w K Q else K (a.put o.dst undef) w
  | [], _, _, _, _, h => by simp at h
  | x :: r, k, 0, o, hs, h => by
    simp at h; subst h; exact hs.1
  | x :: r, k, i + 1, o, hs, h => by
    have h1 := InvSteps.at r (k + 1) i o hs.2 (by simpa using h)
    have e : k + 1 + i = k + (i + 1) := by omega
    rw [e] at h1; exact h1
theorem dn_set {listed : Array Bool} {i : Nat} (hi : i < listed.size) : (fun j => (listed.setIfInBounds i true).getD j false) = fun j => j == i || listed.getD j false := by
  funext j
  by_cases e : j = i
  · subst e; simp [hi]
  · have hij : i ≠ j := fun h => e h.symm
    rw [getD_set_ne false hij]; simp [e]
theorem count_set {n : Nat} {listed : Array Bool} {i : Nat} (hs : listed.size = n) (hi : i < n) (h : listed.getD i false = false) :
    (List.range n).countP (fun j => !(listed.setIfInBounds i true).getD j false) + 1 = (List.range n).countP (fun j => !listed.getD j false) := by
  have hf := dn_set (listed := listed) (i := i) (by omega)
  have e : (fun j => !(listed.setIfInBounds i true).getD j false) = fun j => !(j == i || listed.getD j false) := by
    funext j; exact congrArg (fun b => !b) (congrFun hf j)
  rw [e]
  have aux : ∀ l : List Nat, l.Nodup → i ∈ l → l.countP (fun j => !(j == i || listed.getD j false)) + 1 = l.countP (fun j => !listed.getD j false) := by
    intro l
    induction l with
    | nil => intro _ hm; simp at hm
    | cons x r ih =>
      intro hnd hm
      rw [List.nodup_cons] at hnd
      rw [List.countP_cons, List.countP_cons]
      by_cases hx : x = i
      · subst hx
        have hr : r.countP (fun j => !(j == x || listed.getD j false)) = r.countP (fun j => !listed.getD j false) := by
          refine List.countP_congr fun y hy => ?_
          have : y ≠ x := fun e => hnd.1 (e ▸ hy)
          simp [this]
        rw [hr]; simp [h]
      · have hm' : i ∈ r := by
          rcases List.mem_cons.1 hm with e | e
          · exact absurd e.symm hx
          · exact e
        have := ih hnd.2 hm'
        have e2 : (x == i) = false := by simpa using hx
        simp only [e2, Bool.false_or]
        omega
  exact aux _ List.nodup_range (List.mem_range.2 hi)
theorem wpAny_inv {P : Program} {l : List Oper} {Q : Exit → Act → World → Prop} (J : (Nat → Bool) → Act → World → Prop) (hlow : afterLow l = true) (hs : InvSteps P l.toArray Q J 0 l)
    (hend : ∀ d a w, (∀ i, i < l.length → d i = true) → J d a w → Q .normal a w) :
    ∀ (fuel : Nat) (listed : Array Bool) (a : Act) (w : World), listed.size = l.length → (List.range l.length).countP (fun j => !listed.getD j false) ≤ fuel → J (fun j => listed.getD j false) a w → wpAny P .any l.toArray Q fuel listed a w := by
  have hbinds : ∀ e, Region.binds .any e = true ∨ Region.binds .any e = false := fun e => by cases Region.binds .any e <;> simp
  -- where nothing can come up, all has come up
  have hall : ∀ listed : Array Bool, listed.size = l.length → Region.ready .any l.toArray listed = [] → ∀ i, i < l.length → listed.getD i false = true := by
    intro listed hsz hr i
    induction i using Nat.strongRecOn with
    | _ i ih =>
      intro hi
      by_cases h : listed.getD i false = true
      · exact h
      · exfalso
        have hm : i ∈ Region.ready .any l.toArray listed := by
          rw [mem_ready]
          refine ⟨?_, l[i], by simp [hi], fun e he hbe => ?_⟩
          · have hh : listed.getD i false = false := by simpa using h
            rw [Array.getD_eq_getD_getElem?, Array.getElem?_eq_getElem (by omega)] at hh ⊢; simpa using hh
          · unfold afterLow at hlow
            rw [List.all_eq_true] at hlow
            have h1 := hlow i (List.mem_range.2 hi)
            rw [List.getElem?_eq_getElem hi] at h1
            simp only [Option.map_some, Option.getD_some] at h1
            have h3 := Array.all_eq_true_iff_forall_mem.1 h1 e he
            rw [hbe, Bool.not_true, Bool.false_or] at h3
            have h2 := of_decide_eq_true h3
            exact ih _ h2 (by omega)
        rw [hr] at hm; simp at hm
  intro fuel
  induction fuel with
  | zero =>
    intro listed a w hsz hc hJ
    have hz : ∀ i, i < l.length → listed.getD i false = true := by
      intro i hi
      have h0 : (List.range l.length).countP (fun j => !listed.getD j false) = 0 := by omega
      rw [List.countP_eq_zero] at h0
      simpa using h0 i (List.mem_range.2 hi)
    refine ⟨?_, hend _ a w hz hJ⟩
    cases hr : Region.ready .any l.toArray listed with
    | nil => rfl
    | cons x r =>
      exfalso
      have hm : x ∈ Region.ready .any l.toArray listed := by rw [hr]; simp
      rw [mem_ready] at hm
      obtain ⟨h1, o, ho, _⟩ := hm
      have hx : x < l.length := by
        have := (Array.getElem?_eq_some_iff.1 ho).1; simpa using this
      have h2 := hz x hx
      rw [Array.getD_eq_getD_getElem?, Array.getElem?_eq_getElem (by omega)] at h1 h2
      simp at h1 h2; rw [h1] at h2; cases h2
  | succ fuel ih =>
    intro listed a w hsz hc hJ
    refine ⟨fun hr => hend _ a w (hall listed hsz hr) hJ, fun i hi => ?_⟩
    rw [mem_ready] at hi
    obtain ⟨h1, o, ho, haft⟩ := hi
    have hx : i < l.length := by
      have := (Array.getElem?_eq_some_iff.1 ho).1; simpa using this
    have hd : listed.getD i false = false := by
      rw [Array.getD_eq_getD_getElem?, Array.getElem?_eq_getElem (by omega)] at h1 ⊢; simpa using h1
    have hlo : l[i]? = some o := by simpa using ho
    have hcnt := count_set hsz hx hd
    have hstep := InvSteps.at l 0 i o hs hlo (fun j => listed.getD j false) a w (wpAny P .any l.toArray Q fuel (listed.setIfInBounds i true)) (by simpa using hd) haft hJ (fun a' w' hJ' => by
      refine ih _ a' w' (by simpa using hsz) (by omega) ?_
      rw [dn_set (by omega)]
      simpa using hJ')
    unfold wpOp
    simp only [ho]
    split
    · rename_i hw; rw [if_pos hw] at hstep; exact .inl hstep
    · rename_i hw; rw [if_neg hw] at hstep; exact hstep
/-- **A region that draws its order, by an invariant**: 'd' says which operations have come up. -/
theorem wp_region_inv {P : Program} {id : Nat} {Q : Exit → Act → World → Prop} {a : Act} {w : World} {l : List Oper} (hm : P.follows .mixedOrders = true) (hlow : afterLow l = true)
    (J : Act → (Nat → Bool) → Act → World → Prop) (h0 : J a (fun _ => false) a w.drew) (hs : InvSteps P l.toArray Q (J a) 0 l) (hend : ∀ d a' w', (∀ i, i < l.length → d i = true) → J a d a' w' → Q .normal a' w') :
    (Code.region id l.toArray true).wp P Q a w := by
  refine wp_region_any hm (wpAny_inv (J a) hlow hs hend _ _ _ _ (by simp) ?_ ?_)
  · refine Nat.le_trans List.countP_le_length ?_; simp
  · have e : (fun j => (Array.replicate l.toArray.size false).getD j false) = fun _ => false := by
      funext j
      rw [Array.getD_eq_getD_getElem?, Array.getElem?_replicate]
      split <;> rfl
    rw [e]; exact h0
end Go.Proofs.YtedcgbmdfmgcgaaGreatDoor

/- 'append' of one element onto a row of the call's own, telling what else stayed and where the new row lies. -/
set_option linter.unusedVariables false
namespace Go.Proofs.YtedcgbmdfmgcgaaGreatDoor
open Go.RowKit

/-- v' owns no block that was there and that v did not own. -/
def Kin (v : Value) (wr : World) (v' : Value) : Prop := ∀ b, b < wr.heap.size → v.ownBlock ≠ some b → v'.ownBlock ≠ some b
def LtA (A : Option Addr) (n : Nat) : Prop := ∀ b o, A = some ⟨b, o, none⟩ → b < n
theorem Apart.kin {A : Option Addr} {v v' : Value} {wr : World} (h : Apart A v) (hA : LtA A wr.heap.size) (hk : Kin v wr v') : Apart A v' := fun b o e => hk b (hA b o e) (h b o e)
theorem LtA.mono {A : Option Addr} {m n : Nat} (h : LtA A m) (hmn : m ≤ n) : LtA A n := fun b o e => Nat.lt_of_lt_of_le (h b o e) hmn
theorem Own.ltA {α : Type} {enc : α → List Value} {w : World} {base size : Nat} {E : TypeId} {A : Option Addr} {n c : Nat} {l : List α} (h : Own w base E size enc (.slice A n c) l) : LtA A w.heap.size := by
  obtain ⟨A', c', e, _, _, hg⟩ := h.sl
  injection e with e1 _ _
  subst e1
  intro b o e
  rcases hg with ⟨_, h⟩ | ⟨g, h, _, hlt⟩
  · rw [h] at e; cases e
  · rw [h] at e; injection e with e; injection e with e1 _; omega
theorem Own.apart {α : Type} {enc : α → List Value} {w : World} {base size : Nat} {E : TypeId} {A : Option Addr} {n c : Nat} {l : List α} (h : Own w base E size enc (.slice A n c) l) {v : Value} (hv : ∀ g, v.ownBlock = some g → g < base) : Apart A v := by
  obtain ⟨A', c', e, _, _, hg⟩ := h.sl
  injection e with e1 _ _
  subst e1
  intro b o e hb
  have := hv b hb
  rcases hg with ⟨_, h⟩ | ⟨g, h, hlo, hlt⟩
  · rw [h] at e; cases e
  · rw [h] at e; injection e with e; injection e with e1 _; omega
theorem wpList_app3 {P : Program} {α : Type} {enc : α → List Value} {ops : Array Oper} {rest : List Oper} {o : Oper} {a : Act} {Q : Exit → Act → World → Prop} {w0 wr : World} {B base size bytes : Nat} {t E : TypeId} {i : TypeInfo} {z : Value} {v : Value} {l : List α}
    (ht : P.underlying t = some (.slice E)) (hi : P.info? E = some i) (hz : i.zero = some z) (hsize : i.size = size) (hby : i.bytes = bytes) (hzs : z.cells.size = size) (hsz : 0 < size) (hb200 : bytes ≤ 256)
    (hgd : o.guard = none) (s x : Operand) (ho : o.op = .call { callee := .builtin .append, args := #[s, x], argTypes := #[t, t] })
    (hs : a.eval s = v) (hx : a.eval x = .slice (some ⟨wr.heap.size, 0, none⟩) 1 1)
    (hown : Own wr base E size enc v l) (hb : Below B w0 wr) (hB : B ≤ base) (hbase : base ≤ wr.heap.size) (hn : l.length ≤ 16777216) (y : α) (cells : Array Value) (hcl : cells = (enc y).toArray) (hce : (enc y).length = size) (h1 : ∀ u ∈ enc y, u.oneCell' = true)
    (h : ∀ v' w', Own w' base E size enc v' (l ++ [y]) → Below B w0 w' → Grew v wr w' → Kin v wr v' → wpList P ops Q rest (a.put o.dst v') w') : wpList P ops Q (o :: rest) a (wr.alloc (.cells cells E)) := by
  subst hcl
  refine wpList_append_own_at _ hgd s x t ho base E i z size bytes ht hi hz hsize hby hzs hsz v l.length (flat enc l) hs (World.ownsRow.alloc hown _) ⟨wr.heap.size, 0, none⟩ 1 1 (enc y) hx (by rw [hce, Nat.one_mul]) ?_ h1 ?_ ?_ ?_ ?_
  · intro j u hu
    have hadd : (⟨wr.heap.size, 0, none⟩ : Addr).add j = ⟨wr.heap.size, j, none⟩ := by unfold Addr.add; split <;> simp_all
    rw [hadd, cell_of_row _ _ j _ E (0, 0) (heap_alloc_new wr _)]
    simpa using hu
  · unfold maxLen; omega
  · have := Nat.mul_le_mul_left (l.length + 1) hb200; omega
  · simp; omega
  · intro v' w' hown' hg _ hat
    refine h v' w' ?_ ((hb.alloc (Nat.le_trans hB hbase) _).grown hg (by simp; omega) (fun k hk => ?_)) ?_ ?_
    · show w'.ownsRow base E size v' (l ++ [y]).length (flat enc (l ++ [y]))
      rw [flat_snoc, List.length_append]; exact hown'
    · exact Nat.le_trans hB (World.ownsRow.lt hown k hk).1
    · exact ⟨hg.os, hg.tape, hg.output, Nat.le_trans (by simp) hg.size, fun k hk hne => (hg.block k (by simp; omega) hne).trans (Below.heap_alloc wr _ k hk)⟩
    · intro b hb2 hne hv'
      rcases hat with hat | hat
      · exact hne (hat ▸ hv')
      · rw [hat] at hv'; injection hv' with e; simp at e; omega
section
variable {ops : Array Oper} {rest : List Oper} {o : Oper} {a : Act} {Q : Exit → Act → World → Prop} {w0 wr : World} {v : Value}
theorem app_str3 {l : List ByteArray} {y : ByteArray} {s x : Operand} (hgd : o.guard = none) (ho : o.op = .call { callee := .builtin .append, args := #[s, x], argTypes := #[33, 33] })
    (hs : a.eval s = v) (hx : a.eval x = .slice (some ⟨wr.heap.size, 0, none⟩) 1 1)
    (hown : Own wr w0.heap.size 9 1 encS v l) (hb : Below w0.heap.size w0 wr) (hn : l.length ≤ 16777216)
    (h : ∀ v' w', Own w' w0.heap.size 9 1 encS v' (l ++ [y]) → Below w0.heap.size w0 w' → Grew v wr w' → Kin v wr v' → wpList Tryz.prog ops Q rest (a.put o.dst v') w') :
    wpList Tryz.prog ops Q (o :: rest) a (wr.alloc (.cells #[.string y] 9)) := by
  obtain ⟨i0, hi0, hz0, hz1, hz2⟩ := info_parts str_info
  exact wpList_app3 Tryz.underlying33 hi0 hz0 hz1 hz2 rfl (by decide) (by decide) hgd s x ho hs hx hown hb (Nat.le_refl _) hb.size hn y _ rfl rfl (by intro u hu; simp [encS] at hu; subst hu; rfl) h
theorem app_pc3 {l : List Pc} {y : Pc} {s x : Operand} (hgd : o.guard = none) (ho : o.op = .call { callee := .builtin .append, args := #[s, x], argTypes := #[23, 23] })
    (hs : a.eval s = v) (hx : a.eval x = .slice (some ⟨wr.heap.size, 0, none⟩) 1 1)
    (hown : Own wr w0.heap.size 83 2 encP v l) (hb : Below w0.heap.size w0 wr) (hn : l.length ≤ 16777216)
    (h : ∀ v' w', Own w' w0.heap.size 83 2 encP v' (l ++ [y]) → Below w0.heap.size w0 w' → Grew v wr w' → Kin v wr v' → wpList Tryz.prog ops Q rest (a.put o.dst v') w') :
    wpList Tryz.prog ops Q (o :: rest) a (wr.alloc (.cells #[.int .i64 y.1, .string y.2] 83)) := by
  obtain ⟨i0, hi0, hz0, hz1, hz2⟩ := info_parts pc_info
  exact wpList_app3 Tryz.underlying23 hi0 hz0 hz1 hz2 rfl (by decide) (by decide) hgd s x ho hs hx hown hb (Nat.le_refl _) hb.size hn y _ rfl rfl (oneP y) h
end
end Go.Proofs.YtedcgbmdfmgcgaaGreatDoor

/- Entries: the type's facts, slices.Clone, append of one. -/
set_option linter.unusedVariables false
namespace Go.Proofs.YtedcgbmdfmgcgaaGreatDoor
open Go.RowKit
theorem en_info : (Tryz.prog.info? 100).map (fun i => (i.zero, i.size, i.bytes)) = some (some (.agg #[.string ⟨#[]⟩, .int .i64 0]), 2, 24) := by kernel_rfl
theorem oneE : ∀ y, ∀ u ∈ encE y, u.oneCell' = true := by intro y u hu; simp [encE] at hu; rcases hu with rfl | rfl <;> rfl
section
variable {ops : Array Oper} {rest : List Oper} {o : Oper} {a : Act} {Q : Exit → Act → World → Prop} {w0 wr : World} {v : Value}
theorem app_enN {l m : List En} {A : Option Addr} {c : Nat} {s x : Operand} (hgd : o.guard = none) (ho : o.op = .call { callee := .builtin .append, args := #[s, x], argTypes := #[64, 64] })
    (hown : Own wr w0.heap.size 100 2 encE v l) (hb : Below w0.heap.size w0 wr) (hn : l.length + m.length ≤ 33554432) (hsl : Sl wr encE 2 A m) (hcz : A = none → c = 0)
    (hs : a.eval s = v) (hx : a.eval x = .slice A m.length c)
    (h : ∀ v' w', Own w' w0.heap.size 100 2 encE v' (l ++ m) → Below w0.heap.size w0 w' → Grew v wr w' → wpList Tryz.prog ops Q rest (a.put o.dst v') w') : wpList Tryz.prog ops Q (o :: rest) a wr := by
  obtain ⟨i0, hi0, hz0, hz1, hz2⟩ := info_parts en_info
  exact wpList_appN Tryz.underlying64 hi0 hz0 hz1 hz2 rfl (by decide) (by decide) hgd s x ho hown hb (Nat.le_refl _) hb.size hn hsl hcz (fun _ => rfl) oneE hs hx h
theorem app_en {base : Nat} {l : List En} {y : En} {s x : Operand} (hgd : o.guard = none) (ho : o.op = .call { callee := .builtin .append, args := #[s, x], argTypes := #[64, 64] })
    (hs : a.eval s = v) (hx : a.eval x = .slice (some ⟨wr.heap.size, 0, none⟩) 1 1)
    (hown : Own wr base 100 2 encE v l) (hb : Below w0.heap.size w0 wr) (hB : w0.heap.size ≤ base) (hbase : base ≤ wr.heap.size) (hn : l.length ≤ 16777216)
    (h : ∀ v' w', Own w' base 100 2 encE v' (l ++ [y]) → Below w0.heap.size w0 w' → wpList Tryz.prog ops Q rest (a.put o.dst v') w') : wpList Tryz.prog ops Q (o :: rest) a (wr.alloc (.cells #[.string y.1, .int .i64 y.2] 100)) := by
  obtain ⟨i0, hi0, hz0, hz1, hz2⟩ := info_parts en_info
  exact wpList_app1 Tryz.underlying64 hi0 hz0 hz1 hz2 rfl (by decide) (by decide) hgd s x ho hs hx hown hb hB hbase hn y _ rfl rfl (oneE y) h
end
set_option maxHeartbeats 2000000 in
set_option maxRecDepth 100000 in
theorem CloneEn_any (A : Option Addr) (c : Nat) (l : List En) (w : World) (hs : Sl w encE 2 A l) (hcz : A = none → c = 0) (hl : l.length ≤ 16777216) :
    Calls Tryz.prog 125 #[.slice A l.length c] w (OwnRes 100 2 encE l w) := by
  have HS := Lib.hid hs
  have HC := Lib.hid hcz
  clear hs hcz
  have hnil := fun (W : World) (A : Option Addr) (n c : Nat) => Lib.run_eql_slice_nil (P := Tryz.prog) W 64 100 A n c 0 0 Tryz.underlying64
  cases A with
  | none =>
    have hm : l = [] := by
      cases l with
      | nil => rfl
      | cons y r => obtain ⟨b, o, e, _⟩ := HS.out (by simp); cases e
    subst hm
    go_enter Tryz.func125, Tryz.ntmps125
    go_wp2
    go_ret
    exact ⟨_, rfl, Own.nil, Below.refl _ _⟩
  | some ad =>
    go_enter Tryz.func125, Tryz.ntmps125
    go_wp2_with (at_builtin; refine app_enN rfl rfl (Own.made (Nat.le_refl _)) ((Below.refl _ _).alloc (Nat.le_refl _) _) (by simp; omega) (HS.out.alloc _) HC.out (by rfl) (by rfl) ?_; intro v1 w2 hown2 hb2 hg2; have HW2 := Lib.hid hown2; have HB2 := Lib.hid hb2; clear hown2 hb2 hg2)
    go_ret
    exact ⟨_, rfl, by have h := HW2.out; rwa [List.nil_append] at h, HB2.out⟩
end Go.Proofs.YtedcgbmdfmgcgaaGreatDoor

/- '==' and '!=' of structs. -/
set_option linter.unusedVariables false
namespace Go.Proofs.YtedcgbmdfmgcgaaGreatDoor
open Go.RowKit

theorem pc_under : Tryz.prog.underlying 83 = some (.struct (Tryz.prog.fieldsOf 83)) := by kernel_rfl
theorem pc_held : Tryz.prog.stoodInHeld 83 = false := by kernel_rfl
theorem pc_guard : Tryz.prog.eqGuardType Tryz.prog.depth 83 = false := by kernel_rfl
theorem eq_pc (w : World) (a0 b0 : Int) (a1 b1 : ByteArray) : (Op.equalIn 10000 83 (.agg #[.int .i64 a0, .string a1]) (.agg #[.int .i64 b0, .string b1])).run Tryz.prog w = .ok ((a0 == b0) && (a1.toList == b1.toList)) w := by
  rw [run_equalIn_agg w 9999 _ _ _ pc_under pc_held]
  unfold Program.fieldsOf
  simp [Tryz.underlying83, Op.eqFields, go_sem]
  by_cases h0 : a0 = b0 <;> by_cases h1 : a1.toList = b1.toList <;> simp [h0, h1]
theorem vr_under : Tryz.prog.underlying 68 = some (.struct (Tryz.prog.fieldsOf 68)) := by kernel_rfl
theorem vr_held : Tryz.prog.stoodInHeld 68 = false := by kernel_rfl
theorem vr_guard : Tryz.prog.eqGuardType Tryz.prog.depth 68 = false := by kernel_rfl
theorem eq_vr (w : World) (a0 b0 : Int) (a1 b1 : Int) (a2 b2 : ByteArray) : (Op.equalIn 10000 68 (.agg #[.int .i64 a0, .int .i64 a1, .string a2]) (.agg #[.int .i64 b0, .int .i64 b1, .string b2])).run Tryz.prog w = .ok ((a0 == b0) && ((a1 == b1) && (a2.toList == b2.toList))) w := by
  rw [run_equalIn_agg w 9999 _ _ _ vr_under vr_held]
  unfold Program.fieldsOf
  simp [Tryz.underlying68, Op.eqFields, go_sem]
  by_cases h0 : a0 = b0 <;> by_cases h1 : a1 = b1 <;> by_cases h2 : a2.toList = b2.toList <;> simp [h0, h1, h2]
end Go.Proofs.YtedcgbmdfmgcgaaGreatDoor

/- Tags: copies, sizes, comparisons and marks of their slices, as laws make them. Written by structgen.py. -/
set_option linter.unusedVariables false
namespace Go.Proofs.YtedcgbmdfmgcgaaGreatDoor
open Go.RowKit

def markTagL (k n : Nat) : List Tg := (List.range n).map fun j => (mk (markT (k + 4 * j + 0)), ((k + 4 * j + 1 : Nat) : Int), ((k + 4 * j + 2 : Nat) : Int), ((k + 4 * j + 3 : Nat) : Int))
theorem markTagL_len (k n : Nat) : (markTagL k n).length = n := by simp [markTagL]
theorem markTagL_succ (k n : Nat) : markTagL k (n + 1) = markTagL k n ++ [(mk (markT (k + 4 * n + 0)), ((k + 4 * n + 1 : Nat) : Int), ((k + 4 * n + 2 : Nat) : Int), ((k + 4 * n + 3 : Nat) : Int))] := by simp [markTagL, List.range_succ]
theorem markTagL_at {k n j : Nat} (h : j < n) : (markTagL k n)[j]'(by rw [markTagL_len]; exact h) = (mk (markT (k + 4 * j + 0)), ((k + 4 * j + 1 : Nat) : Int), ((k + 4 * j + 2 : Nat) : Int), ((k + 4 * j + 3 : Nat) : Int)) := by simp [markTagL]
/-- What is told of a slice of such structs that came in. -/
def TagsIn (w : World) (A : Option Addr) (n c : Nat) : Prop := ∃ l : List Tg, l.length = n ∧ n ≤ c ∧ c ≤ maxLen ∧ Sl w encT 4 A l ∧ ∀ p ∈ l, p.1.size ≤ maxLen
end Go.Proofs.YtedcgbmdfmgcgaaGreatDoor

/- Versions: copies, sizes, comparisons and marks of their slices, as laws make them. Written by structgen.py. -/
set_option linter.unusedVariables false
namespace Go.Proofs.YtedcgbmdfmgcgaaGreatDoor
open Go.RowKit

theorem encV_info : (Tryz.prog.info? 68).map (fun i => (i.zero, i.size, i.bytes)) = some (some (.agg #[.int .i64 0, .int .i64 0, .string ⟨#[]⟩]), 3, 32) := by kernel_rfl
def markVersionL (k n : Nat) : List Vr := (List.range n).map fun j => (((k + 3 * j + 0 : Nat) : Int), ((k + 3 * j + 1 : Nat) : Int), mk (markT (k + 3 * j + 2)))
theorem markVersionL_len (k n : Nat) : (markVersionL k n).length = n := by simp [markVersionL]
theorem markVersionL_succ (k n : Nat) : markVersionL k (n + 1) = markVersionL k n ++ [(((k + 3 * n + 0 : Nat) : Int), ((k + 3 * n + 1 : Nat) : Int), mk (markT (k + 3 * n + 2)))] := by simp [markVersionL, List.range_succ]
theorem markVersionL_at {k n j : Nat} (h : j < n) : (markVersionL k n)[j]'(by rw [markVersionL_len]; exact h) = (((k + 3 * j + 0 : Nat) : Int), ((k + 3 * j + 1 : Nat) : Int), mk (markT (k + 3 * j + 2))) := by simp [markVersionL]
/-- What is told of a slice of such structs that came in. -/
def VersionsIn (w : World) (A : Option Addr) (n c : Nat) : Prop := ∃ l : List Vr, l.length = n ∧ n ≤ c ∧ c ≤ maxLen ∧ Sl w encV 3 A l ∧ ∀ p ∈ l, p.2.2.size ≤ maxLen
end Go.Proofs.YtedcgbmdfmgcgaaGreatDoor

/- A block of three cells that may be written. -/
set_option linter.unusedVariables false
namespace Go.Proofs.YtedcgbmdfmgcgaaGreatDoor
open Go.RowKit
def Row3 (w : World) (b : Nat) (v0 v1 v2 : Value) : Prop :=
  (w.cell? ⟨b, 0, none⟩ = some v0 ∧ w.cell? ⟨b, 1, none⟩ = some v1 ∧ w.cell? ⟨b, 2, none⟩ = some v2) ∧ (∀ o, w.frozen? ⟨b, o, none⟩ = false) ∧ b < w.heap.size
theorem Row3.new {w : World} {v0 v1 v2 : Value} {E : TypeId} : Row3 (w.alloc (.cells #[v0, v1, v2] E)) w.heap.size v0 v1 v2 :=
  ⟨⟨new_cell rfl, new_cell rfl, new_cell rfl⟩, fun o => new_free o, by simp⟩
theorem Row3.only {w w' : World} {g b : Nat} {v0 v1 v2 : Value} (h : Row3 w b v0 v1 v2) (ho : Only g w w') (hb : b ≠ g) : Row3 w' b v0 v1 v2 :=
  ⟨⟨ho.cell hb h.1.1, ho.cell hb h.1.2.1, ho.cell hb h.1.2.2⟩, fun o => (ho.frozen hb h.2.2).trans (h.2.1 o), Nat.lt_of_lt_of_le h.2.2 ho.size⟩
theorem Row3.below {w w' : World} {b : Nat} {v0 v1 v2 : Value} (h : Row3 w b v0 v1 v2) (hb : Below w.heap.size w w') : Row3 w' b v0 v1 v2 :=
  ⟨⟨Below_cells hb _ _ _ h.1.1, Below_cells hb _ _ _ h.1.2.1, Below_cells hb _ _ _ h.1.2.2⟩, fun o => (World.frozen?_of_block (w := w) (hb.block b h.2.2)).trans (h.2.1 o), Nat.lt_of_lt_of_le h.2.2 hb.size⟩
theorem setCell_size (w : World) (p : Addr) (u : Value) : (w.setCell p u).heap.size = w.heap.size := by simp [World.setCell]
theorem Row3.set0 {w : World} {b : Nat} {v0 v1 v2 : Value} (h : Row3 w b v0 v1 v2) (u : Value) : Row3 (w.setCell ⟨b, 0, none⟩ u) b u v1 v2 :=
  ⟨⟨World.cell?_setCell_same _ _ _ h.1.1, (World.cell?_setCell_other _ _ _ _ (by simp)).trans h.1.2.1, (World.cell?_setCell_other _ _ _ _ (by simp)).trans h.1.2.2⟩, fun o => (World.frozen?_setCell _ _ _ _).trans (h.2.1 o), by rw [setCell_size]; exact h.2.2⟩
theorem Row3.set1 {w : World} {b : Nat} {v0 v1 v2 : Value} (h : Row3 w b v0 v1 v2) (u : Value) : Row3 (w.setCell ⟨b, 1, none⟩ u) b v0 u v2 :=
  ⟨⟨(World.cell?_setCell_other _ _ _ _ (by simp)).trans h.1.1, World.cell?_setCell_same _ _ _ h.1.2.1, (World.cell?_setCell_other _ _ _ _ (by simp)).trans h.1.2.2⟩, fun o => (World.frozen?_setCell _ _ _ _).trans (h.2.1 o), by rw [setCell_size]; exact h.2.2⟩
theorem Row3.set2 {w : World} {b : Nat} {v0 v1 v2 : Value} (h : Row3 w b v0 v1 v2) (u : Value) : Row3 (w.setCell ⟨b, 2, none⟩ u) b v0 v1 u :=
  ⟨⟨(World.cell?_setCell_other _ _ _ _ (by simp)).trans h.1.1, (World.cell?_setCell_other _ _ _ _ (by simp)).trans h.1.2.1, World.cell?_setCell_same _ _ _ h.1.2.2⟩, fun o => (World.frozen?_setCell _ _ _ _).trans (h.2.1 o), by rw [setCell_size]; exact h.2.2⟩
theorem Row3.other {w : World} {b : Nat} {v0 v1 v2 : Value} (h : Row3 w b v0 v1 v2) {p : Addr} (hp : p.block ≠ b) (u : Value) : Row3 (w.setCell p u) b v0 v1 v2 :=
  ⟨⟨(World.cell?_setCell_other _ _ _ _ (by rintro rfl; exact hp rfl)).trans h.1.1, (World.cell?_setCell_other _ _ _ _ (by rintro rfl; exact hp rfl)).trans h.1.2.1, (World.cell?_setCell_other _ _ _ _ (by rintro rfl; exact hp rfl)).trans h.1.2.2⟩, fun o => (World.frozen?_setCell _ _ _ _).trans (h.2.1 o), by rw [setCell_size]; exact h.2.2⟩
theorem Own.setBelow {α : Type} {enc : α → List Value} {w : World} {base size : Nat} {E : TypeId} {v : Value} {l : List α} (h : Own w base E size enc v l) {p : Addr} (hp : p.block < base) (u : Value) : Own (w.setCell p u) base E size enc v l :=
  h.only (g := p.block) ⟨rfl, rfl, rfl, by simp [World.setCell], fun k hk hne => Below.heap_setCell _ _ _ _ (by rintro rfl; exact hne rfl)⟩ hp
theorem Own.ne {α : Type} {w : World} {base size : Nat} {E : TypeId} {enc : α → List Value} {v : Value} {l : List α} (h : Own w base E size enc v l) : v.ownBlock ≠ some w.heap.size := fun e => Nat.lt_irrefl _ (World.ownsRow.lt h _ e).2
end Go.Proofs.YtedcgbmdfmgcgaaGreatDoor

/- What a reader of folders has come to, in plain Lean. No program in sight. -/
set_option linter.unusedVariables false
namespace Go.Proofs.YtedcgbmdfmgcgaaGreatDoor
--BEGIN
/-- 'acc' is read, 'rest' is left: so it is with each folder whose text is s. -/
def FC (s : Bs) (acc : List En) (rest : Bs) : Prop := ∀ l, entsV l = true → foldB l = s → ∃ m, l = acc ++ m ∧ rest = m.flatMap entT
theorem FC.start (s : Bs) : FC s [] (s.drop 1) := fun l _ h => ⟨l, rfl, by rw [← h]; rfl⟩
theorem headC_stop {c : UInt8} {a b : Bs} (h : ∀ x ∈ a, x ≠ c) : headC c (a ++ c :: b) = a := takeWhile_stop (fun x hx => by simpa using h x hx) (by simp)
theorem cutC_stop {c : UInt8} {a b : Bs} (h : ∀ x ∈ a, x ≠ c) : cutC c (a ++ c :: b) = some (a, b) := by
  unfold cutC
  rw [headC_stop h, if_pos (by simp), drop_past]
theorem ent_cut {e : En} (h : entOk e = true) (r : Bs) : cutC 59 (entT e ++ r) = some (tx e.1 ++ 61 :: hexT e.2, r) ∧ cutC 61 (tx e.1 ++ 61 :: hexT e.2) = some (tx e.1, hexT e.2) := by
  have h1 : ∀ x ∈ tx e.1, x ≠ 61 ∧ x ≠ 59 := fun x hx => by
    have := range_ne (word_range (word_chars (entOk_iff.1 h).1 x hx)); exact ⟨this.1, this.2.1⟩
  have h2 : ∀ x ∈ hexT e.2, x ≠ 59 := fun x hx => (range_ne (hex_range (hexT_chars _ x hx))).2.1
  refine ⟨?_, cutC_stop fun x hx => (h1 x hx).1⟩
  have e1 : entT e ++ r = (tx e.1 ++ 61 :: hexT e.2) ++ 59 :: r := by unfold entT; simp
  rw [e1]
  refine cutC_stop fun x hx => ?_
  rcases List.mem_append.1 hx with hx | hx
  · exact (h1 x hx).2
  · rcases List.mem_cons.1 hx with rfl | hx
    · decide
    · exact h2 x hx
theorem FC.head {s : Bs} {acc : List En} {rest : Bs} (h : FC s acc rest) (hne : rest ≠ []) {l : List En} (hv : entsV l = true) (hl : foldB l = s) : ∃ e m, l = acc ++ e :: m ∧ rest = entT e ++ m.flatMap entT ∧ entOk e = true := by
  obtain ⟨m, h1, h2⟩ := h l hv hl
  cases m with
  | nil => exact absurd h2 hne
  | cons e m => exact ⟨e, m, h1, by rw [h2, List.flatMap_cons], entsV_ok hv (by rw [h1]; simp)⟩
theorem FC.fail1 {s : Bs} {acc : List En} {rest : Bs} (h : FC s acc rest) (hne : rest ≠ []) (hc : cutC 59 rest = none) : readF s = none := readF_none fun l hv hl => by
  obtain ⟨e, m, _, h2, h3⟩ := h.head hne hv hl
  rw [h2, (ent_cut h3 _).1] at hc; cases hc
theorem FC.fail2 {s : Bs} {acc : List En} {rest p a : Bs} (h : FC s acc rest) (hne : rest ≠ []) (hc : cutC 59 rest = some (p, a)) (hd : cutC 61 p = none) : readF s = none := readF_none fun l hv hl => by
  obtain ⟨e, m, _, h2, h3⟩ := h.head hne hv hl
  rw [h2, (ent_cut h3 _).1] at hc
  injection hc with hc; injection hc with h4 h5
  rw [← h4, (ent_cut h3 []).2] at hd; cases hd
theorem FC.fail3 {s : Bs} {acc : List En} {rest : Bs} (h : FC s acc rest) (hne : rest ≠ []) (hc : 3 ≤ acc.length) : readF s = none := readF_none fun l hv hl => by
  obtain ⟨e, m, h1, _, _⟩ := h.head hne hv hl
  have := entsV_len hv
  rw [h1, List.length_append, List.length_cons] at this; omega
theorem FC.step {s : Bs} {acc : List En} {rest p a n d : Bs} (h : FC s acc rest) (hne : rest ≠ []) (hc : cutC 59 rest = some (p, a)) (hd : cutC 61 p = some (n, d)) : FC s (acc ++ [(mk n, readH d)]) a := fun l hv hl => by
  obtain ⟨e, m, h1, h2, h3⟩ := h.head hne hv hl
  rw [h2, (ent_cut h3 _).1] at hc
  injection hc with hc; injection hc with h4 h5
  rw [← h4, (ent_cut h3 []).2] at hd
  injection hd with hd; injection hd with h6 h7
  refine ⟨m, ?_, h5.symm⟩
  rw [← h6, ← h7, readH_hexT (entOk_iff.1 h3).2, mk_tx, h1]
  simp
theorem FC.done {s : Bs} {acc : List En} (h : FC s acc []) (hs : s ≠ []) : readF s = if foldT acc = s then some acc else none := by
  split
  · rename_i he
    have hv : entsV acc = true := by
      cases hv : entsV acc
      · unfold foldT at he; rw [hv] at he; exact absurd he.symm hs
      · rfl
    unfold foldT at he
    rw [hv, if_pos rfl] at he
    exact readF_iff.2 ⟨hv, he⟩
  · rename_i he
    refine readF_none fun l hv hl => ?_
    obtain ⟨m, h1, h2⟩ := h l hv hl
    have hm : m = [] := by
      cases m with
      | nil => rfl
      | cons e m => rw [List.flatMap_cons] at h2; exact absurd h2.symm (entT_ne _ _)
    subst hm
    rw [List.append_nil] at h1; subst h1
    apply he
    unfold foldT; rw [hv, if_pos rfl, hl]
theorem FC.sfail {s : Bs} {acc : List En} {rest : Bs} (h : FC s acc rest) (hne : rest ≠ []) (hc : ¬ (headC 61 rest).length + (headC 59 (rest.drop (headC 61 rest).length)).length < rest.length) : readF s = none := readF_none fun l hv hl => by
  obtain ⟨e, m, _, h2, h3⟩ := h.head hne hv hl
  apply hc
  have h1 : ∀ x ∈ tx e.1, x ≠ 61 := fun x hx => (range_ne (word_range (word_chars (entOk_iff.1 h3).1 x hx))).1
  have h5 : ∀ x ∈ 61 :: hexT e.2, x ≠ 59 := fun x hx => by
    rcases List.mem_cons.1 hx with rfl | hx
    · decide
    · exact (range_ne (hex_range (hexT_chars _ x hx))).2.1
  have e1 : rest = tx e.1 ++ 61 :: (hexT e.2 ++ 59 :: m.flatMap entT) := by rw [h2]; unfold entT; simp
  have e2 : headC 61 rest = tx e.1 := by rw [e1]; exact headC_stop h1
  have e3 : rest.drop (tx e.1).length = (61 :: hexT e.2) ++ 59 :: m.flatMap entT := by rw [e1, List.drop_left]; rfl
  rw [e2, e3, headC_stop h5, e1]
  simp
theorem FC.sstep {s : Bs} {acc : List En} {rest : Bs} (h : FC s acc rest) (hne : rest ≠ []) :
    FC s (acc ++ [(mk (rest.take (headC 61 rest).length), readH ((rest.drop ((headC 61 rest).length + 1)).take ((headC 59 (rest.drop (headC 61 rest).length)).length - 1)))]) (rest.drop ((headC 61 rest).length + (headC 59 (rest.drop (headC 61 rest).length)).length + 1)) := fun l hv hl => by
  obtain ⟨e, m, h1', h2, h3⟩ := h.head hne hv hl
  have h1 : ∀ x ∈ tx e.1, x ≠ 61 := fun x hx => (range_ne (word_range (word_chars (entOk_iff.1 h3).1 x hx))).1
  have h5 : ∀ x ∈ 61 :: hexT e.2, x ≠ 59 := fun x hx => by
    rcases List.mem_cons.1 hx with rfl | hx
    · decide
    · exact (range_ne (hex_range (hexT_chars _ x hx))).2.1
  have e1 : rest = tx e.1 ++ 61 :: (hexT e.2 ++ 59 :: m.flatMap entT) := by rw [h2]; unfold entT; simp
  have e2 : headC 61 rest = tx e.1 := by rw [e1]; exact headC_stop h1
  have e3 : rest.drop (tx e.1).length = (61 :: hexT e.2) ++ 59 :: m.flatMap entT := by rw [e1, List.drop_left]; rfl
  have e4 : rest.drop ((tx e.1).length + 1) = hexT e.2 ++ 59 :: m.flatMap entT := by rw [← List.drop_drop, e3]; rfl
  have e5 : rest.drop ((tx e.1).length + (61 :: hexT e.2).length + 1) = m.flatMap entT := by
    rw [Nat.add_assoc, ← List.drop_drop, e3, drop_past]
  refine ⟨m, ?_, ?_⟩
  · rw [e2, e3, headC_stop h5, e4]
    have e6 : rest.take (tx e.1).length = tx e.1 := by rw [e1]; exact List.take_left' rfl
    rw [e6, List.length_cons, Nat.add_sub_cancel, List.take_left' rfl, readH_hexT (entOk_iff.1 h3).2, mk_tx, h1']
    simp
  · rw [e2, e3, headC_stop h5, e5]
--END
end Go.Proofs.YtedcgbmdfmgcgaaGreatDoor

/- Rows of structs: one element written anew; repaired pieces, walked. -/
set_option linter.unusedVariables false
namespace Go.Proofs.YtedcgbmdfmgcgaaGreatDoor
open Go.RowKit

theorem setAll_cells {g : Nat} {E : TypeId} {m : Nat × Nat} : ∀ (us : List Value) (w : World) (j : Nat) (cs : Array Value), w.heap[g]? = some (.cells cs E (0, 0)) →
    ∃ cs' : Array Value, (setAll w g j us).heap[g]? = some (.cells cs' E (0, 0)) ∧ cs'.size = cs.size ∧ ∀ p, cs'[p]? = if j ≤ p ∧ p < j + us.length ∧ p < cs.size then us[p - j]? else cs[p]?
  | [], w, j, cs, h => ⟨cs, h, rfl, fun p => by rw [if_neg]; simp; omega⟩
  | u :: r, w, j, cs, h => by
    obtain ⟨cs', h1, h2, h3⟩ := setAll_cells (m := m) r (w.setCell ⟨g, j, none⟩ u) (j + 1) (cs.setIfInBounds j u) (heap_setCell_same w g j cs E u h)
    refine ⟨cs', h1, by rw [h2]; simp, fun p => ?_⟩
    rw [h3 p]
    simp only [Array.size_setIfInBounds, List.length_cons]
    by_cases hp : p = j
    · subst hp
      rw [if_neg (by omega)]
      by_cases hs : p < cs.size
      · rw [if_pos (by omega)]; simp [hs]
      · rw [if_neg (by omega), Array.getElem?_eq_none (by simp; omega), Array.getElem?_eq_none (by omega)]
    · rw [Array.getElem?_setIfInBounds_ne (by omega)]
      by_cases hh : j + 1 ≤ p ∧ p < j + 1 + r.length ∧ p < cs.size
      · rw [if_pos hh, if_pos (by omega)]
        have e : p - j = p - (j + 1) + 1 := by omega
        rw [e, List.getElem?_cons_succ]
      · rw [if_neg hh, if_neg (by omega)]
/-- Element i of an owned row written anew. -/
theorem Own.setEl {α : Type} {enc : α → List Value} {w : World} {base size : Nat} {E : TypeId} {g n cap : Nat} {l : List α} (h : Own w base E size enc (.slice (some ⟨g, 0, none⟩) n cap) l) (he : ∀ x, (enc x).length = size) (hsz : 0 < size) {i : Nat} (hi : i < l.length) (x : α) :
    Own (setAll w g (i * size) (enc x)) base E size enc (.slice (some ⟨g, 0, none⟩) n cap) (l.set i x) := by
  rcases h.2 with ⟨hv, hn⟩ | ⟨g', cap', cur, hv, hg, hh, hnc, hcm, hs, ht⟩
  · injection hv with e; cases e
  · injection hv with e1 e2 e3
    injection e1 with e1; injection e1 with e1
    subst e1 e2 e3
    obtain ⟨cs', h1, h2, h3⟩ := setAll_cells (m := (0, 0)) (enc x) w (i * size) cur hh
    refine ⟨flat_length he _, .inr ⟨g, cap, cs', by rw [List.length_set], hg, h1, by rw [List.length_set]; exact hnc, hcm, by rw [h2]; exact hs, ?_⟩⟩
    have hlen : (flat enc (l.set i x)).length = l.length * size := by rw [flat_length he, List.length_set]
    have hls : l.length * size ≤ cur.size := by rw [hs]; exact Nat.mul_le_mul_right _ hnc
    have hi2 : i * size + size ≤ l.length * size := by
      have := Nat.mul_le_mul_right size (show i + 1 ≤ l.length from hi)
      rwa [Nat.succ_mul] at this
    have h0 : (flat enc l).length = l.length * size := flat_length he l
    rw [List.length_set]
    apply List.ext_getElem?
    intro p
    by_cases hp : p < l.length * size
    · rw [List.getElem?_take_of_lt hp, Array.getElem?_toList, h3 p, he]
      have hq : p / size < l.length := Nat.div_lt_of_lt_mul (by rwa [Nat.mul_comm] at hp)
      have hdm : p / size * size + p % size = p := by rw [Nat.mul_comm]; exact Nat.div_add_mod p size
      have hms := Nat.mod_lt p hsz
      have hg2 := flat_get he (l.set i x) (p / size) (by rw [List.length_set]; exact hq) (p % size) hms
      rw [hdm] at hg2
      rw [hg2, List.getElem_set]
      by_cases hqi : i = p / size
      · subst hqi
        rw [if_pos rfl, if_pos (by omega)]
        congr 1; omega
      · rw [if_neg hqi, if_neg]
        · have hg3 := flat_get he l (p / size) hq (p % size) hms
          rw [hdm] at hg3
          rw [← hg3]
          have this : (cur.toList.take (l.length * size))[p]? = (flat enc l)[p]? := by rw [ht]
          rw [List.getElem?_take_of_lt hp, Array.getElem?_toList] at this
          exact this
        · intro hh
          apply hqi
          have a1 : i ≤ p / size := (Nat.le_div_iff_mul_le hsz).2 hh.1
          have a2 : p / size < i + 1 := Nat.div_lt_of_lt_mul (by rw [Nat.mul_comm, Nat.succ_mul]; exact hh.2.1)
          omega
    · rw [List.getElem?_eq_none (by simp; omega), List.getElem?_eq_none (by omega)]
theorem Own.free' {α : Type} {enc : α → List Value} {w : World} {base size : Nat} {E : TypeId} {g n cap : Nat} {l : List α} (h : Own w base E size enc (.slice (some ⟨g, 0, none⟩) n cap) l) (j : Nat) : w.frozen? ⟨g, j, none⟩ = false := by
  rcases h.2 with ⟨hv, hn⟩ | ⟨g', cap', cur, hv, hg, hh, hnc, hcm, hs, ht⟩
  · injection hv with e; cases e
  · injection hv with e1
    injection e1 with e1; injection e1 with e1
    subst e1
    exact frozen_of_row w g j cur E hh
/-- An owned row that is not empty: its head. -/
theorem Own.head {α : Type} {enc : α → List Value} {w : World} {base size : Nat} {E : TypeId} {A : Option Addr} {n c : Nat} {l : List α} (h : Own w base E size enc (.slice A n c) l) (hl : 0 < l.length) : ∃ g, A = some ⟨g, 0, none⟩ ∧ base ≤ g ∧ g < w.heap.size := by
  obtain ⟨A', c', e, _, _, hb⟩ := h.sl
  injection e with e1
  rcases hb with ⟨hz, _⟩ | ⟨g, hg, h1, h2⟩
  · subst hz; simp at hl
  · exact ⟨g, e1.trans hg, h1, h2⟩
theorem Own.apartW {α : Type} {enc : α → List Value} {w w' : World} {g base size : Nat} {E : TypeId} {v : Value} {l : List α} (h : Own w base E size enc v l) (ho : Only g w w') (hb : ∀ q, v.ownBlock = some q → q ≠ g) : Own w' base E size enc v l := by
  refine World.ownsRow.kept h (row := some g) ho ?_
  cases hv : v.ownBlock with
  | none => exact .inl rfl
  | some k => right; intro e; injection e with e; exact hb k hv e

/-! ### plain -/
theorem find_take {α : Type} (f : α → Bool) (l : List α) (j : Nat) (h : j < l.length) : (l.take (j + 1)).find? f = ((l.take j).find? f).or (if f l[j] then some l[j] else none) := by
  rw [List.take_succ_eq_append_getElem h, List.find?_append]
  congr 1
  cases h2 : f l[j] <;> simp [h2]
theorem goodCopy_take {p : Int} {copies : List Pc} {j : Nat} (h : j < copies.length) : goodCopy p (copies.take (j + 1)) = (goodCopy p (copies.take j)).or (if copies[j].1 == p && pieceR copies[j] then some copies[j] else none) :=
  find_take _ copies j h
theorem goodCopy_prefix {p : Int} {copies : List Pc} {j : Nat} {q : Pc} (h : goodCopy p (copies.take j) = some q) : goodCopy p copies = some q := by
  unfold goodCopy at *
  have e : copies = copies.take j ++ copies.drop j := (List.take_append_drop _ _).symm
  rw [e, List.find?_append, h]; rfl
theorem repair1_none {copies : List Pc} {p : Pc} (h : pieceR p = false) (hg : goodCopy p.1 copies = none) : repair1 copies p = (p, 0) := by unfold repair1; rw [if_neg (by simp [h]), hg]
theorem repair1_some {copies : List Pc} {p q : Pc} (h : pieceR p = false) (hg : goodCopy p.1 copies = some q) : repair1 copies p = (q, 1) := by unfold repair1; rw [if_neg (by simp [h]), hg]
theorem repairs_len (copies l : List Pc) : (repairs copies l).length = l.length := by simp [repairs]
theorem repairs_take {copies l : List Pc} {k : Nat} (h : k < l.length) : repairs copies (l.take (k + 1)) = repairs copies (l.take k) ++ [(repair1 copies l[k]).1] := by
  unfold repairs; rw [List.take_succ_eq_append_getElem h, List.map_append]; rfl
/-- The row while it is repaired: the first k are, the rest is not. -/
def halfRep (copies l : List Pc) (k : Nat) : List Pc := repairs copies (l.take k) ++ l.drop k
theorem halfRep_len (copies l : List Pc) (k : Nat) : (halfRep copies l k).length = l.length := by unfold halfRep; rw [List.length_append, repairs_len, List.length_take, List.length_drop]; omega
theorem halfRep_at {copies l : List Pc} {k : Nat} (h : k < l.length) : (halfRep copies l k)[k]'(by rw [halfRep_len]; exact h) = l[k] := by
  have hl : (repairs copies (l.take k)).length = k := by rw [repairs_len, List.length_take]; omega
  unfold halfRep
  rw [List.getElem_append_right (by omega), List.getElem_drop]
  congr 1; omega
theorem halfRep_succ {copies l : List Pc} {k : Nat} (h : k < l.length) : halfRep copies l (k + 1) = (halfRep copies l k).set k (repair1 copies l[k]).1 := by
  have hl : (repairs copies (l.take k)).length = k := by rw [repairs_len, List.length_take]; omega
  unfold halfRep
  rw [repairs_take h, List.set_append_right _ _ (by omega), hl, Nat.sub_self]
  have e : l.drop k = l[k] :: l.drop (k + 1) := List.drop_eq_getElem_cons h
  rw [e, List.set_cons_zero, List.append_assoc]; rfl
theorem halfRep_same {copies l : List Pc} {k : Nat} (h : k < l.length) (hr : (repair1 copies l[k]).1 = l[k]) : halfRep copies l (k + 1) = halfRep copies l k := by
  rw [halfRep_succ h, hr]
  apply List.ext_getElem (by simp)
  intro q h1 h2
  rw [List.getElem_set]
  split
  · rename_i e; subst e; exact (halfRep_at h).symm
  · rfl
theorem halfRep_done {copies l : List Pc} {k : Nat} (h : ¬ k < l.length) : halfRep copies l k = repairs copies l := by
  unfold halfRep; rw [List.take_of_length_le (by omega), List.drop_of_length_le (by omega), List.append_nil]
def RepR (l copies : List Pc) (w : World) (e : Ending) (w' : World) : Prop :=
  ∃ v, e = .returned (.tuple #[v, .int .i64 (many copies l)]) ∧ Own w' w.heap.size 83 2 encP v (repairs copies l) ∧ Below w.heap.size w w'

end Go.Proofs.YtedcgbmdfmgcgaaGreatDoor

/- Lines of archives: what stays, what is read back. Plain Lean, no program in sight. -/
set_option linter.unusedVariables false
namespace Go.Proofs.YtedcgbmdfmgcgaaGreatDoor
theorem archV_iff {a : Ar} : archV a = true ↔ storeV a.ps = true ∧ versV a.vs = true ∧ (folderOf a.ps a.op).isSome = true ∧ ∀ v ∈ a.vs, (folderOf a.ps v.1).isSome = true := by
  unfold archV
  simp only [Bool.and_eq_true, List.all_eq_true]
theorem archV_chg {a : Ar} {s : List Pc} {r : Int} (ha : archV a = true) (h : Chg a.ps s r) : archV ⟨s, r, a.vs⟩ = true := by
  obtain ⟨h1, h2, h3, h4⟩ := archV_iff.1 ha
  refine archV_iff.2 ⟨h.valid, h2, h.root, fun v hv => ?_⟩
  obtain ⟨l, hl⟩ := Option.isSome_iff_exists.1 (h4 v hv)
  rw [h.keep.fold hl]; rfl
theorem addV_ok {l l' : List Vr} {v : Vr} (h : addV l v = (l', true)) : l' = l ++ [v] ∧ versV (l ++ [v]) = true := by
  unfold addV at h
  split at h
  · split at h
    · rename_i h2
      injection h with h3 h4
      exact ⟨h3.symm, h2⟩
    · simp at h
  · simp at h
theorem addV_no {l : List Vr} {v : Vr} (hv : versV l = true) (h : (addV l v).2 = false) : addV l v = (l, false) := by
  unfold addV at h ⊢
  rw [hv, if_pos rfl] at h ⊢
  split at h
  · cases h
  · rename_i h2; rw [if_neg h2]
/-- What a line leaves. -/
structure LineOk (a x : Ar) (ans : Bs) : Prop where
  valid : archV x = true
  keep : Keep a.ps x.ps
  vers : ∃ r, x.vs = a.vs ++ r
  same : ans = wOk ∨ x = a
  some : ans ≠ []
theorem LineOk.same_no {a : Ar} {ans : Bs} (ha : archV a = true) (h : ans ≠ []) : LineOk a a ans := ⟨ha, Keep.refl _, ⟨[], by simp⟩, .inr rfl, h⟩
theorem wOk_ne : wOk ≠ [] := by decide
theorem wNo_ne : wNo ≠ [] := by decide
/-! ### paths of files -/
theorem filesP_mem {s : List Pc} : ∀ (f : Nat) (p : Int) (ps : List Bs), (∀ q ∈ ps, wordV q = true) → ps.length + f ≤ 3 → ∀ x ∈ filesP s f p ps,
    ∃ qs q, qs ≠ [] ∧ partsV (ps ++ qs) = true ∧ x = joinP (ps ++ qs) ∧ walkP s p qs = some q ∧ (fileOf s q).isSome = true
  | 0, _, _, _, _, x, hx => by cases hx
  | f + 1, p, ps, hw, hl, x, hx => by
    rw [filesP_succ] at hx
    obtain ⟨e, he, hx⟩ := List.mem_flatMap.1 hx
    cases hf : folderOf s p with
    | none => rw [hf] at he; cases he
    | some l =>
      rw [hf, Option.getD_some] at he
      have hv := folder_valid hf
      have hg : getE l (tx e.1) = some e.2 := getE_mem (entsV_sorted hv) (show (mk (tx e.1), e.2) ∈ l by rw [mk_tx]; exact he)
      have hwe := (entOk_iff.1 (entsV_ok hv he)).1
      have hw2 : ∀ q ∈ ps ++ [tx e.1], wordV q = true := fun q hq => by
        rw [List.mem_append, List.mem_singleton] at hq
        rcases hq with hq | rfl
        · exact hw q hq
        · exact hwe
      unfold stepF at hx
      split at hx
      · rename_i hfi
        rw [List.mem_singleton] at hx
        refine ⟨[tx e.1], e.2, by simp, partsV_iff.2 ⟨by simp; omega, hw2⟩, hx, ?_, hfi⟩
        rw [walkP, hf, Option.bind_some, hg, Option.bind_some, walkP, if_pos (file_there hfi)]
      · obtain ⟨qs, q, h1, h2, h3, h4, h5⟩ := filesP_mem f e.2 (ps ++ [tx e.1]) hw2 (by simp; omega) x hx
        rw [List.append_assoc] at h2 h3
        refine ⟨tx e.1 :: qs, q, by simp, h2, h3, ?_, h5⟩
        rw [walkP, hf, Option.bind_some, hg, Option.bind_some]; exact h4
theorem allF_mem {s : List Pc} {root : Int} {x : Bs} (hx : x ∈ allF s root) : storeV s = true ∧ ∃ qs q, qs ≠ [] ∧ partsV qs = true ∧ x = joinP qs ∧ walkP s root qs = some q ∧ (fileOf s q).isSome = true := by
  unfold allF at hx
  split at hx
  · rename_i hs
    obtain ⟨qs, q, h1, h2, h3, h4, h5⟩ := filesP_mem 3 root [] (by simp) (by simp) x hx
    exact ⟨hs, qs, q, h1, by simpa using h2, by simpa using h3, h4, h5⟩
  · cases hx
theorem joinP_ne (ps : List Bs) (h : partsV ps = true) : joinP ps ≠ [] := by
  unfold joinP
  rw [if_pos h]
  cases ps with
  | nil => simp
  | cons p r => simp [joinB]
theorem allF_ne {s : List Pc} {root : Int} {x : Bs} (hx : x ∈ allF s root) : x ≠ [] := by
  obtain ⟨_, qs, q, _, h2, rfl, _⟩ := allF_mem hx
  exact joinP_ne qs h2
theorem allF_path {s : List Pc} {root : Int} {x : Bs} (hx : x ∈ allF s root) : (pathP x).isSome = true := by
  obtain ⟨_, qs, q, _, h2, rfl, _⟩ := allF_mem hx
  rw [pathP_of h2]; rfl
theorem joinW_ne {c : Bs} {l : List Bs} (h : l ≠ []) (hl : ∀ x ∈ l, x ≠ []) : joinW c l ≠ [] := by
  cases l with
  | nil => exact absurd rfl h
  | cons p r =>
    have hp := hl p (by simp)
    cases r with
    | nil => exact hp
    | cons q r =>
      show p ++ c ++ joinW c (q :: r) ≠ []
      cases p with
      | nil => exact absurd rfl hp
      | cons => simp
theorem filesAns_ne (a : Ar) : filesAns a ≠ [] := by
  unfold filesAns
  split
  · simp
  · rename_i h; exact joinW_ne h fun x hx => allF_ne hx
/-! ### a line -/
theorem lineA_ok {a : Ar} (ha : archV a = true) (ws : List Bs) : LineOk a (lineA a ws).1 (lineA a ws).2 := by
  have hno := LineOk.same_no ha wNo_ne
  have hstay : ∀ {s r}, Chg a.ps s r → LineOk a ⟨s, r, a.vs⟩ wOk := fun h => ⟨archV_chg ha h, h.keep, ⟨[], by simp⟩, .inl rfl, wOk_ne⟩
  obtain ⟨h1, h2, h3, h4⟩ := archV_iff.1 ha
  unfold lineA
  split
  · rename_i x p c
    split
    · split
      · rename_i s r hw; exact hstay (write_chg hw)
      · exact hno
    · exact hno
  · rename_i x p
    split
    · split
      · rename_i s r hw; exact hstay (drop_chg hw)
      · exact hno
    split
    · split
      · rename_i v hv
        obtain ⟨rfl, hv2⟩ := addV_ok hv
        refine ⟨archV_iff.2 ⟨h1, hv2, h3, fun v hv => ?_⟩, Keep.refl _, ⟨_, rfl⟩, .inl rfl, wOk_ne⟩
        rcases List.mem_append.1 hv with hv | hv
        · exact h4 v hv
        · rw [List.mem_singleton] at hv; subst hv; exact h3
      · exact hno
    split
    · split
      · rename_i hb
        have hk : (readH p).toNat < a.vs.length := by omega
        have e : a.vs.getD (readH p).toNat (0, 0, ⟨#[]⟩) = a.vs[(readH p).toNat] := by rw [List.getD_eq_getElem?_getD, List.getElem?_eq_getElem hk]; rfl
        refine ⟨archV_iff.2 ⟨h1, h2, ?_, h4⟩, Keep.refl _, ⟨[], by simp⟩, .inl rfl, wOk_ne⟩
        show (folderOf a.ps (a.vs.getD (readH p).toNat (0, 0, ⟨#[]⟩)).1).isSome = true
        rw [e]; exact h4 _ (List.getElem_mem hk)
      · exact hno
    split
    · split
      · exact LineOk.same_no ha (by simp)
      · exact hno
    · exact hno
  · rename_i x
    split
    · exact LineOk.same_no ha (filesAns_ne a)
    · exact hno
  · exact hno
theorem archL_ok {a : Ar} (ha : archV a = true) (line : Bs) : LineOk a (archL a line).1 (archL a line).2 := by
  unfold archL
  rw [if_pos ha]; exact lineA_ok ha _
theorem archL_bad {a : Ar} (ha : archV a = false) (line : Bs) : archL a line = (⟨[], 0, []⟩, []) := by
  unfold archL; rw [ha]; rfl
theorem all_true {α : Type} (l : List α) : ∀ x ∈ l, True := fun _ _ => trivial
theorem lineA_good {N : Bs → Prop} {a : Ar} (hN : ∀ n, N n) (hg : Good N a.ps) (ws : List Bs) : Good N (lineA a ws).1.ps := by
  unfold lineA
  split
  · split
    · split
      · rename_i s r hw; exact write_good hw hg fun _ _ n _ => hN n
      · exact hg
    · exact hg
  · split
    · split
      · rename_i s r hw; exact drop_good hw hg fun _ _ n _ => hN n
      · exact hg
    split
    · split <;> exact hg
    split
    · split <;> exact hg
    split
    · split <;> exact hg
    · exact hg
  · split <;> exact hg
  · exact hg
theorem archL_good {N : Bs → Prop} {a : Ar} (hN : ∀ n, N n) (hg : Good N a.ps) (line : Bs) : Good N (archL a line).1.ps := by
  unfold archL
  split
  · exact lineA_good hN hg _
  · exact good_nil N
/-! ### written words are read -/
theorem readBack {s s' : List Pc} {root r' : Int} {path c n : Bs} (hp : pathP path = some [n]) (h : writeA s root path c = (s', r', true)) : readAt s' r' path = some c := by
  have hch := write_chg h
  obtain ⟨hs, hc, m, r, fs, x, hpp, hf, hx, hput, rfl⟩ := writeA_ok h
  rw [hp] at hpp
  injection hpp with hpp
  injection hpp with e1 e2
  subst e1 e2
  obtain ⟨l, fs', hl, hf2, rfl, _⟩ := foldsW_top hf
  rw [foldsW] at hf2
  injection hf2 with hf2
  subst hf2
  obtain ⟨y, hy, hpe, rfl⟩ := upT_top hx
  have hy : some (([] : List ByteArray), prOf (fileT c)) = some y := hy
  injection hy with hy
  subst hy
  obtain ⟨g1, g2, g3⟩ := putE_ok hpe
  have hfo := folder_put hs hput (l := (putE l (mk n, prOf (fileT c))).1) (by simp) g2
  have hfi := file_put hs hput (c := c) (by simp) hc
  have hge : getE (putE l (mk n, prOf (fileT c))).1 n = some (prOf (fileT c)) := by
    refine getE_mem (entsV_sorted g2) ?_
    rw [g3]
    exact (mem_insE (entsV_sorted g1) _ _).2 (.inl rfl)
  unfold readAt walkTo
  rw [if_pos hch.valid, hp, Option.bind_some, walkP, hfo, Option.bind_some, hge, Option.bind_some, walkP, if_pos (file_there (by rw [hfi]; rfl)), Option.bind_some, hfi]
def pathQ : Bs := [47, 113]
def lineWrite : Bs := [119, 114, 105, 116, 101, 32, 47, 113, 32, 119, 111, 114, 100]
def lineRead : Bs := [114, 101, 97, 100, 32, 47, 113]
def wWord : Bs := [119, 111, 114, 100]
theorem readBackL {a : Ar} (h : (archL a lineWrite).2 = wOk) : archL (archL a lineWrite).1 lineRead = ((archL a lineWrite).1, 61 :: wWord) := by
  cases ha : archV a
  · rw [archL_bad ha] at h; cases h
  have hok := archL_ok ha lineWrite
  have e1 : splitS 32 lineWrite = [wWrite, pathQ, wWord] := by decide
  have e2 : splitS 32 lineRead = [wRead, pathQ] := by decide
  have hl : archL a lineWrite = lineA a [wWrite, pathQ, wWord] := by unfold archL; rw [if_pos ha, e1]
  rw [hl] at h hok ⊢
  have hx : ∀ x : Ar, archV x = true → archL x lineRead = lineA x [wRead, pathQ] := fun x hx => by unfold archL; rw [if_pos hx, e2]
  rw [hx _ hok.valid]
  have hw : lineA a [wWrite, pathQ, wWord] = match writeA a.ps a.op pathQ wWord with | (s, r, true) => (⟨s, r, a.vs⟩, wOk) | _ => (a, wNo) := by
    rfl
  rw [hw] at h ⊢
  split at h
  · rename_i s r hwa
    have hr : readAt s r pathQ = some wWord := readBack (n := [113]) (by decide) hwa
    show lineA ⟨s, r, a.vs⟩ [wRead, pathQ] = (⟨s, r, a.vs⟩, 61 :: wWord)
    have e : lineA ⟨s, r, a.vs⟩ [wRead, pathQ] = match readAt s r pathQ with | some t => ((⟨s, r, a.vs⟩ : Ar), 61 :: t) | none => (⟨s, r, a.vs⟩, wNo) := rfl
    rw [e, hr]
  · exact absurd (show wNo = wOk from h) (by decide)
/-! ### kept versions can be opened again -/
theorem flatMap_congr' {α β : Type} {f g : α → List β} : ∀ {l : List α}, (∀ x ∈ l, f x = g x) → l.flatMap f = l.flatMap g
  | [], _ => rfl
  | x :: r, h => by rw [List.flatMap_cons, List.flatMap_cons, h x (by simp), flatMap_congr' fun y hy => h y (by simp [hy])]
theorem filesP_keep {N : Bs → Prop} {s s' : List Pc} (hg : Good N s) (hk : Keep s s') : ∀ (f : Nat) (p : Int) (ps : List Bs), (getT s p).isSome = true → filesP s' f p ps = filesP s f p ps
  | 0, _, _, _ => rfl
  | f + 1, p, ps, h => by
    rw [filesP_succ, filesP_succ, hk.fo h]
    cases hf : folderOf s p with
    | none => rfl
    | some l =>
      rw [Option.getD_some]
      refine flatMap_congr' fun e he => ?_
      have h2 := (hg p l hf e he).1
      unfold stepF
      rw [hk.fi h2, filesP_keep hg hk f e.2 _ h2]
theorem allF_keep {N : Bs → Prop} {s s' : List Pc} (hg : Good N s) (hk : Keep s s') (hs : storeV s = true) (hs' : storeV s' = true) {p : Int} (h : (getT s p).isSome = true) : allF s' p = allF s p := by
  unfold allF
  rw [if_pos hs, if_pos hs', filesP_keep hg hk 3 p [] h]
def lineKeep : Bs := [107, 101, 101, 112, 32, 104, 101, 114, 101]
def wHere : Bs := [104, 101, 114, 101]
def backTo (n : Int) : Bs := [98, 97, 99, 107, 32] ++ hexT n
theorem backTo_split : ∀ n : Nat, n < 12 → splitS 32 (backTo n) = [wBack, hexT n] := by decide
theorem versionsStay {N : Bs → Prop} {a : Ar} (hg : archV a = true → Good N a.ps) (h : (archL a lineKeep).2 = wOk) (line : Bs) :
    (archL (archL (archL a lineKeep).1 line).1 (backTo (((archL a lineKeep).1.vs.length : Int) - 1))).2 = wOk ∧
    (archL (archL (archL a lineKeep).1 line).1 (backTo (((archL a lineKeep).1.vs.length : Int) - 1))).1.op = a.op ∧
    allF (archL (archL (archL a lineKeep).1 line).1 (backTo (((archL a lineKeep).1.vs.length : Int) - 1))).1.ps a.op = allF a.ps a.op := by
  cases ha : archV a
  · rw [archL_bad ha] at h; cases h
  have hok := archL_ok ha lineKeep
  have e1 : splitS 32 lineKeep = [wKeep, wHere] := by decide
  have hl : archL a lineKeep = lineA a [wKeep, wHere] := by unfold archL; rw [if_pos ha, e1]
  have hw : lineA a [wKeep, wHere] = match addV a.vs (a.op, (a.vs.length : Int) - 1, mk wHere) with | (v, true) => (⟨a.ps, a.op, v⟩, wOk) | _ => (a, wNo) := by
    rfl
  rw [hl, hw] at h
  split at h
  · rename_i v hv
    obtain ⟨rfl, hv2⟩ := addV_ok hv
    have hx : archL a lineKeep = (⟨a.ps, a.op, a.vs ++ [(a.op, (a.vs.length : Int) - 1, mk wHere)]⟩, wOk) := by rw [hl, hw, hv]
    rw [hx] at hok ⊢
    have hy := archL_ok hok.valid line
    simp only at hy ⊢
    generalize archL ⟨a.ps, a.op, a.vs ++ [(a.op, (a.vs.length : Int) - 1, mk wHere)]⟩ line = Y at *
    obtain ⟨y, t⟩ := Y
    simp only at hy ⊢
    have hl12 := versV_len hv2
    rw [List.length_append, List.length_singleton] at hl12 ⊢
    have e0 : (((a.vs.length + 1 : Nat) : Int) - 1) = (a.vs.length : Int) := by omega
    rw [e0]
    have e3 : archL y (backTo (a.vs.length : Int)) = lineA y [wBack, hexT (a.vs.length : Int)] := by unfold archL; rw [if_pos hy.valid, backTo_split _ (by omega)]
    have hpv : pv (a.vs.length : Int) = true := by unfold pv inI; rw [decide_eq_true_eq]; omega
    obtain ⟨r, hr⟩ := hy.vers
    have hlen : a.vs.length < y.vs.length := by rw [hr, List.length_append, List.length_append, List.length_singleton]; omega
    have hget : y.vs.getD a.vs.length (0, 0, ⟨#[]⟩) = (a.op, (a.vs.length : Int) - 1, mk wHere) := by
      rw [hr, List.getD_eq_getElem?_getD]; simp
    have e4 : lineA y [wBack, hexT (a.vs.length : Int)] = (⟨y.ps, a.op, y.vs⟩, wOk) := by
      have e : lineA y [wBack, hexT (a.vs.length : Int)] = if 0 ≤ readH (hexT (a.vs.length : Int)) ∧ readH (hexT (a.vs.length : Int)) < y.vs.length then ((⟨y.ps, (y.vs.getD (readH (hexT (a.vs.length : Int))).toNat (0, 0, ⟨#[]⟩)).1, y.vs⟩ : Ar), wOk) else (y, wNo) := rfl
      rw [e, readH_hexT hpv, if_pos (by omega), Int.toNat_natCast, hget]
    rw [e3, e4]
    refine ⟨rfl, rfl, ?_⟩
    obtain ⟨h1, _, h3, _⟩ := archV_iff.1 ha
    obtain ⟨l, hl⟩ := Option.isSome_iff_exists.1 h3
    exact allF_keep (hg ha) hy.keep h1 (archV_iff.1 hy.valid).1 (folder_there hl)
  · exact absurd (show wNo = wOk from h) (by decide)
/-! ### lines follow each other -/
theorem archLs_append : ∀ (l m : List Bs) (a : Ar), archLs a (l ++ m) = ((archLs (archLs a l).1 m).1, (archLs a l).2 ++ (archLs (archLs a l).1 m).2)
  | [], m, a => rfl
  | x :: r, m, a => by
    rw [List.cons_append, archLs, archLs_append r m, archLs]; rfl
theorem archLs_valid : ∀ (l : List Bs) (a : Ar), archV a = true → archV (archLs a l).1 = true
  | [], a, h => h
  | x :: r, a, h => by rw [archLs]; exact archLs_valid r _ (archL_ok h x).valid
theorem archM_parts {a : Ar} {ls : List Bs} (ha : archV a = true) (hl : ls.length ≤ 12) (h : Nat) :
    (archM (archM a (ls.take h)).1 (ls.drop h)).1 = (archM a ls).1 ∧ (archM a (ls.take h)).2 ++ (archM (archM a (ls.take h)).1 (ls.drop h)).2 = (archM a ls).2 := by
  have e : ∀ (b : Ar) (m : List Bs), archV b = true → m.length ≤ 12 → archM b m = archLs b m := fun b m hb hm => by unfold archM; rw [hb, decide_eq_true hm]; rfl
  rw [e a ls ha hl, e a _ ha (by rw [List.length_take]; omega), e _ _ (archLs_valid _ _ ha) (by rw [List.length_drop]; omega)]
  have := archLs_append (ls.take h) (ls.drop h) a
  rw [List.take_append_drop] at this
  rw [this]
  exact ⟨rfl, rfl⟩
theorem archM_bad {a : Ar} {ls : List Bs} (h : archV a = false ∨ ¬ ls.length ≤ 12) : archM a ls = (⟨[], 0, []⟩, []) := by
  unfold archM
  rcases h with h | h
  · rw [h]; rfl
  · rw [decide_eq_false h]; simp
/-! ### new archives, open roots -/
theorem archV_nopieces (op : Int) (vs : List Vr) : archV ⟨[], op, vs⟩ = false := by
  cases h : archV ⟨[], op, vs⟩
  · rfl
  · have := (archV_iff.1 h).2.2.1
    cases this
theorem archV_novers {a : Ar} (h : archV a = true) : archV ⟨a.ps, a.op, []⟩ = true := by
  obtain ⟨h1, h2, h3, h4⟩ := archV_iff.1 h
  exact archV_iff.2 ⟨h1, rfl, h3, by simp⟩
theorem newA_ok {s : List Pc} (h : (newA s).2 = true) : archV (newA s).1 = true ∧ (newA s).1.vs = [] ∧ allF (newA s).1.ps (newA s).1.op = [] := by
  unfold newA at *
  split at h
  · rename_i hp
    rw [if_pos hp]
    obtain ⟨h1, h2, h3⟩ := putT_ok hp
    have hpa : putAll s [mk (foldT [])] = some (putT s (mk (foldT []))).1 := by rw [putAll_one, if_pos hp]
    have hfo := folder_put h1 hpa (l := []) (by simp) entsV_nil
    have hop : (putT s (mk (foldT []))).2.1 = prOf (foldT []) := h3
    refine ⟨archV_iff.2 ⟨h2.valid, rfl, ?_, by simp⟩, rfl, ?_⟩
    · show (folderOf (putT s (mk (foldT []))).1 (putT s (mk (foldT []))).2.1).isSome = true
      rw [hop, hfo]; rfl
    · show allF (putT s (mk (foldT []))).1 (putT s (mk (foldT []))).2.1 = []
      unfold allF
      rw [if_pos h2.valid, hop, filesP_succ, hfo]; rfl
  · cases h
theorem newA_good {N : Bs → Prop} {s : List Pc} (hg : Good N s) : Good N (newA s).1.ps := by
  unfold newA
  split
  · rename_i hp
    have hpa : putAll s [mk (foldT [])] = some (putT s (mk (foldT []))).1 := by rw [putAll_one, if_pos hp]
    refine good_put (putT_ok hp).1 hg hpa fun t ht l hr e he => ?_
    rw [List.mem_singleton] at ht
    subst ht
    rw [tx_mk, readF_foldT entsV_nil] at hr
    injection hr with hr
    subst hr; cases he
  · exact good_nil N
end Go.Proofs.YtedcgbmdfmgcgaaGreatDoor

/- Sizes of files, files with a word, quotas that are passed: their laws. Plain Lean, no program in sight. -/
set_option linter.unusedVariables false
namespace Go.Proofs.YtedcgbmdfmgcgaaGreatDoor
theorem foldl_addI {α : Type} (g : α → Int) : ∀ (l : List α) (n : Int), l.foldl (fun n p => n + g p) n = n + (l.map g).sum
  | [], n => by simp
  | x :: r, n => by rw [List.foldl_cons, foldl_addI g r, List.map_cons, List.sum_cons]; omega
theorem sum_app : ∀ (a b : List Int), (a ++ b).sum = a.sum + b.sum
  | [], b => by simp
  | x :: r, b => by rw [List.cons_append, List.sum_cons, List.sum_cons, sum_app r b]; omega
theorem sum_flat {α β : Type} (f : α → List β) (g : β → Int) : ∀ l : List α, ((l.flatMap f).map g).sum = (l.map fun e => ((f e).map g).sum).sum
  | [] => rfl
  | x :: r => by rw [List.flatMap_cons, List.map_append, sum_app, List.map_cons, List.sum_cons, sum_flat f g r]
theorem sum_filter_le {α : Type} (p : α → Bool) (g : α → Int) (hg : ∀ x, 0 ≤ g x) : ∀ l : List α, ((l.filter p).map g).sum ≤ (l.map g).sum
  | [] => by simp
  | x :: r => by
    have ih := sum_filter_le p g hg r
    have := hg x
    rw [List.filter_cons, List.map_cons, List.sum_cons]
    split
    · rw [List.map_cons, List.sum_cons]; omega
    · omega
def lenAt (s : List Pc) (root : Int) (p : Bs) : Int := ((contentAt s root p).length : Int)
theorem sizeOf'_sum (s : List Pc) (root : Int) (l : List Bs) : sizeOf' s root l = (l.map (lenAt s root)).sum := by
  unfold sizeOf'
  rw [show (fun (n : Int) p => n + ((contentAt s root p).length : Int)) = fun n p => n + lenAt s root p from rfl, foldl_addI]; omega
theorem belowP_root {f : Bs} (h : (pathP f).isSome = true) : belowP f [47] = true := by
  obtain ⟨a, ha⟩ := Option.isSome_iff_exists.1 h
  unfold belowP
  rw [ha, show pathP [47] = some [] by decide]; rfl
theorem usedP_root {s : List Pc} (hs : storeV s = true) (root : Int) : usedP s root [47] = totalP s root := by
  unfold usedP totalP
  rw [hs, show (pathP [47]).isSome = true by decide]
  show sizeOf' s root ((allF s root).filter fun f => belowP f [47]) = _
  rw [List.filter_eq_self.2 fun f hf => belowP_root (allF_path hf)]
theorem totalP_bad {s : List Pc} (hs : storeV s = false) (root : Int) : totalP s root = 0 := by
  unfold totalP allF
  rw [hs]; rfl
theorem usedP_le {s : List Pc} (hs : storeV s = true) (root : Int) {path : Bs} (hp : (pathP path).isSome = true) : 0 ≤ usedP s root path ∧ usedP s root path ≤ usedP s root [47] := by
  rw [usedP_root hs]
  unfold usedP totalP
  rw [hs, hp]
  show 0 ≤ sizeOf' s root _ ∧ sizeOf' s root _ ≤ _
  rw [sizeOf'_sum, sizeOf'_sum]
  have h0 : ∀ x, 0 ≤ lenAt s root x := fun x => Int.natCast_nonneg _
  refine ⟨?_, sum_filter_le _ _ h0 _⟩
  have : ∀ l : List Bs, 0 ≤ (l.map (lenAt s root)).sum := fun l => by
    induction l with
    | nil => simp
    | cons x r ih => rw [List.map_cons, List.sum_cons]; have := h0 x; omega
  exact this _
/-! ### a file more -/
theorem walkP_keep {s s' : List Pc} (hk : Keep s s') : ∀ (qs : List Bs) (p q : Int), walkP s p qs = some q → walkP s' p qs = some q
  | [], p, q, h => by
    rw [walkP] at h ⊢
    split at h
    · rename_i hp; rw [if_pos (hk.there hp)]; exact h
    · cases h
  | n :: r, p, q, h => by
    rw [walkP] at h ⊢
    obtain ⟨l, hl, h⟩ := Option.bind_eq_some_iff.1 h
    obtain ⟨x, hx, h⟩ := Option.bind_eq_some_iff.1 h
    rw [hk.fold hl, Option.bind_some, hx, Option.bind_some]
    exact walkP_keep hk r x q h
theorem content_file {s : List Pc} {root p q : Int} {l : List En} {n c : Bs} {qs : List Bs} (hs : storeV s = true) (hf : folderOf s root = some l) (hg : getE l n = some p) (hv : partsV (n :: qs) = true) (hw : walkP s p qs = some q) (hc : fileOf s q = some c) :
    contentAt s root (joinP (n :: qs)) = c := by
  unfold contentAt readAt walkTo
  rw [if_pos hs, pathP_of hv, Option.bind_some, walkP, hf, Option.bind_some, hg, Option.bind_some, hw, Option.bind_some, hc]; rfl
theorem stepF_mem {s : List Pc} {e : En} (he : entOk e = true) {x : Bs} (hx : x ∈ stepF s 2 [] e) : ∃ qs q, partsV (tx e.1 :: qs) = true ∧ x = joinP (tx e.1 :: qs) ∧ walkP s e.2 qs = some q ∧ (fileOf s q).isSome = true := by
  have hw := (entOk_iff.1 he).1
  unfold stepF at hx
  split at hx
  · rename_i hfi
    rw [List.mem_singleton] at hx
    exact ⟨[], e.2, partsV_iff.2 ⟨by simp, by simpa using hw⟩, hx, by rw [walkP, if_pos (file_there hfi)], hfi⟩
  · obtain ⟨qs, q, _, h2, h3, h4, h5⟩ := filesP_mem 2 e.2 ([] ++ [tx e.1]) (by simpa using hw) (by simp) x hx
    exact ⟨qs, q, h2, h3, h4, h5⟩
def nameZ : Bs := [122, 122]
def pathZ : Bs := [47, 122, 122]
theorem total_write {N : Bs → Prop} {s s' : List Pc} {root r' : Int} {c : Bs} (hg : Good N s) (hz : ¬ N nameZ) (h : writeA s root pathZ c = (s', r', true)) : totalP s' r' = totalP s root + (c.length : Int) := by
  have hch := write_chg h
  obtain ⟨hs, hc, n, r, fs, x, hpp, hf, hx, hput, rfl⟩ := writeA_ok h
  rw [show pathP pathZ = some [nameZ] by decide] at hpp
  injection hpp with hpp
  injection hpp with e1 e2
  subst e1 e2
  obtain ⟨l, fs', hl, hf2, rfl, _⟩ := foldsW_top hf
  rw [foldsW] at hf2
  injection hf2 with hf2
  subst hf2
  obtain ⟨y, hy, hpe, rfl⟩ := upT_top hx
  have hy : some (([] : List ByteArray), prOf (fileT c)) = some y := hy
  injection hy with hy
  subst hy
  obtain ⟨g1, g2, g3⟩ := putE_ok hpe
  have hl : folderOf s root = some l := hl
  have hfo := folder_put hs hput (l := (putE l (mk nameZ, prOf (fileT c))).1) (by simp) g2
  have hfi := file_put hs hput (c := c) (by simp) hc
  have hso := entsV_sorted g1
  have hno : hereE l nameZ = false := by
    rw [hereE_get hso]
    cases hge : getE l nameZ with
    | none => rfl
    | some p => exact absurd (hg root l hl _ (getE_some hge)).2 (by rw [tx_mk]; exact hz)
  simp only at hfo hput hfi g2 g3 ⊢
  rw [g3] at hfo g2 ⊢
  have hins : insE l (mk nameZ, prOf (fileT c)) = l.take (posE l nameZ) ++ (mk nameZ, prOf (fileT c)) :: l.drop (posE l nameZ) := by
    unfold insE
    rw [show tx (mk nameZ, prOf (fileT c)).1 = nameZ from rfl, hno]; rfl
  have ht : ∀ (s : List Pc) (p : Int) (l : List En), storeV s = true → folderOf s p = some l → totalP s p = (l.map fun e => ((stepF s 2 [] e).map (lenAt s p)).sum).sum := fun s p l hs hl => by
    unfold totalP allF
    rw [if_pos hs, filesP_succ, hl, Option.getD_some, sizeOf'_sum, sum_flat]
  rw [ht _ _ _ hch.valid hfo, ht _ _ _ hs hl]
  generalize prOf (foldT (insE l (mk nameZ, prOf (fileT c)))) = R at *
  have hold : ∀ e ∈ l, ((stepF s' 2 [] e).map (lenAt s' R)).sum = ((stepF s 2 [] e).map (lenAt s root)).sum := fun e he => by
    have h2 := hg root l hl e he
    have hst : stepF s' 2 [] e = stepF s 2 [] e := by
      unfold stepF
      rw [hch.keep.fi h2.1, filesP_keep hg hch.keep 2 e.2 _ h2.1]
    rw [hst]
    congr 1
    refine List.map_congr_left fun x hx => ?_
    obtain ⟨qs, q, k1, rfl, k3, k4⟩ := stepF_mem (entsV_ok g1 he) hx
    obtain ⟨t, ht⟩ := Option.isSome_iff_exists.1 k4
    have ge : getE l (tx e.1) = some e.2 := getE_mem hso (show (mk (tx e.1), e.2) ∈ l by rw [mk_tx]; exact he)
    have hne : tx e.1 ≠ nameZ := fun e0 => hz (e0 ▸ h2.2)
    have ge' : getE (insE l (mk nameZ, prOf (fileT c))) (tx e.1) = some e.2 := getE_mem (entsV_sorted g2) (by
      rw [mk_tx]; exact (mem_insE hso _ _).2 (.inr ⟨he, hne⟩))
    unfold lenAt
    rw [content_file hs hl ge k1 k3 ht, content_file hch.valid hfo ge' k1 (walkP_keep hch.keep _ _ _ k3) (by rw [hch.keep.fi (walkP_there k3)]; exact ht)]
  have hnew : ((stepF s' 2 [] (mk nameZ, prOf (fileT c))).map (lenAt s' R)).sum = (c.length : Int) := by
    have e : stepF s' 2 [] (mk nameZ, prOf (fileT c)) = [joinP [nameZ]] := by
      unfold stepF
      rw [show fileOf s' (mk nameZ, prOf (fileT c)).2 = some c from hfi]; rfl
    have ge : getE (insE l (mk nameZ, prOf (fileT c))) nameZ = some (prOf (fileT c)) := getE_mem (entsV_sorted g2) ((mem_insE hso _ _).2 (.inl rfl))
    rw [e]
    have hcont : contentAt s' R (joinP [nameZ]) = c := content_file hch.valid hfo ge (by decide) (by rw [walkP, if_pos (file_there (by rw [hfi]; rfl))]) hfi
    rw [List.map_cons, List.map_nil, List.sum_cons, List.sum_nil]
    unfold lenAt
    rw [hcont]; omega
  rw [hins, List.map_append, List.map_cons, sum_app, List.sum_cons, hnew]
  have e1 : (l.map fun e => ((stepF s 2 [] e).map (lenAt s root)).sum).sum = ((l.take (posE l nameZ)).map fun e => ((stepF s 2 [] e).map (lenAt s root)).sum).sum + ((l.drop (posE l nameZ)).map fun e => ((stepF s 2 [] e).map (lenAt s root)).sum).sum := by
    rw [← sum_app, ← List.map_append, List.take_append_drop]
  have e2 : ((l.take (posE l nameZ)).map fun e => ((stepF s' 2 [] e).map (lenAt s' R)).sum) = (l.take (posE l nameZ)).map fun e => ((stepF s 2 [] e).map (lenAt s root)).sum := List.map_congr_left fun e he => hold e (List.mem_of_mem_take he)
  have e3 : ((l.drop (posE l nameZ)).map fun e => ((stepF s' 2 [] e).map (lenAt s' R)).sum) = (l.drop (posE l nameZ)).map fun e => ((stepF s 2 [] e).map (lenAt s root)).sum := List.map_congr_left fun e he => hold e (List.mem_of_mem_drop he)
  rw [e1, e2, e3]; omega
/-! ### found ones stand in their order -/
theorem filt_at {α : Type} {F : List α} {P : α → Bool} {k : Nat} (hk : k < F.length) (h : P F[k] = true) : (F.filter P)[((F.take k).filter P).length]? = some F[k] := by
  have e : F.filter P = (F.take k).filter P ++ (F.drop k).filter P := by rw [← List.filter_append, List.take_append_drop]
  rw [e, List.getElem?_append_right (Nat.le_refl _), Nat.sub_self, List.drop_eq_getElem_cons hk, List.filter_cons, h]; rfl
theorem filt_no {α : Type} {F : List α} {P : α → Bool} {k j : Nat} (hk : k < F.length) (h : P F[k] = false) {y : α} (hy : (F.filter P)[j]? = some y) : y ≠ F[k] := by
  intro e
  have := (List.mem_filter.1 (List.mem_of_getElem? hy)).2
  rw [e, h] at this; cases this
theorem filt_next {α : Type} {F : List α} {P : α → Bool} {k : Nat} (hk : k < F.length) : ((F.take (k + 1)).filter P).length = ((F.take k).filter P).length + if P F[k] then 1 else 0 := by
  rw [List.take_succ_eq_append_getElem hk, List.filter_append, List.length_append]
  cases h : P F[k] <;> simp [h]
theorem common_word {a w : Bs} (hw : wordsOf w = [w]) : (decide (0 < (commonW a w).length)) = (wordsOf a).contains w := by
  unfold commonW
  rw [hw]
  rw [Bool.eq_iff_iff, decide_eq_true_eq, List.length_pos_iff, List.contains_iff_mem]
  constructor
  · intro h
    obtain ⟨x, hx⟩ := List.exists_mem_of_ne_nil _ h
    obtain ⟨h1, h2⟩ := List.mem_filter.1 hx
    have : x = w := by simpa using h2
    exact this ▸ h1
  · intro h e
    have : w ∈ (wordsOf a).filter fun x => [w].contains x := List.mem_filter.2 ⟨h, by simp⟩
    rw [e] at this; cases this
/-! ### quotas -/
theorem quoV_at {l : List Qt} (h : quoV l = true) {k : Nat} (hk : k < l.length) : ((l.take k).any fun o => tx o.1 == tx l[k].1) = false := by
  unfold quoV at h
  rw [Bool.and_eq_true, List.all_eq_true] at h
  have h2 := h.2 k (List.mem_range.2 hk)
  unfold quoAt at h2
  rw [List.getElem?_eq_getElem hk] at h2
  simp only [Bool.and_eq_true, Bool.not_eq_true'] at h2
  exact h2.2
theorem quoV_lt {l : List Qt} (h : quoV l = true) {j k : Nat} (hj : j < l.length) (hk : k < l.length) (hjk : j < k) : tx l[j].1 ≠ tx l[k].1 := by
  intro e
  have h2 := quoV_at h hk
  rw [List.any_eq_false] at h2
  have hm : l[j] ∈ l.take k := by
    rw [List.mem_iff_getElem]
    exact ⟨j, by rw [List.length_take]; omega, by rw [List.getElem_take]⟩
  exact h2 _ hm (by rw [e]; simp)
theorem quoV_inj {l : List Qt} (h : quoV l = true) {a b : Qt} (ha : a ∈ l) (hb : b ∈ l) (e : a.1 = b.1) : a = b := by
  obtain ⟨j, hj, rfl⟩ := List.getElem_of_mem ha
  obtain ⟨k, hk, rfl⟩ := List.getElem_of_mem hb
  by_cases h1 : j < k
  · exact absurd (by rw [e]) (quoV_lt h hj hk h1)
  by_cases h2 : k < j
  · exact absurd (by rw [e]) (quoV_lt h hk hj h2)
  have : j = k := by omega
  subst this; rfl
theorem over_at {s : List Pc} {root : Int} {l : List Qt} {k : Nat} (hk : k < l.length) (h : overQ s root l[k] = true) : (overB s root l)[(overB s root (l.take k)).length]? = some l[k].1 := by
  unfold overB
  rw [List.getElem?_map, List.length_map, filt_at hk h]; rfl
theorem over_no {s : List Pc} {root : Int} {l : List Qt} {k j : Nat} (hv : quoV l = true) (hk : k < l.length) (h : overQ s root l[k] = false) {y : ByteArray} (hy : (overB s root l)[j]? = some y) : y ≠ l[k].1 := by
  intro e
  unfold overB at hy
  rw [List.getElem?_map] at hy
  obtain ⟨q, hq, rfl⟩ := Option.map_eq_some_iff.1 hy
  obtain ⟨h1, h2⟩ := List.mem_filter.1 (List.mem_of_getElem? hq)
  have := quoV_inj hv h1 (List.getElem_mem hk) e
  rw [this, h] at h2; cases h2
theorem over_none {s : List Pc} {l : List Qt} : overR s (-1) l = [] := by
  unfold overR
  split
  · rename_i h
    rw [Bool.and_eq_true] at h
    have hg : getT s (-1) = none := by
      cases hg : getT s (-1) with
      | none => rfl
      | some t =>
        have := (getT_valid h.2 hg).2.2
        unfold pv inI at this
        rw [decide_eq_true_eq] at this; omega
    have hf : folderOf s (-1) = none := by unfold folderOf; rw [hg]; rfl
    have ha : allF s (-1) = [] := by unfold allF; rw [if_pos h.2, filesP_succ, hf]; rfl
    unfold overB
    rw [List.filter_eq_nil_iff.2]
    · rfl
    · intro q hq
      have hb := quoV_path h.1 hq
      have hu : usedP s (-1) (bs q.1) = 0 := by
        unfold usedP
        rw [hb.1, h.2, ha]; rfl
      unfold overQ
      rw [hu]; simp; omega
  · rfl
end Go.Proofs.YtedcgbmdfmgcgaaGreatDoor

/- Which pieces roots reach, in plain Lean. No program in sight. -/
set_option linter.unusedVariables false
namespace Go.Proofs.YtedcgbmdfmgcgaaGreatDoor
def namesK (s : List Pc) (k : Nat) : List Int := (((s[k]?).bind fun p => readF (tx p.2)).getD []).map (·.2)
def mark1 (s : List Pc) (q : Int) (inn : List Bool) : List Bool := List.zipWith (fun b p => b || decide (p.1 = q)) inn s
def markL (s : List Pc) (qs : List Int) (inn : List Bool) : List Bool := qs.foldl (fun inn q => mark1 s q inn) inn
def stepK (s : List Pc) (inn : List Bool) (k : Nat) : List Bool := if inn.getD k false then markL s (namesK s k) inn else inn
def roundK (s : List Pc) (inn : List Bool) (k : Nat) : List Bool := (List.range k).foldl (stepK s) inn
def roundR (s : List Pc) (inn : List Bool) : List Bool := roundK s inn s.length
def initR (s : List Pc) (roots : List Int) : List Bool := s.map fun p => roots.contains p.1
def afterR (s : List Pc) (roots : List Int) : Nat → List Bool
  | 0 => initR s roots
  | n + 1 => roundR s (afterR s roots n)
def reachR (s : List Pc) (roots : List Int) : List Bool := afterR s roots s.length
theorem mark1_len {s : List Pc} {q : Int} {inn : List Bool} (h : inn.length = s.length) : (mark1 s q inn).length = s.length := by
  unfold mark1; rw [List.length_zipWith]; omega
theorem mark1_at {s : List Pc} {q : Int} {inn : List Bool} (h : inn.length = s.length) {i : Nat} (hi : i < s.length) : (mark1 s q inn).getD i false = (inn.getD i false || decide (s[i].1 = q)) := by
  unfold mark1
  rw [List.getD_eq_getElem?_getD, List.getElem?_eq_getElem (by rw [List.length_zipWith]; omega), List.getElem_zipWith, List.getD_eq_getElem?_getD, List.getElem?_eq_getElem (by omega)]
  rfl
theorem markL_len {s : List Pc} : ∀ (qs : List Int) (inn : List Bool), inn.length = s.length → (markL s qs inn).length = s.length
  | [], _, h => h
  | q :: r, inn, h => markL_len r _ (mark1_len h)
theorem stepK_len {s : List Pc} {inn : List Bool} {k : Nat} (h : inn.length = s.length) : (stepK s inn k).length = s.length := by
  unfold stepK; split
  · exact markL_len _ _ h
  · exact h
theorem roundK_succ (s : List Pc) (inn : List Bool) (k : Nat) : roundK s inn (k + 1) = stepK s (roundK s inn k) k := by
  unfold roundK; rw [List.range_succ, List.foldl_append]; rfl
theorem roundK_len {s : List Pc} {inn : List Bool} (h : inn.length = s.length) : ∀ k, (roundK s inn k).length = s.length
  | 0 => h
  | k + 1 => by rw [roundK_succ]; exact stepK_len (roundK_len h k)
theorem afterR_len (s : List Pc) (roots : List Int) : ∀ n, (afterR s roots n).length = s.length
  | 0 => by unfold afterR initR; rw [List.length_map]
  | n + 1 => by rw [afterR]; exact roundK_len (afterR_len s roots n) _
/-! ### more and more are reached -/
def LeB (a b : List Bool) : Prop := ∀ i, a.getD i false = true → b.getD i false = true
theorem LeB.refl (a : List Bool) : LeB a a := fun _ h => h
theorem LeB.trans {a b c : List Bool} (h : LeB a b) (h2 : LeB b c) : LeB a c := fun i hi => h2 i (h i hi)
theorem getD_lt {a : List Bool} {i : Nat} (h : a.getD i false = true) : i < a.length := by
  by_cases hi : i < a.length
  · exact hi
  · rw [List.getD_eq_getElem?_getD, List.getElem?_eq_none (by omega)] at h; cases h
theorem mark1_le {s : List Pc} {q : Int} {inn : List Bool} (h : inn.length = s.length) : LeB inn (mark1 s q inn) := fun i hi => by
  have hl := getD_lt hi
  rw [mark1_at h (by omega), hi]; rfl
theorem markL_le {s : List Pc} : ∀ (qs : List Int) (inn : List Bool), inn.length = s.length → LeB inn (markL s qs inn)
  | [], _, _ => LeB.refl _
  | q :: r, inn, h => (mark1_le h).trans (markL_le r _ (mark1_len h))
theorem markL_has {s : List Pc} : ∀ (qs : List Int) (inn : List Bool), inn.length = s.length → ∀ q ∈ qs, ∀ i (hi : i < s.length), s[i].1 = q → (markL s qs inn).getD i false = true
  | [], _, _, q, hq, _, _, _ => by cases hq
  | x :: r, inn, h, q, hq, i, hi, he => by
    rcases List.mem_cons.1 hq with rfl | hq
    · refine markL_le r _ (mark1_len h) i ?_
      rw [mark1_at h hi, he]; simp
    · exact markL_has r _ (mark1_len h) q hq i hi he
theorem stepK_le {s : List Pc} {inn : List Bool} {k : Nat} (h : inn.length = s.length) : LeB inn (stepK s inn k) := by
  unfold stepK; split
  · exact markL_le _ _ h
  · exact LeB.refl _
theorem roundK_le {s : List Pc} {inn : List Bool} (h : inn.length = s.length) : ∀ k j, k ≤ j → LeB (roundK s inn k) (roundK s inn j)
  | k, 0, hk => by
    obtain rfl : k = 0 := by omega
    exact LeB.refl _
  | k, j + 1, hk => by
    by_cases e : k = j + 1
    · subst e; exact LeB.refl _
    · rw [roundK_succ s inn j]
      exact (roundK_le h k j (by omega)).trans (stepK_le (roundK_len h j))
theorem leB_anti : ∀ {a b : List Bool}, a.length = b.length → LeB a b → LeB b a → a = b := by
  intro a b hl h1 h2
  refine List.ext_getElem hl fun i hi hj => ?_
  have e1 : a.getD i false = a[i] := by rw [List.getD_eq_getElem?_getD, List.getElem?_eq_getElem hi]; rfl
  have e2 : b.getD i false = b[i] := by rw [List.getD_eq_getElem?_getD, List.getElem?_eq_getElem hj]; rfl
  have h3 := h1 i
  have h4 := h2 i
  rw [e1, e2] at h3 h4
  cases ha : a[i] <;> cases hb : b[i] <;> simp_all
theorem count_lt : ∀ {a b : List Bool}, a.length = b.length → LeB a b → a.countP id ≤ b.countP id ∧ (a ≠ b → a.countP id < b.countP id)
  | [], [], _, _ => ⟨Nat.le_refl _, fun h => absurd rfl h⟩
  | x :: a, y :: b, hl, h => by
    have h0 : x = true → y = true := h 0
    have ht : LeB a b := fun i hi => h (i + 1) hi
    obtain ⟨i1, i2⟩ := count_lt (by simpa using hl) ht
    rw [List.countP_cons, List.countP_cons]
    cases x <;> cases y
    · simp only [id, Bool.false_eq_true, if_false, Nat.add_zero]
      exact ⟨i1, fun hn => i2 fun e => hn (by rw [e])⟩
    · simp only [id, Bool.false_eq_true, if_false, if_true, Nat.add_zero]
      exact ⟨by omega, fun _ => by omega⟩
    · exact absurd (h0 rfl) (by simp)
    · simp only [id, if_true]
      exact ⟨by omega, fun hn => by have := i2 fun e => hn (by rw [e]); omega⟩
theorem roundR_count {s : List Pc} (roots : List Int) : ∀ n, roundR s (afterR s roots n) = afterR s roots n ∨ n + 1 ≤ (afterR s roots n).countP id
  | 0 => by
    by_cases h0 : (afterR s roots 0).countP id = 0
    · left
      have hz : ∀ k, roundK s (afterR s roots 0) k = afterR s roots 0 := fun k => by
        induction k with
        | zero => rfl
        | succ k ih =>
          rw [roundK_succ, ih]
          unfold stepK
          rw [if_neg]
          intro hk
          have hl := getD_lt hk
          rw [List.countP_eq_zero] at h0
          have := h0 _ (List.getElem_mem hl)
          rw [List.getD_eq_getElem?_getD, List.getElem?_eq_getElem hl] at hk
          exact this hk
      exact hz _
    · right; omega
  | n + 1 => by
    have hl := afterR_len s roots n
    have hle := roundK_le hl 0 s.length (Nat.zero_le _)
    rcases roundR_count roots n with h | h
    · left
      rw [afterR, h, h]
    · by_cases e : roundR s (afterR s roots n) = afterR s roots n
      · left
        rw [afterR, e, e]
      · right
        rw [afterR]
        have := (count_lt (a := afterR s roots n) (b := roundR s (afterR s roots n)) (by rw [hl]; exact (roundK_len hl _).symm) hle).2 (fun h => e h.symm)
        omega
theorem reach_fix (s : List Pc) (roots : List Int) : roundR s (reachR s roots) = reachR s roots := by
  rcases roundR_count roots s.length with h | h
  · exact h
  · have h1 := List.countP_le_length (p := id) (l := afterR s roots s.length)
    rw [afterR_len] at h1
    omega
/-- What is reached names what is reached. -/
theorem reach_closed (s : List Pc) (roots : List Int) {k : Nat} (hk : (reachR s roots).getD k false = true) : ∀ q ∈ namesK s k, ∀ i (hi : i < s.length), s[i].1 = q → (reachR s roots).getD i false = true := by
  have hl : (reachR s roots).length = s.length := afterR_len s roots _
  have hf := reach_fix s roots
  generalize reachR s roots = R at *
  have hks : k < s.length := by have := getD_lt hk; omega
  have h1 : roundK s R k = R := leB_anti (by rw [roundK_len hl, hl]) (by
    have := roundK_le hl k s.length (by omega)
    unfold roundR at hf
    rwa [hf] at this) (roundK_le hl 0 k (Nat.zero_le _))
  have h2 : roundK s R (k + 1) = R := leB_anti (by rw [roundK_len hl, hl]) (by
    have := roundK_le hl (k + 1) s.length (by omega)
    unfold roundR at hf
    rwa [hf] at this) (roundK_le hl 0 (k + 1) (Nat.zero_le _))
  rw [roundK_succ, h1] at h2
  unfold stepK at h2
  rw [if_pos hk] at h2
  intro q hq i hi he
  have := markL_has (namesK s k) R hl q hq i hi he
  rwa [h2] at this
/-! ### what is left of a store -/
def reachL (s : List Pc) (inn : List Bool) (k : Nat) : List Int := ((List.range k).filter fun i => inn.getD i false).map fun i => (s.getD i pc0).1
def sweepR (s : List Pc) (roots : List Int) : List Pc := if storeV s then s.filter fun p => (reachL s (reachR s roots) s.length).contains p.1 else []
theorem reachL_mem {s : List Pc} {inn : List Bool} {n : Nat} {q : Int} : q ∈ reachL s inn n ↔ ∃ i, i < n ∧ inn.getD i false = true ∧ (s.getD i pc0).1 = q := by
  unfold reachL
  rw [List.mem_map]
  constructor
  · rintro ⟨i, hi, rfl⟩
    obtain ⟨h1, h2⟩ := List.mem_filter.1 hi
    exact ⟨i, List.mem_range.1 h1, h2, rfl⟩
  · rintro ⟨i, h1, h2, rfl⟩
    exact ⟨i, List.mem_filter.2 ⟨List.mem_range.2 h1, h2⟩, rfl⟩
theorem sweep_sub (s : List Pc) (roots : List Int) : (sweepR s roots).Sublist s := by
  unfold sweepR; split
  · exact List.filter_sublist
  · exact List.nil_sublist _
theorem sweep_valid (s : List Pc) (roots : List Int) : storeV (sweepR s roots) = true := by
  cases h : storeV s
  · unfold sweepR; rw [h]; rfl
  · exact storeV_sub h (sweep_sub s roots)
theorem sweep_good {N : Bs → Prop} {s : List Pc} (hg : storeV s = true → Good N s) (roots : List Int) : Good N (sweepR s roots) := by
  cases hs : storeV s
  · unfold sweepR; rw [hs]; exact good_nil N
  have hg := hg hs
  intro p l hf e he
  have hso := storeV_sorted hs
  unfold folderOf at hf
  obtain ⟨t, ht, hr⟩ := Option.bind_eq_some_iff.1 hf
  have hm := getT_some ht
  have hms := (sweep_sub s roots).subset hm
  have hf2 : folderOf s p = some l := by unfold folderOf; rw [getT_mem hso hms]; exact hr
  obtain ⟨h1, h2⟩ := hg p l hf2 e he
  refine ⟨?_, h2⟩
  obtain ⟨u, hu⟩ := Option.isSome_iff_exists.1 h1
  have hmu := getT_some hu
  have hsv := sweep_valid s roots
  have : (e.2, u) ∈ sweepR s roots := by
    unfold sweepR at hm ⊢
    rw [hs, if_pos rfl] at hm ⊢
    refine List.mem_filter.2 ⟨hmu, ?_⟩
    have hk := (List.mem_filter.1 hm).2
    rw [List.contains_iff_mem, reachL_mem] at hk ⊢
    obtain ⟨k, hk1, hk2, hk3⟩ := hk
    obtain ⟨i, hi, hie⟩ := List.getElem_of_mem hmu
    rw [getD_pc hk1] at hk3
    have hkp : s[k] = (p, t) := sorted_inj hso (List.getElem_mem hk1) hms hk3
    refine ⟨i, hi, reach_closed s roots hk2 e.2 ?_ i hi (by rw [hie]), by rw [getD_pc hi, hie]⟩
    unfold namesK
    rw [List.getElem?_eq_getElem hk1, hkp, Option.bind_some, hr, Option.getD_some]
    exact List.mem_map.2 ⟨e, he, rfl⟩
  rw [getT_mem (storeV_sorted hsv) this]; rfl
end Go.Proofs.YtedcgbmdfmgcgaaGreatDoor

/- Laws' walks: FnExactSpotOf, FnExactFoldName, FnFoldName. -/
set_option linter.unusedVariables false
namespace Go.Proofs.YtedcgbmdfmgcgaaGreatDoor
open Go.RowKit
attribute [local go_sem] mk_toList

/-- A law's end: true, and nothing that was there has turned. -/
def LawOk (w : World) (e : Ending) (w' : World) : Prop := e = .returned (.bool true) ∧ Below w.heap.size w w'

set_option maxHeartbeats 2000000 in
set_option maxRecDepth 100000 in
theorem alive_any (w : World) : Calls Tryz.prog 12 #[] w fun e w' => e = .returned (.bool true) ∧ w = w' := by
  have h1 : wordV (bs ⟨#[97, 49]⟩) = true := by decide
  have h2 : wordV (bs ⟨#[49, 97]⟩) = false := by decide
  go_enter Tryz.func12, Tryz.ntmps12
  go_wp2_with (go_at_call 38; refine (iWordValid_any _ _ (by decide)).mono ?_; rintro e w' ⟨rfl, rfl⟩)
  go_ret
  exact ⟨rfl, rfl⟩

/-! ### spots -/
def spotOf (seed many : Int) : Int := if pv seed && inI many 1 16 then prPair seed 17 % many else -1
/-! ### folded names -/
theorem foldName_facts (s : Bs) : foldName (foldName s) = foldName s ∧ (foldName s ≠ [] → (foldName s).length = s.length) := by
  by_cases h : 1 ≤ s.length ∧ s.length ≤ 8 ∧ s.all fineC = true
  · have e : foldName s = s.map foldC := by unfold foldName; rw [if_pos h]
    have hff : ∀ c, fineC c = true → foldC (foldC c) = foldC c ∧ fineC (foldC c) = true := by
      intro c hc
      have h2 : foldC (foldC c) = foldC c := by
        refine foldC_same ?_
        unfold fineC smallC digitC inI at hc
        simp at hc; omega
      refine ⟨h2, ?_⟩
      unfold fineC at hc ⊢
      rw [h2]; exact hc
    have hall := List.all_eq_true.1 h.2.2
    refine ⟨?_, fun _ => by rw [e]; simp⟩
    rw [e]
    have h3 : 1 ≤ (s.map foldC).length ∧ (s.map foldC).length ≤ 8 ∧ (s.map foldC).all fineC = true := by
      refine ⟨by simpa using h.1, by simpa using h.2.1, ?_⟩
      rw [List.all_eq_true]; intro c hc
      obtain ⟨d, hd, rfl⟩ := List.mem_map.1 hc
      exact (hff d (hall d hd)).2
    have e2 : foldName (s.map foldC) = (s.map foldC).map foldC := by unfold foldName; rw [if_pos h3]
    rw [e2, List.map_map]
    refine List.map_congr_left fun c hc => ?_
    exact (hff c (hall c hc)).1
  · have e : foldName s = [] := by unfold foldName; rw [if_neg h]
    rw [e]
    exact ⟨rfl, fun h => absurd rfl h⟩

theorem foldName_le (s : Bs) : (foldName s).length ≤ 8 := by
  unfold foldName; split
  · rename_i h; simpa using h.2.1
  · simp

end Go.Proofs.YtedcgbmdfmgcgaaGreatDoor
