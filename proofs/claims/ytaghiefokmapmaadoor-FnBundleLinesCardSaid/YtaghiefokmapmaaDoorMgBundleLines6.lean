/- Written by merge.py: Rw, Pp, Pj, Pk, Wk1, Wk2, Wk3, Wk4, S1. -/
import Derived.Lib.Join
import Derived.Maps.AppendAt
import Derived.Test.YtaghiefokmapmaaDoorMgBundleLines5
/- Rows of structs: one element written anew; repaired pieces, walked. -/
set_option linter.unusedVariables false
namespace Go.Proofs.YtaghiefokmapmaaDoor
open Go.RowKit

theorem setAll_cells {g : Nat} {E : TypeId} {m : Nat × Nat} : ∀ (us : List Value) (w : World) (j : Nat) (cs : Array Value), w.heap[g]? = some (.cells cs E (0, 0)) →
    ∃ cs' : Array Value, (setAll w g j us).heap[g]? = some (.cells cs' E (0, 0)) ∧ cs'.size = cs.size ∧ ∀ p, cs'[p]? = if j ≤ p ∧ p < j + us.length ∧ p < cs.size then us[p - j]? else cs[p]?
  | [], w, j, cs, h => ⟨cs, h, rfl, fun p => by rw [if_neg]; simp; omega⟩
  | u :: r, w, j, cs, h => by
    obtain ⟨cs', h1, h2, h3⟩ := setAll_cells (m := m) r (w.setCell ⟨g, j, none⟩ u) (j + 1) (cs.setIfInBounds j u) (heap_setCell_same w g j cs E u h)
    refine ⟨cs', h1, by rw [h2]; simp, fun p => ?_⟩
    rw [h3 p]
    simp only [Array.size_setIfInBounds, List.length_cons]
    by_cases hp : p = j
    · subst hp
      rw [if_neg (by omega)]
      by_cases hs : p < cs.size
      · rw [if_pos (by omega)]; simp [hs]
      · rw [if_neg (by omega), Array.getElem?_eq_none (by simp; omega), Array.getElem?_eq_none (by omega)]
    · rw [Array.getElem?_setIfInBounds_ne (by omega)]
      by_cases hh : j + 1 ≤ p ∧ p < j + 1 + r.length ∧ p < cs.size
      · rw [if_pos hh, if_pos (by omega)]
        have e : p - j = p - (j + 1) + 1 := by omega
        rw [e, List.getElem?_cons_succ]
      · rw [if_neg hh, if_neg (by omega)]
/-- Element i of an owned row written anew. -/
theorem Own.setEl {α : Type} {enc : α → List Value} {w : World} {base size : Nat} {E : TypeId} {g n cap : Nat} {l : List α} (h : Own w base E size enc (.slice (some ⟨g, 0, none⟩) n cap) l) (he : ∀ x, (enc x).length = size) (hsz : 0 < size) {i : Nat} (hi : i < l.length) (x : α) :
    Own (setAll w g (i * size) (enc x)) base E size enc (.slice (some ⟨g, 0, none⟩) n cap) (l.set i x) := by
  rcases h.2 with ⟨hv, hn⟩ | ⟨g', cap', cur, hv, hg, hh, hnc, hcm, hs, ht⟩
  · injection hv with e; cases e
  · injection hv with e1 e2 e3
    injection e1 with e1; injection e1 with e1
    subst e1 e2 e3
    obtain ⟨cs', h1, h2, h3⟩ := setAll_cells (m := (0, 0)) (enc x) w (i * size) cur hh
    refine ⟨flat_length he _, .inr ⟨g, cap, cs', by rw [List.length_set], hg, h1, by rw [List.length_set]; exact hnc, hcm, by rw [h2]; exact hs, ?_⟩⟩
    have hlen : (flat enc (l.set i x)).length = l.length * size := by rw [flat_length he, List.length_set]
    have hls : l.length * size ≤ cur.size := by rw [hs]; exact Nat.mul_le_mul_right _ hnc
    have hi2 : i * size + size ≤ l.length * size := by
      have := Nat.mul_le_mul_right size (show i + 1 ≤ l.length from hi)
      rwa [Nat.succ_mul] at this
    have h0 : (flat enc l).length = l.length * size := flat_length he l
    rw [List.length_set]
    apply List.ext_getElem?
    intro p
    by_cases hp : p < l.length * size
    · rw [List.getElem?_take_of_lt hp, Array.getElem?_toList, h3 p, he]
      have hq : p / size < l.length := Nat.div_lt_of_lt_mul (by rwa [Nat.mul_comm] at hp)
      have hdm : p / size * size + p % size = p := by rw [Nat.mul_comm]; exact Nat.div_add_mod p size
      have hms := Nat.mod_lt p hsz
      have hg2 := flat_get he (l.set i x) (p / size) (by rw [List.length_set]; exact hq) (p % size) hms
      rw [hdm] at hg2
      rw [hg2, List.getElem_set]
      by_cases hqi : i = p / size
      · subst hqi
        rw [if_pos rfl, if_pos (by omega)]
        congr 1; omega
      · rw [if_neg hqi, if_neg]
        · have hg3 := flat_get he l (p / size) hq (p % size) hms
          rw [hdm] at hg3
          rw [← hg3]
          have this : (cur.toList.take (l.length * size))[p]? = (flat enc l)[p]? := by rw [ht]
          rw [List.getElem?_take_of_lt hp, Array.getElem?_toList] at this
          exact this
        · intro hh
          apply hqi
          have a1 : i ≤ p / size := (Nat.le_div_iff_mul_le hsz).2 hh.1
          have a2 : p / size < i + 1 := Nat.div_lt_of_lt_mul (by rw [Nat.mul_comm, Nat.succ_mul]; exact hh.2.1)
          omega
    · rw [List.getElem?_eq_none (by simp; omega), List.getElem?_eq_none (by omega)]
theorem Own.free' {α : Type} {enc : α → List Value} {w : World} {base size : Nat} {E : TypeId} {g n cap : Nat} {l : List α} (h : Own w base E size enc (.slice (some ⟨g, 0, none⟩) n cap) l) (j : Nat) : w.frozen? ⟨g, j, none⟩ = false := by
  rcases h.2 with ⟨hv, hn⟩ | ⟨g', cap', cur, hv, hg, hh, hnc, hcm, hs, ht⟩
  · injection hv with e; cases e
  · injection hv with e1
    injection e1 with e1; injection e1 with e1
    subst e1
    exact frozen_of_row w g j cur E hh
/-- An owned row that is not empty: its head. -/
theorem Own.head {α : Type} {enc : α → List Value} {w : World} {base size : Nat} {E : TypeId} {A : Option Addr} {n c : Nat} {l : List α} (h : Own w base E size enc (.slice A n c) l) (hl : 0 < l.length) : ∃ g, A = some ⟨g, 0, none⟩ ∧ base ≤ g ∧ g < w.heap.size := by
  obtain ⟨A', c', e, _, _, hb⟩ := h.sl
  injection e with e1
  rcases hb with ⟨hz, _⟩ | ⟨g, hg, h1, h2⟩
  · subst hz; simp at hl
  · exact ⟨g, e1.trans hg, h1, h2⟩
theorem Own.apartW {α : Type} {enc : α → List Value} {w w' : World} {g base size : Nat} {E : TypeId} {v : Value} {l : List α} (h : Own w base E size enc v l) (ho : Only g w w') (hb : ∀ q, v.ownBlock = some q → q ≠ g) : Own w' base E size enc v l := by
  refine World.ownsRow.kept h (row := some g) ho ?_
  cases hv : v.ownBlock with
  | none => exact .inl rfl
  | some k => right; intro e; injection e with e; exact hb k hv e

/-! ### plain -/
theorem find_take {α : Type} (f : α → Bool) (l : List α) (j : Nat) (h : j < l.length) : (l.take (j + 1)).find? f = ((l.take j).find? f).or (if f l[j] then some l[j] else none) := by
  rw [List.take_succ_eq_append_getElem h, List.find?_append]
  congr 1
  cases h2 : f l[j] <;> simp [h2]
theorem goodCopy_take {p : Int} {copies : List Pc} {j : Nat} (h : j < copies.length) : goodCopy p (copies.take (j + 1)) = (goodCopy p (copies.take j)).or (if copies[j].1 == p && pieceR copies[j] then some copies[j] else none) :=
  find_take _ copies j h
theorem goodCopy_prefix {p : Int} {copies : List Pc} {j : Nat} {q : Pc} (h : goodCopy p (copies.take j) = some q) : goodCopy p copies = some q := by
  unfold goodCopy at *
  have e : copies = copies.take j ++ copies.drop j := (List.take_append_drop _ _).symm
  rw [e, List.find?_append, h]; rfl
theorem repair1_none {copies : List Pc} {p : Pc} (h : pieceR p = false) (hg : goodCopy p.1 copies = none) : repair1 copies p = (p, 0) := by unfold repair1; rw [if_neg (by simp [h]), hg]
theorem repair1_some {copies : List Pc} {p q : Pc} (h : pieceR p = false) (hg : goodCopy p.1 copies = some q) : repair1 copies p = (q, 1) := by unfold repair1; rw [if_neg (by simp [h]), hg]
theorem repairs_len (copies l : List Pc) : (repairs copies l).length = l.length := by simp [repairs]
theorem repairs_take {copies l : List Pc} {k : Nat} (h : k < l.length) : repairs copies (l.take (k + 1)) = repairs copies (l.take k) ++ [(repair1 copies l[k]).1] := by
  unfold repairs; rw [List.take_succ_eq_append_getElem h, List.map_append]; rfl
/-- The row while it is repaired: the first k are, the rest is not. -/
def halfRep (copies l : List Pc) (k : Nat) : List Pc := repairs copies (l.take k) ++ l.drop k
theorem halfRep_len (copies l : List Pc) (k : Nat) : (halfRep copies l k).length = l.length := by unfold halfRep; rw [List.length_append, repairs_len, List.length_take, List.length_drop]; omega
theorem halfRep_at {copies l : List Pc} {k : Nat} (h : k < l.length) : (halfRep copies l k)[k]'(by rw [halfRep_len]; exact h) = l[k] := by
  have hl : (repairs copies (l.take k)).length = k := by rw [repairs_len, List.length_take]; omega
  unfold halfRep
  rw [List.getElem_append_right (by omega), List.getElem_drop]
  congr 1; omega
theorem halfRep_succ {copies l : List Pc} {k : Nat} (h : k < l.length) : halfRep copies l (k + 1) = (halfRep copies l k).set k (repair1 copies l[k]).1 := by
  have hl : (repairs copies (l.take k)).length = k := by rw [repairs_len, List.length_take]; omega
  unfold halfRep
  rw [repairs_take h, List.set_append_right _ _ (by omega), hl, Nat.sub_self]
  have e : l.drop k = l[k] :: l.drop (k + 1) := List.drop_eq_getElem_cons h
  rw [e, List.set_cons_zero, List.append_assoc]; rfl
theorem halfRep_same {copies l : List Pc} {k : Nat} (h : k < l.length) (hr : (repair1 copies l[k]).1 = l[k]) : halfRep copies l (k + 1) = halfRep copies l k := by
  rw [halfRep_succ h, hr]
  apply List.ext_getElem (by simp)
  intro q h1 h2
  rw [List.getElem_set]
  split
  · rename_i e; subst e; exact (halfRep_at h).symm
  · rfl
theorem halfRep_done {copies l : List Pc} {k : Nat} (h : ¬ k < l.length) : halfRep copies l k = repairs copies l := by
  unfold halfRep; rw [List.take_of_length_le (by omega), List.drop_of_length_le (by omega), List.append_nil]
def RepR (l copies : List Pc) (w : World) (e : Ending) (w' : World) : Prop :=
  ∃ v, e = .returned (.tuple #[v, .int .i64 (many copies l)]) ∧ Own w' w.heap.size 44 2 encP v (repairs copies l) ∧ Below w.heap.size w w'

end Go.Proofs.YtaghiefokmapmaaDoor

/- PathParts of the reference, walked. -/
set_option linter.unusedVariables false
namespace Go.Proofs.YtaghiefokmapmaaDoor
open Go.RowKit
def scanS (acc : List Bs) (c : UInt8) : List Bs := if c = 47 then acc ++ [[]] else acc.set (acc.length - 1) (acc.getLastD [] ++ [c])
def scanL (s : Bs) : List Bs := s.foldl scanS []
theorem scanS_cons {L : List Bs} (p : Bs) (c : UInt8) (hL : L ≠ []) : scanS (p :: L) c = p :: scanS L c := by
  cases L with
  | nil => exact absurd rfl hL
  | cons q r =>
    unfold scanS
    split
    · rfl
    · simp [List.getLastD_eq_getLast?]
theorem splitS_snoc (c : UInt8) : ∀ a : Bs, splitS 47 (a ++ [c]) = scanS (splitS 47 a) c
  | [] => by
    rw [List.nil_append, splitS, splitS]
    unfold scanS
    split <;> simp [splitS]
  | x :: r => by
    have ih := splitS_snoc c r
    rw [List.cons_append, splitS, splitS]
    split
    · rw [ih, scanS_cons _ _ (splitS_ne 47 r)]
    · rw [ih]
      cases hs : splitS 47 r with
      | nil => exact absurd hs (splitS_ne 47 r)
      | cons p ps =>
        cases ps with
        | nil =>
          unfold scanS
          by_cases hc : c = 47 <;> simp [hc]
        | cons q t =>
          have hn : q :: t ≠ [] := by simp
          rw [scanS_cons p c hn]
          show (x :: p) :: scanS (q :: t) c = scanS ((x :: p) :: q :: t) c
          rw [scanS_cons (x :: p) c hn]
theorem scan_split : ∀ (r a : Bs), r.foldl scanS (splitS 47 a) = splitS 47 (a ++ r)
  | [], a => by rw [List.append_nil]; rfl
  | c :: r, a => by
    rw [List.foldl_cons, ← splitS_snoc, scan_split r, List.append_assoc]; rfl
theorem scanL_slash (r : Bs) : scanL (47 :: r) = splitS 47 r := by
  unfold scanL
  rw [List.foldl_cons]
  have e : scanS [] 47 = splitS 47 [] := by decide
  rw [e, scan_split]; rfl
theorem joinP_head (ps : List Bs) : joinP ps = [] ∨ (joinP ps).headD 0 = 47 := by
  unfold joinP
  split
  · split
    · right; rfl
    · rename_i h
      cases ps with
      | nil => exact absurd rfl h
      | cons p r => right; unfold joinB; rw [List.flatMap_cons]; rfl
  · left; rfl
/-- What the scan and the comparison answer. -/
theorem path_scan {s : Bs} (h0 : s ≠ []) (h1 : s ≠ [47]) : pathP s = if joinP (scanL s) = s then some (scanL s) else none := by
  unfold pathP
  rw [if_neg h1]
  cases s with
  | nil => exact absurd rfl h0
  | cons x r =>
    rw [List.headD_cons, List.tail_cons]
    by_cases hx : x = 47
    · subst hx
      rw [if_pos rfl, scanL_slash]
      cases hp : partsV (splitS 47 r)
      · rw [if_neg (by simp), if_neg]
        unfold joinP
        rw [hp]; simp
      · rw [if_pos rfl, if_pos]
        unfold joinP
        rw [hp, if_pos rfl, if_neg (splitS_ne _ _), joinB_split]
    · rw [if_neg hx, if_neg]
      intro e
      rcases joinP_head (scanL (x :: r)) with h | h
      · rw [h] at e; cases e
      · rw [e] at h; exact hx h
theorem path_nil : pathP [] = none := by decide
theorem scanL_take {s : Bs} {k : Nat} (h : k < s.length) : scanL (s.take (k + 1)) = scanS (scanL (s.take k)) s[k] := by
  unfold scanL
  rw [← List.take_append_getElem h, List.foldl_append]; rfl
theorem scanS_len (acc : List Bs) (c : UInt8) : (scanS acc c).length ≤ acc.length + 1 := by
  unfold scanS; split
  · simp
  · rw [List.length_set]; omega
def PathR (s : ByteArray) (w : World) (e : Ending) (w' : World) : Prop :=
  ∃ v, e = .returned (.tuple #[v, .bool (pathP (bs s)).isSome]) ∧ Own w' w.heap.size 9 1 encS v (((pathP (bs s)).getD []).map mk) ∧ Below w.heap.size w w'
def scB (s : ByteArray) (k : Nat) : List ByteArray := (scanL ((bs s).take k)).map mk
theorem scB_zero (s : ByteArray) : scB s 0 = [] := rfl
theorem scB_full (s : ByteArray) : (scB s s.size).map bs = scanL (bs s) := by
  unfold scB
  rw [List.take_of_length_le (by rw [size_bs]; omega), List.map_map]
  exact (List.map_congr_left fun p _ => rfl).trans (List.map_id _)
theorem scB_step {s : ByteArray} {k : Nat} (h : k < s.size) : scB s (k + 1) = (scanS (scanL ((bs s).take k)) s[k]).map mk := by
  unfold scB; rw [scanL_take (by rw [size_bs]; exact h)]; rfl
theorem scB_slash {s : ByteArray} {k : Nat} (h : k < s.size) (hc : s[k] = 47) : scB s (k + 1) = scB s k ++ [⟨#[]⟩] := by
  rw [scB_step h, hc]; unfold scanS scB; rw [if_pos rfl, List.map_append]; rfl
theorem scB_none {s : ByteArray} {k : Nat} (h : k < s.size) (hc : s[k] ≠ 47) (h0 : (scB s k).length = 0) : scB s (k + 1) = scB s k := by
  have e : scanL ((bs s).take k) = [] := by unfold scB at h0; rw [List.length_map] at h0; exact List.length_eq_zero_iff.1 h0
  rw [scB_step h]; unfold scanS scB; rw [if_neg hc, e]; rfl
theorem scB_some {s : ByteArray} {k : Nat} (h : k < s.size) (hc : s[k] ≠ 47) (y : ByteArray) (hy : (scB s k)[(scB s k).length - 1]? = some y) : scB s (k + 1) = (scB s k).set ((scB s k).length - 1) (y ++ s.extract k (k + 1)) := by
  rw [scB_step h]; unfold scanS; rw [if_neg hc, List.map_set]
  unfold scB at hy ⊢
  rw [List.length_map] at hy ⊢
  rw [List.getElem?_map, Option.map_eq_some_iff] at hy
  obtain ⟨z, hz, rfl⟩ := hy
  have e : (scanL ((bs s).take k)).getLastD [] = z := by rw [List.getLastD_eq_getLast?, List.getLast?_eq_getElem?, hz]; rfl
  rw [e, ← mk_append]
  congr 2
  apply ByteArray.ext
  apply Array.ext'
  simp [mk, ByteArray.data_extract]
  rw [List.drop_eq_getElem_cons (by rw [size_bs]; exact h)]; rfl
theorem scB_len (s : ByteArray) : ∀ k, k ≤ s.size → (scB s k).length ≤ k ∧ ∀ y ∈ scB s k, y.size ≤ k
  | 0, _ => ⟨Nat.le_refl _, fun y h => by cases h⟩
  | k + 1, h => by
    obtain ⟨h1, h2⟩ := scB_len s k (by omega)
    by_cases hc : s[k] = 47
    · rw [scB_slash (by omega) hc]
      refine ⟨by simp; omega, fun y hy => ?_⟩
      rcases List.mem_append.1 hy with h | h
      · have := h2 y h; omega
      · simp at h; subst h; simp [ByteArray.size]
    · by_cases h0 : (scB s k).length = 0
      · rw [scB_none (by omega) hc h0]
        exact ⟨by omega, fun y hy => by have := h2 y hy; omega⟩
      · have hlt : (scB s k).length - 1 < (scB s k).length := by omega
        rw [scB_some (by omega) hc _ (List.getElem?_eq_getElem hlt)]
        refine ⟨by rw [List.length_set]; omega, fun y hy => ?_⟩
        rcases List.mem_or_eq_of_mem_set hy with h | h
        · have := h2 y h; omega
        · subst h
          have h3 := h2 _ (List.getElem_mem hlt)
          rw [ByteArray.size_append, ByteArray.size_extract]
          omega
theorem scB_all (s : ByteArray) : scB s s.size = (scanL (bs s)).map mk := by
  unfold scB; rw [List.take_of_length_le (by rw [size_bs]; omega)]
theorem PathR.made {s : ByteArray} {w w1 : World} (hE : pathP (bs s) = none) (hb : Below w.heap.size w w1) : PathR s w (.returned (.tuple #[.slice (some ⟨w1.heap.size, 0, none⟩) 0 0, .bool false])) (w1.alloc madeS) := by
  unfold PathR; rw [hE]
  exact ⟨_, rfl, Own.made hb.size, hb.alloc hb.size _⟩
theorem PathR.yes {s : ByteArray} {w w1 : World} {v : Value} (hE : pathP (bs s) = some (scanL (bs s))) (ho : Own w1 w.heap.size 9 1 encS v (scB s s.size)) (hb : Below w.heap.size w w1) : PathR s w (.returned (.tuple #[v, .bool true])) w1 := by
  unfold PathR; rw [hE]
  rw [scB_all] at ho
  exact ⟨_, rfl, ho, hb⟩
theorem PathR.root {s : ByteArray} {w : World} (h : bs s = [47]) : PathR s w (.returned (.tuple #[.slice (some ⟨w.heap.size, 0, none⟩) 0 0, .bool true])) (w.alloc madeS) := by
  unfold PathR; rw [h]
  have e : pathP [47] = some [] := by decide
  rw [e]
  exact ⟨_, rfl, Own.made (Nat.le_refl _), (Below.refl _ _).alloc (Nat.le_refl _) _⟩
set_option maxHeartbeats 4000000 in
set_option maxRecDepth 100000 in
theorem sPathParts_any (s : ByteArray) (w : World) (hs : s.size ≤ 1048576) : Calls Tryd.prog 84 #[.string s] w (PathR s w) := by
  cases h1 : (s.toList == [47])
  case true =>
    have HE := Lib.hid (show bs s = [47] by rw [ByteArray.toList_eq] at h1; exact beq_iff_eq.1 h1)
    go_enter Tryd.func84, Tryd.ntmps84
    go_wp2
    go_ret2
    exact PathR.root HE.out
  case false =>
    have hne47 : bs s ≠ [47] := fun e => by rw [ByteArray.toList_eq] at h1; change (bs s == [47]) = false at h1; rw [e] at h1; cases h1
    have HSC := Lib.hid (fun h0 => path_scan (s := bs s) h0 hne47)
    have HSZ := Lib.hid (show s.size ≤ 1048576 from hs)
    clear hne47
    go_enter Tryd.func84, Tryd.ntmps84
    go_wp2_with fail
    go_loopw [4, 5] (fun v i wr => ∃ (k : Nat), k ≤ s.size ∧ i = .int .i64 k ∧ Hid (Own wr w.heap.size 9 1 encS v (scB s k)) ∧ Hid (Below w.heap.size w wr)) (fun _ i _ => s.size - (intOf i).toNat)
    case atStart => exact ⟨0, Nat.zero_le _, rfl, Own.made (Nat.le_refl _), (Below.refl _ _).alloc (Nat.le_refl _) _⟩
    case round =>
      obtain ⟨k, hk, rfl, HO, HBW⟩ := hrel
      obtain ⟨hL1, hL2⟩ := scB_len s k hk
      by_cases hlt : k < s.size
      · have hin : (k : Int) < (s.size : Int) := by omega
        by_cases hc : s[k] = 47
        · have HN := Lib.hid (scB_slash hlt hc)
          have hcn : ((s[k].toNat : Nat) : Int) = 47 := by rw [hc]; rfl
          have HL := Lib.hid (show (scB s k).length ≤ 16777216 by omega)
          clear hL2 hc hL1
          generalize scB s k = ls at *
          go_wp2_with (at_builtin; refine app_str (w0 := w) (y := ⟨#[]⟩) rfl rfl (by rfl) (by rfl) HO.out HBW.out HL.out ?_; intro v6 w6 hown6 hb6; have HO6 := Lib.hid hown6; have HB6 := Lib.hid hb6; clear hown6 hb6)
          go_roundw
          case rel => exact ⟨k + 1, by omega, by go_num, by rw [HN.out]; exact HO6.out, HB6.out⟩
          case measure => simp [intOf]; omega
        · have hcn : ¬ ((s[k].toNat : Nat) : Int) = 47 := fun e => hc (UInt8.toNat_inj.1 (show s[k].toNat = 47 by omega))
          by_cases h0 : (scB s k).length = 0
          · have HN := Lib.hid (scB_none hlt hc h0)
            clear hL2 hc hL1
            generalize scB s k = ls at *
            obtain ⟨X, d, rfl, _, _, _⟩ := HO.out.sl
            have h0' : ¬ (0 : Int) < (ls.length : Int) := by omega
            go_wp2
            go_roundw
            case rel => exact ⟨k + 1, by omega, by go_num, by rw [HN.out]; exact HO.out, HBW.out⟩
            case measure => simp [intOf]; omega
          · have hll : (scB s k).length - 1 < (scB s k).length := by omega
            have HN := Lib.hid (scB_some hlt hc _ (List.getElem?_eq_getElem hll))
            have hys := hL2 _ (List.getElem_mem hll)
            clear hL2 hc
            generalize scB s k = ls at *
            have hp1 : (1 : Int) ≤ (ls.length : Int) := by omega
            have hp2 : 0 < ls.length := by omega
            have hp3 : (0 : Int) < (ls.length : Int) := by omega
            obtain ⟨g, cap, rfl, hg, hcap, _, _⟩ := HO.out.row hp2
            obtain ⟨b3, o3, e, hc0⟩ := HO.out.sl'.getS hll
            injection e with e; injection e with e1 e2
            subst e1 e2
            simp only [Nat.zero_add] at hc0
            have hfz := HO.out.free' (ls.length - 1)
            have hxs : (s.extract k (k + 1)).size ≤ 1 := by rw [ByteArray.size_extract]; omega
            have hq := str_add (x := ls[ls.length - 1]) (y := s.extract k (k + 1)) (by omega) (by omega)
            have hset := HO.out.setEl (fun _ => rfl) (by omega) (i := ls.length - 1) (by omega) (ls[ls.length - 1] ++ s.extract k (k + 1))
            rw [← HN.out] at hset
            have hse : setAll wr g ((ls.length - 1) * 1) (encS (ls[ls.length - 1] ++ s.extract k (k + 1))) = wr.setCell ⟨g, ls.length - 1, none⟩ (.string (ls[ls.length - 1] ++ s.extract k (k + 1))) := by rw [Nat.mul_one]; rfl
            rw [hse] at hset
            have HSET := Lib.hid hset
            have HB6 := Lib.hid (HBW.out.setCell (p := ⟨g, ls.length - 1, none⟩) hg (.string (ls[ls.length - 1] ++ s.extract k (k + 1))))
            clear hset hse HN
            generalize ls[ls.length - 1] = y at *
            go_wp2_with fail
            go_region
            all_goals
              go_wp2
              go_roundw
              case rel => exact ⟨k + 1, by omega, by go_num, by first | exact HSET.out | exact HSET.out.drew, by first | exact HB6.out | exact HB6.out.drew⟩
              case measure => simp [intOf]; omega
      · obtain rfl : k = s.size := by omega
        by_cases h0 : s.size = 0
        · have hnil := nil_tl h0
          have HE := Lib.hid (show pathP (bs s) = none by rw [show bs s = [] from List.eq_nil_of_length_eq_zero (by rw [size_bs]; exact h0)]; exact path_nil)
          go_wp2
          go_ret2
          exact PathR.made HE.out HBW.out
        · obtain ⟨hne, hne2⟩ := ne_tl (s := s) (by omega)
          have hsc := HSC.out (fun e => h0 (by rw [← size_bs s, e]; rfl))
          have hJ := fun X d w h => sJoinPath_any X d (scB s s.size) w h (by omega) (fun p hp => by have := hL2 p hp; omega)
          rw [scB_full] at hJ
          obtain ⟨X, d, rfl, _, HSL, _⟩ := HO.out.sl
          have HS1 := Lib.hid HSL
          have HO1 := Lib.hid HO.out
          clear HO HSL
          generalize hln : (scB s s.size).length = n at *
          by_cases he : joinP (scanL (bs s)) = bs s
          · rw [if_pos he] at hsc
            have HE := Lib.hid hsc
            have heq : ((mk (joinP (scanL (bs s)))).toList == s.toList) = true := by rw [eq_tlx]; exact beq_iff_eq.2 he
            generalize mk (joinP (scanL (bs s))) = JJ at *
            have HJ := Lib.hid hJ
            clear hJ hsc he hL1 hL2
            go_wp2_with (go_at_call 104; refine (HJ.out _ _ _ HS1.out).mono ?_; rintro e w' ⟨rfl, rfl⟩)
            go_ret2
            exact PathR.yes HE.out HO1.out HBW.out
          · rw [if_neg he] at hsc
            have HE := Lib.hid hsc
            have heq : ((mk (joinP (scanL (bs s)))).toList == s.toList) = false := by rw [eq_tlx]; exact beq_eq_false_iff_ne.2 he
            generalize mk (joinP (scanL (bs s))) = JJ at *
            have HJ := Lib.hid hJ
            clear hJ hsc he hL1 hL2
            go_wp2_with (go_at_call 104; refine (HJ.out _ _ _ HS1.out).mono ?_; rintro e w' ⟨rfl, rfl⟩)
            go_ret2
            exact PathR.made HE.out HBW.out
end Go.Proofs.YtaghiefokmapmaaDoor

/- JoinPath and PathParts of the program: the library's Join and SplitN at a slash. -/
set_option linter.unusedVariables false
namespace Go.Proofs.YtaghiefokmapmaaDoor
open Go.RowKit
--BEGIN
theorem splitS_len (s : Bs) : 1 ≤ (splitS 47 s).length ∧ (splitS 47 s).length ≤ s.length + 1 := by
  induction s with
  | nil => simp [splitS]
  | cons c r ih =>
    rw [splitS]
    split
    · simp; omega
    · split
      · rename_i p ps h; rw [h] at ih; simp at ih ⊢; omega
      · simp
theorem splitK_splitS : ∀ (s : Bs) (k : Nat), (splitS 47 s).length ≤ k + 1 → Go.Lib.splitK [47] 0 k s = splitS 47 s
  | [], k, _ => by cases k <;> simp [Go.Lib.splitK, splitS, index_nil]
  | c :: r, k, h => by
    rw [splitS] at h ⊢
    by_cases e : c = 47
    · subst e
      rw [if_pos rfl] at h ⊢
      have := (splitS_len r).1
      cases k with
      | zero => rw [List.length_cons] at h; omega
      | succ k => rw [splitK_hit, splitK_splitS r k (by simpa using h)]
    · rw [if_neg e] at h ⊢
      rw [splitK_skip e, splitK_splitS r k ?_]
      · cases hs : splitS 47 r with
        | nil => exact absurd hs (splitS_ne 47 r)
        | cons p ps => rfl
      · cases hs : splitS 47 r with
        | nil => exact absurd hs (splitS_ne 47 r)
        | cons p ps => rw [hs] at h; simpa using h
def partsB (s : ByteArray) : List ByteArray := Go.Lib.splitB ⟨#[47]⟩ 0 (min 4 (s.size + 1) - 1) s
theorem partsB_map (s : ByteArray) : (partsB s).map bs = Go.Lib.splitK [47] 0 (min 4 (s.size + 1) - 1) (bs s) := Go.Lib.splitB_data ⟨#[47]⟩ 0 _ s
theorem partsB_len (s : ByteArray) : (partsB s).length ≤ min 4 (s.size + 1) := by
  have := Go.Lib.splitB_length_le ⟨#[47]⟩ 0 (min 4 (s.size + 1) - 1) s
  unfold partsB; omega
theorem pathP_back {s : Bs} {ps : List Bs} (h0 : s ≠ []) (h : joinP ps = s) : pathP s = some ps := by
  cases hv : partsV ps
  · unfold joinP at h; rw [hv] at h; exact absurd h.symm h0
  · rw [← h]; exact pathP_of hv
theorem path_parts {r : ByteArray} {s : Bs} (hs : s = 47 :: bs r) (h1 : s ≠ [47]) : (pathP s).isSome = decide (joinP ((partsB r).map bs) = s) := by
  have h0 : s ≠ [] := by rw [hs]; simp
  by_cases hj : joinP ((partsB r).map bs) = s
  · rw [pathP_back h0 hj, decide_eq_true hj]; rfl
  · rw [decide_eq_false hj]
    unfold pathP
    rw [if_neg h1, hs]
    rw [List.headD_cons, List.tail_cons, if_pos rfl]
    by_cases hv : partsV (splitS 47 (bs r)) = true
    case neg => rw [if_neg hv]; rfl
    case pos =>
      exfalso
      apply hj
      have hl := (partsV_iff.1 hv).1
      have h2 := (splitS_len (bs r)).2
      have h3 := size_bs r
      rw [partsB_map, splitK_splitS _ _ (by omega)]
      unfold joinP
      rw [hv, if_pos rfl, if_neg (splitS_ne _ _), joinB_split, hs]
theorem joinB_join (p : Bs) (r : List Bs) : 47 :: Go.Lib.join (p :: r) [47] = joinB (p :: r) := by
  induction r generalizing p with
  | nil => rw [Go.Lib.join_one]; simp [joinB]
  | cons q t ih =>
    have e : Go.Lib.join (p :: q :: t) [47] = p ++ 47 :: Go.Lib.join (q :: t) [47] := by simp [Go.Lib.join, List.intercalate]
    rw [e, ih q]; simp [joinB]
theorem joinB_size : ∀ (l : List ByteArray), (∀ p ∈ l, p.size ≤ 8) → (joinB (l.map bs)).length ≤ 9 * l.length
  | [], _ => by simp [joinB]
  | p :: r, h => by
    have ih := joinB_size r fun x hx => h x (by simp [hx])
    have hp := h p (by simp)
    have e : joinB ((p :: r).map bs) = 47 :: (bs p ++ joinB (r.map bs)) := by simp [joinB]
    rw [e, List.length_cons, List.length_append, List.length_cons, size_bs]
    omega
def joinT (l : List ByteArray) : ByteArray := mk (Go.Lib.join (l.map bs) [47])
theorem joinT_all {l : List ByteArray} (h3 : l.length ≤ 3) (h : ∀ j (hj : j < l.length), wordV (bs l[j]) = true) : mk [47] ++ joinT l = mk (joinP (l.map bs)) := by
  unfold joinP joinT
  rw [joinP_good h3 h, if_pos rfl, mk_append]
  cases l with
  | nil => rfl
  | cons p r => rw [if_neg (by simp)]; exact congrArg mk (joinB_join (bs p) (r.map bs))
theorem joinT_size {l : List ByteArray} (h3 : l.length ≤ 3) (h : ∀ p ∈ l, p.size ≤ 8) : (joinT l).size ≤ 27 := by
  unfold joinT
  rw [mk_size]
  cases l with
  | nil => simp [Go.Lib.join, List.intercalate]
  | cons p r =>
    have h1 := congrArg List.length (joinB_join (bs p) (r.map bs))
    have h2 := joinB_size (p :: r) h
    rw [List.length_cons] at h1
    simp only [List.map_cons, List.length_cons] at h1 h2 h3 ⊢
    omega
--END
theorem cell_lt {w : World} {b o : Nat} {v : Value} (h : w.cell? ⟨b, o, none⟩ = some v) : b < w.heap.size := by
  by_cases hb : b < w.heap.size
  · exact hb
  · have : w.heap[b]? = none := Array.getElem?_eq_none (by omega)
    simp [World.cell?, this] at h
end Go.Proofs.YtaghiefokmapmaaDoor

/- PathParts and QuotasValid of the program, walked. -/
set_option linter.unusedVariables false
namespace Go.Proofs.YtaghiefokmapmaaDoor
open Go.RowKit
theorem pre_yes (r : Bs) : Go.Lib.hasPrefix (47 :: r) [47] = true ∧ Go.Lib.trimPrefix (47 :: r) [47] = r := by
  constructor
  · simp [Go.Lib.hasPrefix]
  · simp [Go.Lib.trimPrefix, Go.Lib.hasPrefix]
theorem pre_no {s : Bs} (h : s.headD 0 ≠ 47) : Go.Lib.hasPrefix s [47] = false := by
  cases s with
  | nil => rfl
  | cons x r =>
    simp at h
    have h2 : ((47 : UInt8) == x) = false := beq_eq_false_iff_ne.2 (fun e => h (Eq.symm e))
    show ((47 : UInt8) == x && ([] : Bs).isPrefixOf r) = false
    rw [h2]; rfl
theorem path_head {s : Bs} (h1 : s ≠ [47]) (h : s.headD 0 ≠ 47) : pathP s = none := by
  unfold pathP; rw [if_neg h1, if_neg h]
theorem head_cons {s : ByteArray} (h : (bs s).headD 0 = 47) : ∃ r : ByteArray, bs s = 47 :: bs r ∧ r.size ≤ s.size := by
  cases hs : bs s with
  | nil => rw [hs] at h; exact absurd h (by decide)
  | cons x r =>
    rw [hs] at h; simp at h; subst h
    refine ⟨mk r, rfl, ?_⟩
    have := size_bs s
    rw [hs] at this; rw [mk_size]; simp at this; omega
theorem CutSl_yes {s r : ByteArray} (w : World) (h : bs s = 47 :: bs r) : Calls Tryd.prog 80 #[.string s, .string ⟨#[47]⟩] w fun e w' => e = .returned (.tuple #[.string r, .bool true]) ∧ w = w' := by
  refine (Tryd.strings_CutPrefix s ⟨#[47]⟩ w).mono fun e w' ⟨h1, h2⟩ => ⟨?_, h2.symm⟩
  rw [h1]
  have e1 : s.data.toList = 47 :: bs r := h
  rw [e1]
  have h3 := pre_yes (bs r)
  rw [show (⟨#[47]⟩ : ByteArray).data.toList = [47] from rfl, h3.1, h3.2]
theorem CutSl_no {s : ByteArray} (w : World) (h : (bs s).headD 0 ≠ 47) : Calls Tryd.prog 80 #[.string s, .string ⟨#[47]⟩] w fun e w' => (∃ x, e = .returned (.tuple #[.string x, .bool false])) ∧ w = w' := by
  refine (Tryd.strings_CutPrefix s ⟨#[47]⟩ w).mono fun e w' ⟨h1, h2⟩ => ⟨?_, h2.symm⟩
  rw [h1]
  have h3 := pre_no h
  rw [show (⟨#[47]⟩ : ByteArray).data.toList = [47] from rfl, h3]
  exact ⟨_, rfl⟩
theorem splitK_size : ∀ (s : Bs) (k : Nat) (p : Bs), p ∈ Go.Lib.splitK [47] 0 k s → p.length ≤ s.length
  | [], k, p, hp => by
    have e : Go.Lib.splitK [47] 0 k [] = [[]] := by cases k <;> simp [Go.Lib.splitK, index_nil]
    rw [e] at hp; rw [List.mem_singleton.1 hp]; exact Nat.le_refl _
  | c :: r, k, p, hp => by
    by_cases e : c = 47
    · subst e
      cases k with
      | zero =>
        have e : Go.Lib.splitK [47] 0 0 (47 :: r) = [47 :: r] := rfl
        rw [e] at hp; rw [List.mem_singleton.1 hp]; exact Nat.le_refl _
      | succ k =>
        rw [splitK_hit] at hp
        rcases List.mem_cons.1 hp with h | h
        · rw [h]; exact Nat.zero_le _
        · exact Nat.le_trans (splitK_size r k p h) (Nat.le_succ _)
    · rw [splitK_skip e] at hp
      have ih := splitK_size r k
      cases hs : Go.Lib.splitK [47] 0 k r with
      | nil => exact absurd hs (splitK_ne _ _ _)
      | cons q t =>
        rw [hs] at hp ih
        rcases List.mem_cons.1 hp with h | h
        · rw [h, List.length_cons, List.length_cons]; exact Nat.succ_le_succ (ih q (by simp))
        · exact Nat.le_trans (ih p (by simp [h])) (Nat.le_succ _)
theorem partsB_size {r p : ByteArray} (h : p ∈ partsB r) : p.size ≤ r.size := by
  have h2 : bs p ∈ (partsB r).map bs := List.mem_map.2 ⟨p, h, rfl⟩
  rw [partsB_map] at h2
  exact splitK_size _ _ _ h2
def PathI (s : ByteArray) (w : World) (e : Ending) (w' : World) : Prop := ∃ v, e = .returned (.tuple #[v, .bool (pathP (bs s)).isSome]) ∧ Below w.heap.size w w'
/-- The program's PathParts: the parts, as a slice, and whether there are some. -/
def PathS (s : ByteArray) (w : World) (e : Ending) (w' : World) : Prop :=
  ∃ (l : List ByteArray) (A : Option Addr) (c : Nat), l = ((pathP (bs s)).getD []).map mk ∧ e = .returned (.tuple #[.slice A l.length c, .bool (pathP (bs s)).isSome]) ∧ l.length ≤ c ∧ Sl w' encS 1 A l ∧ Below w.heap.size w w'
theorem PathS.bool {s : ByteArray} {w w' : World} {e : Ending} (h : PathS s w e w') : PathI s w e w' := by
  obtain ⟨l, A, c, _, rfl, _, _, hb⟩ := h
  exact ⟨_, rfl, hb⟩
theorem PathS.no {s : ByteArray} {w w' : World} (h : pathP (bs s) = none) (hb : Below w.heap.size w w') : PathS s w (.returned (.tuple #[.slice none 0 0, .bool false])) w' := by
  refine ⟨[], none, 0, by rw [h]; rfl, by rw [h]; rfl, Nat.le_refl _, Sl.none_, hb⟩
theorem PathS.root {s : ByteArray} {w w' : World} (h : pathP (bs s) = some []) (hb : Below w.heap.size w w') : PathS s w (.returned (.tuple #[.slice none 0 0, .bool true])) w' := by
  refine ⟨[], none, 0, by rw [h]; rfl, by rw [h]; rfl, Nat.le_refl _, Sl.none_, hb⟩
theorem map_mk_bs (l : List ByteArray) : (l.map bs).map mk = l := by
  rw [List.map_map]
  exact (List.map_congr_left fun x _ => mk_tx x).trans (List.map_id _)
theorem PathS.yes {s : ByteArray} {l : List ByteArray} {w w' : World} {A : Option Addr} {c : Nat} (h : pathP (bs s) = some (l.map bs)) (hle : l.length ≤ c) (hsl : Sl w' encS 1 A l) (hb : Below w.heap.size w w') : PathS s w (.returned (.tuple #[.slice A l.length c, .bool true])) w' := by
  refine ⟨l, A, c, by rw [h, Option.getD_some, map_mk_bs], by rw [h]; rfl, hle, hsl, hb⟩
theorem path_parts_no {r : ByteArray} {s : Bs} (hs : s = 47 :: bs r) (h1 : s ≠ [47]) (h : ¬ joinP ((partsB r).map bs) = s) : pathP s = none := by
  have := path_parts hs h1
  rw [decide_eq_false h] at this
  cases hp : pathP s with
  | none => rfl
  | some x => rw [hp] at this; cases this
end Go.Proofs.YtaghiefokmapmaaDoor

/- Walks by names: files, WalkTo, ReadAt. -/
set_option linter.unusedVariables false
namespace Go.Proofs.YtaghiefokmapmaaDoor
open Go.RowKit
def FoRes (r : Option Bs) (w : World) (e : Ending) (w' : World) : Prop := e = .returned (.tuple #[.string (mk (r.getD [])), .bool r.isSome]) ∧ Below w.heap.size w w'
def WkRes (r : Option Int) (w : World) (e : Ending) (w' : World) : Prop := e = .returned (.tuple #[.int .i64 (r.getD (-1)), .bool r.isSome]) ∧ Below w.heap.size w w'
theorem WkRes.no {r : Option Int} (h : r = none) {w w' : World} (hb : Below w.heap.size w w') : WkRes r w (.returned (.tuple #[.int .i64 (-1), .bool false])) w' := by
  subst h; exact ⟨rfl, hb⟩
theorem WkRes.yes {r : Option Int} {p : Int} (h : r = some p) {w w' : World} (hb : Below w.heap.size w w') : WkRes r w (.returned (.tuple #[.int .i64 p, .bool true])) w' := by
  subst h; exact ⟨rfl, hb⟩
theorem pathParts_len {s : Bs} {l : List ByteArray} (h : l = ((pathP s).getD []).map mk) : l.length ≤ 3 := by
  subst h
  rw [List.length_map]
  cases hp : pathP s with
  | none => simp
  | some ps => exact (partsV_iff.1 (pathP_join hp).1).1
theorem walkTo_store_yes {s : List Pc} {root p : Int} {path : Bs} (h : walkTo s root path = some p) : storeV s = true := by
  cases hv : storeV s
  · rw [walkTo_store hv] at h; cases h
  · rfl
end Go.Proofs.YtaghiefokmapmaaDoor

/- Walks by names, the reference's: GetText, l9Walk, WalkTo, ReadAt. -/
set_option linter.unusedVariables false
namespace Go.Proofs.YtaghiefokmapmaaDoor
open Go.RowKit
set_option maxHeartbeats 1000000 in
set_option maxRecDepth 100000 in
theorem sGetText_any (A : Option Addr) (c : Nat) (l : List Pc) (p : Int) (w : World) (hs : Sl w encP 2 A l) (hl : l.length ≤ 16777216) (hf : FitP l) :
    Calls Tryd.prog 100 #[.slice A l.length c, .int .i64 p] w (GtRes (if storeV l then getT l p else none) w) := by
  have HS := Lib.hid hs
  have hSV := fun w h => sStoreValid_any A c l w h hl hf
  have hG := fun w h => sl4Get_any A c l p w h hl
  unfold GtRes
  clear hs
  cases hv : storeV l
  · rw [hv] at hSV
    have HSV := Lib.hid hSV
    clear hSV hG hv
    go_enter Tryd.func100, Tryd.ntmps100
    go_wp2_with fail
    refine (HSV.out _ HS.out).mono ?_
    rintro e w1 ⟨rfl, hb⟩
    have HB := Lib.hid hb
    clear hb
    go_wp2
    go_ret2
    exact ⟨rfl, HB.out⟩
  · rw [hv] at hSV
    rw [if_pos rfl]
    generalize getT l p = R at *
    generalize R.getD ⟨#[]⟩ = TT at *
    generalize R.isSome = B at *
    have HSV := Lib.hid hSV
    have HG := Lib.hid hG
    clear hSV hv hG
    go_enter Tryd.func100, Tryd.ntmps100
    go_wp2_with fail
    refine (HSV.out _ HS.out).mono ?_
    rintro e w1 ⟨rfl, hb⟩
    have HB := Lib.hid hb
    have HS1 := Lib.hid (HS.out.below hb)
    clear hb
    go_wp2_with (go_at_call 40; refine (HG.out _ HS1.out).mono ?_; rintro e w' ⟨rfl, rfl⟩)
    go_ret2
    exact ⟨rfl, HB.out⟩
def folT (t : ByteArray) : List En := (readF (bs t)).getD []
theorem folT_of {l : List Pc} {p : Int} : folT ((getT l p).getD ⟨#[]⟩) = (folderOf l p).getD [] := by
  unfold folT folderOf
  cases getT l p with
  | none => rfl
  | some t => rfl
theorem folT_some {l : List Pc} {p : Int} : (readF (bs ((getT l p).getD ⟨#[]⟩))).isSome = (folderOf l p).isSome := by
  unfold folderOf
  cases getT l p with
  | none => rfl
  | some t => rfl
theorem getT_size {l : List Pc} (hv : storeV l = true) {p : Int} : ((getT l p).getD ⟨#[]⟩).size ≤ 1048576 := by
  cases hg : getT l p with
  | none => decide
  | some t => exact Nat.le_trans (textV_size (getT_valid hv hg).1) (by omega)
/-- A name is looked up in no folder: nothing is found. -/
theorem bindE {l : List Pc} {p : Int} {n : Bs} : ((folderOf l p).bind fun e => getE e n) = getE ((folderOf l p).getD []) n := by
  cases folderOf l p with
  | none => rfl
  | some e => rfl
theorem walkB_none2 {s : List Pc} {p : Int} {l : List ByteArray} {k : Nat} (hk : k < l.length) (h : getE ((folderOf s p).getD []) (tx l[k]) = none) : walkB s p (l.drop k) = none := by
  cases hf : folderOf s p with
  | none => exact walkB_none hk hf
  | some e => rw [hf] at h; exact walkB_miss hk hf h
theorem walkB_next2 {s : List Pc} {p q : Int} {l : List ByteArray} {k : Nat} (hk : k < l.length) (h : getE ((folderOf s p).getD []) (tx l[k]) = some q) : walkB s p (l.drop k) = walkB s q (l.drop (k + 1)) := by
  cases hf : folderOf s p with
  | none => rw [hf] at h; cases h
  | some e => rw [hf] at h; exact walkB_next hk hf h
set_option maxHeartbeats 4000000 in
set_option maxRecDepth 100000 in
theorem sl9Walk_any (A PA : Option Addr) (c pc : Nat) (l : List Pc) (pl : List ByteArray) (root : Int) (w : World) (hs : Sl w encP 2 A l) (hps : Sl w encS 1 PA pl) (hv : storeV l = true) (hp : pl.length ≤ 3) :
    Calls Tryd.prog 85 #[.slice A l.length c, .int .i64 root, .slice PA pl.length pc] w (WkRes (walkB l root (pl.drop 0)) w) := by
  have HS2 := Lib.hid hs
  have HPS2 := Lib.hid hps
  have HF := Lib.hid hv
  have hl : l.length ≤ 16777216 := by have := storeV_len hv; omega
  have HG := Lib.hid (fun p w h => sl4Get_any A c l p w h hl)
  generalize hE : walkB l root (pl.drop 0) = R
  have HE := Lib.hid hE.symm
  clear hs hps hv hE
  go_enter Tryd.func85, Tryd.ntmps85
  go_wp2_with fail
  go_loopw [1, 8] (fun va vi wr => ∃ (k : Nat) (at_ : Int), k ≤ pl.length ∧ va = .int .i64 at_ ∧ vi = .int .i64 k ∧ Hid (R = walkB l at_ (pl.drop k)) ∧ Hid (Below w.heap.size w wr)) (fun _ vi _ => pl.length - (intOf vi).toNat)
  case atStart => exact ⟨0, root, Nat.zero_le _, rfl, rfl, HE.out, Below.refl _ _⟩
  case round =>
    obtain ⟨k, at_, hk, rfl, rfl, HW, HBW⟩ := hrel
    have HSW := Lib.hid (HS2.out.below HBW.out)
    have HPW := Lib.hid (HPS2.out.below HBW.out)
    have hGA := HG.out at_
    by_cases hlt : k < pl.length
    · obtain ⟨bp, op, rfl, hc⟩ := HPW.out.getS hlt
      have hsz := getT_size HF.out (p := at_)
      have hRF := fun w => sReadFolder_any ((getT l at_).getD ⟨#[]⟩) w hsz
      have HNO := Lib.hid (fun h => HW.out.trans (walkB_none2 (s := l) (p := at_) hlt h))
      have HYES := Lib.hid (fun q h => HW.out.trans (walkB_next2 (q := q) (s := l) (p := at_) hlt h))
      have hFT := folT_of (l := l) (p := at_)
      have hen3 : ((folderOf l at_).getD []).length ≤ 3 := folder_len
      have hSome := folT_some (l := l) (p := at_)
      have hcase : (folderOf l at_).isSome = true ∨ ((folderOf l at_).isSome = false ∧ ((folderOf l at_).getD []) = []) := by
        cases folderOf l at_ with
        | none => exact .inr ⟨rfl, rfl⟩
        | some e => exact .inl rfl
      unfold RfRes at hRF
      unfold folT at hFT
      rw [hFT, hSome] at hRF
      generalize (folderOf l at_).getD [] = en at *
      generalize (folderOf l at_).isSome = okf at *
      generalize (getT l at_).getD ⟨#[]⟩ = TT at *
      generalize (getT l at_).isSome = okg at *
      have HRF := Lib.hid hRF
      have HGA := Lib.hid hGA
      clear hRF hGA hFT hSome hsz
      generalize pl[k] = nm at *
      go_wp2_with (go_at_call 40; refine (HGA.out _ HSW.out).mono ?_; rintro e w' ⟨rfl, rfl⟩)
      refine (HRF.out _).mono ?_
      rintro e w3 ⟨v3, rfl, hown3, hb3⟩
      obtain ⟨A3, c3, rfl, _, hs3, _⟩ := hown3.sl
      have HX3 := Lib.hid hs3
      have HB3 := Lib.hid (Below_then HBW.out hb3 (Nat.le_refl _))
      have hc3 := Below_cells hb3 _ _ _ hc
      clear hown3 hb3 hs3
      go_wp2_with fail
      go_loopw [1, 13, 14] (fun va vf vj wr => ∃ (j : Nat), j ≤ en.length ∧ va = .int .i64 at_ ∧ vf = .bool false ∧ vj = .int .i64 j ∧ Hid (∀ i (h : i < en.length), i < j → tx en[i].1 ≠ tx nm) ∧ Hid (Below w3.heap.size w3 wr)) (fun _ _ vj _ => en.length - (intOf vj).toNat)
      case atStart => exact ⟨0, Nat.zero_le _, rfl, rfl, rfl, fun i h h2 => by omega, Below.refl _ _⟩
      case round =>
        obtain ⟨j, hj, rfl, rfl, rfl, HJ, HBJ⟩ := hrel
        have HB4 := Lib.hid (Below_then HB3.out HBJ.out (Nat.le_refl _))
        have hd := Below_cells HBJ.out _ _ _ hc3
        by_cases hjl : j < en.length
        · obtain rfl : okf = true := by
            rcases hcase with h | ⟨_, h⟩
            · exact h
            · rw [h] at hjl; exact absurd hjl (by simp)
          obtain ⟨b2, o2, rfl, hy0, hy1⟩ := (HX3.out.below HBJ.out).getE hjl
          have hkl : (k : Int) < (pl.length : Int) := by omega
          have hjl' : (j : Int) < (en.length : Int) := by omega
          cases heq : (en[j].1.toList == nm.toList)
          · have hne : tx en[j].1 ≠ tx nm := by rw [eq_tlx] at heq; exact beq_eq_false_iff_ne.1 heq
            have HNX := Lib.hid (show ∀ i (h : i < en.length), i < j + 1 → tx en[i].1 ≠ tx nm from fun i h h2 => by
              by_cases e : i = j
              · subst e; exact hne
              · exact HJ.out i h (by omega))
            clear hne
            generalize en[j] = q at *
            obtain ⟨t, a⟩ := q
            simp only at *
            go_wp2_with fail
            go_quiet (fail)
            all_goals
              go_wp2
              go_round
              case rel => exact ⟨j + 1, by omega, rfl, rfl, by go_num, HNX.out, Below_drewN HBJ.out _⟩
              case measure => simp [intOf]; omega
          · have he : tx en[j].1 = tx nm := by rw [eq_tlx] at heq; exact beq_iff_eq.1 heq
            have HR := Lib.hid (HYES.out _ (getE_find hjl HJ.out he))
            clear he
            generalize en[j] = q at *
            obtain ⟨t, a⟩ := q
            simp only at *
            go_wp2_with fail
            go_quiet (fail)
            all_goals
              go_wp2
              go_roundw
              case rel => exact ⟨k + 1, a, by omega, rfl, by go_num, HR.out, Below_drewN HB4.out _⟩
              case measure => simp [intOf]; omega
        · have hjk : ¬ (j : Int) < (en.length : Int) := by omega
          have HR := Lib.hid (HNO.out (getE_end fun i h => HJ.out i h (by omega)))
          go_wp2
          go_ret2
          exact WkRes.no HR.out HB4.out
    · have hE2 := HW.out.trans (walkB_end (by omega))
      cases hg : getT l at_ with
      | none =>
        rw [hg] at hGA hE2
        have HGA := Lib.hid hGA
        have HE2 := Lib.hid (show R = none from hE2)
        clear hGA hE2 hg
        go_wp2_with (go_at_call 40; refine (HGA.out _ HSW.out).mono ?_; rintro e w' ⟨rfl, rfl⟩)
        go_ret2
        exact WkRes.no HE2.out HBW.out
      | some t =>
        rw [hg] at hGA hE2
        have HGA := Lib.hid hGA
        have HE2 := Lib.hid (show R = some at_ from hE2)
        clear hGA hE2 hg
        go_wp2_with (go_at_call 40; refine (HGA.out _ HSW.out).mono ?_; rintro e w' ⟨rfl, rfl⟩)
        go_ret2
        exact WkRes.yes HE2.out HBW.out
set_option maxHeartbeats 4000000 in
set_option maxRecDepth 100000 in
theorem sWalkTo_any (A : Option Addr) (c : Nat) (l : List Pc) (root : Int) (path : ByteArray) (w : World) (hs : Sl w encP 2 A l) (hl : l.length ≤ 16777216) (hf : FitP l) (hp : path.size ≤ 1048576) :
    Calls Tryd.prog 99 #[.slice A l.length c, .int .i64 root, .string path] w (WkRes (walkTo l root (bs path)) w) := by
  have HS := Lib.hid hs
  have hP := fun w => sPathParts_any path w hp
  unfold PathR at hP
  have hSV := fun w h => sStoreValid_any A c l w h hl hf
  clear hs
  cases hpp : pathP (bs path) with
  | none =>
    have HE := Lib.hid (walkTo_path (s := l) (root := root) hpp)
    rw [hpp] at hP
    have HP := Lib.hid hP
    clear hP hSV hpp
    go_enter Tryd.func99, Tryd.ntmps99
    go_wp2_with fail
    refine (HP.out _).mono ?_
    rintro e w1 ⟨v1, rfl, hown, hb⟩
    have HB := Lib.hid hb
    clear hb hown
    simp only [Option.isSome_none]
    go_wp2
    go_ret2
    exact WkRes.no HE.out HB.out
  | some ps =>
    have hp3 : (ps.map mk).length ≤ 3 := by rw [List.length_map]; exact (partsV_iff.1 (pathP_join hpp).1).1
    rw [hpp] at hP
    rw [show (some ps).getD [] = ps from rfl] at hP
    cases hv : storeV l
    · have HE := Lib.hid (walkTo_store (root := root) (path := bs path) hv)
      rw [hv] at hSV
      have HSV := Lib.hid hSV
      have HP := Lib.hid hP
      clear hP hSV hpp hv
      go_enter Tryd.func99, Tryd.ntmps99
      go_wp2_with fail
      refine (HP.out _).mono ?_
      rintro e w1 ⟨v1, rfl, hown, hb⟩
      have HB := Lib.hid hb
      have HS1 := Lib.hid (HS.out.below hb)
      clear hb hown
      simp only [Option.isSome_some]
      go_wp2_with fail
      refine (HSV.out _ HS1.out).mono ?_
      rintro e w2 ⟨rfl, hb2⟩
      have HB2 := Lib.hid (Below_then HB.out hb2 (Nat.le_refl _))
      clear hb2
      go_wp2
      go_ret2
      exact WkRes.no HE.out HB2.out
    · rw [hv] at hSV
      have HE := Lib.hid (walkTo_yes (root := root) hv hpp rfl)
      have HV := Lib.hid hv
      have HSV := Lib.hid hSV
      have HP := Lib.hid hP
      clear hP hSV hpp
      generalize ps.map mk = pl at *
      have HN := Lib.hid (fun PA pc w h h2 => sl9Walk_any A PA c pc l pl root w h h2 HV.out hp3)
      unfold WkRes at HN ⊢
      rw [HE.out]
      generalize walkB l root (pl.drop 0) = R at *
      generalize R.getD (-1) = RV at *
      generalize R.isSome = RB at *
      clear HE hv
      go_enter Tryd.func99, Tryd.ntmps99
      go_wp2_with fail
      refine (HP.out _).mono ?_
      rintro e w1 ⟨v1, rfl, hown, hb⟩
      obtain ⟨PA, pc, rfl, _, hps, _⟩ := hown.sl
      have HPS := Lib.hid hps
      have HB := Lib.hid hb
      have HS1 := Lib.hid (HS.out.below hb)
      clear hb hown hps
      simp only [Option.isSome_some]
      go_wp2_with fail
      refine (HSV.out _ HS1.out).mono ?_
      rintro e w2 ⟨rfl, hb2⟩
      have HB2 := Lib.hid (Below_then HB.out hb2 (Nat.le_refl _))
      have HS2 := Lib.hid (HS1.out.below hb2)
      have HPS2 := Lib.hid (HPS.out.below hb2)
      clear hb2
      go_wp2_with fail
      refine (HN.out _ _ _ HS2.out HPS2.out).mono ?_
      rintro e w3 ⟨rfl, hb3⟩
      have HB3 := Lib.hid (Below_then HB2.out hb3 (Nat.le_refl _))
      clear hb3
      go_wp2
      go_ret2
      exact ⟨rfl, HB3.out⟩
set_option maxHeartbeats 4000000 in
set_option maxRecDepth 100000 in
theorem sReadAt_any (A : Option Addr) (c : Nat) (l : List Pc) (root : Int) (path : ByteArray) (w : World) (hs : Sl w encP 2 A l) (hl : l.length ≤ 16777216) (hf : FitP l) (hp : path.size ≤ 1048576) :
    Calls Tryd.prog 77 #[.slice A l.length c, .int .i64 root, .string path] w (FoRes (readAt l root (bs path)) w) := by
  have HS := Lib.hid hs
  have hW := fun w h => sWalkTo_any A c l root path w h hl hf hp
  have hG := fun p w h => sGetText_any A c l p w h hl hf
  clear hs
  unfold WkRes at hW
  unfold GtRes at hG
  unfold readAt
  cases hw : walkTo l root (bs path) with
  | none =>
    rw [hw] at hW
    have HW := Lib.hid hW
    have HG := Lib.hid (hG (-1))
    generalize (if storeV l = true then getT l (-1) else none) = G at *
    generalize G.getD ⟨#[]⟩ = GV at *
    generalize G.isSome = GB at *
    clear hW hw hG
    unfold FoRes
    go_enter Tryd.func77, Tryd.ntmps77
    go_wp2_with fail
    refine (HW.out _ HS.out).mono ?_
    rintro e w1 ⟨rfl, hb⟩
    have HB := Lib.hid hb
    have HS1 := Lib.hid (HS.out.below hb)
    clear hb
    go_wp2_with fail
    refine (HG.out _ HS1.out).mono ?_
    rintro e w2 ⟨rfl, hb2⟩
    have HB2 := Lib.hid (Below_then HB.out hb2 (Nat.le_refl _))
    clear hb2
    go_wp2
    go_ret2
    exact ⟨rfl, HB2.out⟩
  | some q =>
    have hv := walkTo_store_yes hw
    rw [hw] at hW
    have hGQ := hG q
    rw [hv, if_pos rfl] at hGQ
    have hsz := getT_size hv (p := q)
    have hRF := fun w => sReadFile_any ((getT l q).getD ⟨#[]⟩) w (by omega)
    have hfo : readFi (bs ((getT l q).getD ⟨#[]⟩)) = fileOf l q := by
      unfold fileOf
      cases getT l q with
      | none => rfl
      | some t => rfl
    rw [hfo] at hRF
    rw [Option.bind_some]
    unfold FoRes
    unfold RdRes at hRF
    generalize (getT l q).getD ⟨#[]⟩ = GV at *
    generalize (getT l q).isSome = GB at *
    generalize fileOf l q = R at *
    generalize mk (R.getD []) = TT at *
    generalize R.isSome = B at *
    have HRF := Lib.hid hRF
    have HW := Lib.hid hW
    have HG := Lib.hid hGQ
    clear hW hw hG hGQ hRF hfo hv
    go_enter Tryd.func77, Tryd.ntmps77
    go_wp2_with fail
    refine (HW.out _ HS.out).mono ?_
    rintro e w1 ⟨rfl, hb⟩
    have HB := Lib.hid hb
    have HS1 := Lib.hid (HS.out.below hb)
    clear hb
    go_wp2_with fail
    refine (HG.out _ HS1.out).mono ?_
    rintro e w2 ⟨rfl, hb2⟩
    have HB2 := Lib.hid (Below_then HB.out hb2 (Nat.le_refl _))
    clear hb2
    go_wp2_with (go_at_call 60; refine (HRF.out _).mono ?_; rintro e w' ⟨rfl, rfl⟩)
    go_ret2
    exact ⟨rfl, HB2.out⟩
end Go.Proofs.YtaghiefokmapmaaDoor

/- All files below a folder, the program's: filesBelow, AllFiles. -/
set_option linter.unusedVariables false
namespace Go.Proofs.YtaghiefokmapmaaDoor
open Go.RowKit
def RowE (w : World) (g : Nat) (y : En) : Prop := w.cell? ⟨g, 0, none⟩ = some (.string y.1) ∧ w.cell? ⟨g, 1, none⟩ = some (.int .i64 y.2)
theorem RowE.new (w : World) (y : En) : RowE (w.alloc (rowE y)) w.heap.size y := ⟨new_cell rfl, new_cell rfl⟩
theorem RowE.below {w w' : World} {g : Nat} {y : En} (h : RowE w g y) (hb : Below w.heap.size w w') : RowE w' g y := ⟨Below_cells hb _ _ _ h.1, Below_cells hb _ _ _ h.2⟩
theorem StrAt.below {w w' : World} {g : Nat} {y : ByteArray} (h : StrAt w g y) (hb : Below w.heap.size w w') : StrAt w' g y := Below_cells hb _ _ _ h
theorem entOk_size {e : En} (h : entOk e = true) : e.1.size ≤ 8 := by
  have := (entOk_iff.1 h).1
  unfold wordV at this
  rw [Bool.and_eq_true, Bool.and_eq_true, decide_eq_true_eq] at this
  exact this.1.1.2
end Go.Proofs.YtaghiefokmapmaaDoor

/- All files below a folder, the reference's: l11Files, AllFiles. -/
set_option linter.unusedVariables false
namespace Go.Proofs.YtaghiefokmapmaaDoor
open Go.RowKit
section
variable {ops : Array Oper} {o : Oper} {a : Act} {K : Act → World → Prop} {Q : Exit → Act → World → Prop} {E' : Prop} {w0 wr : World} {v : Value}
set_option maxRecDepth 100000 in
theorem step_strK {l m : List ByteArray} {A : Option Addr} {c : Nat} {s x : Operand} (hw : Region.wanted o (yielded ops a.tmps) = true) (ho : o.op = .call { callee := .builtin .append, args := #[s, x], argTypes := #[25, 25] })
    (hown : Own wr w0.heap.size 9 1 encS v l) (hb : Below w0.heap.size w0 wr) (hn : l.length + m.length ≤ 33554432) (hsl : Sl wr encS 1 A m) (hcz : A = none → c = 0)
    (hs : a.eval s = v) (hx : a.eval x = .slice A m.length c)
    (h : ∀ v' w', Own w' w0.heap.size 9 1 encS v' (l ++ m) → Below w0.heap.size w0 w' → Grew v wr w' → Kin v wr v' → K (a.put o.dst v') w') : if Region.wanted o (yielded ops a.tmps) = true then Oper.wp Tryd.prog o a wr K Q else E' := by
  obtain ⟨i0, hi0, hz0, hz1, hz2⟩ := info_parts str_info
  rw [if_pos hw]
  cases A with
  | none =>
    have hm : m = [] := by
      cases m with
      | nil => rfl
      | cons y r => obtain ⟨b, o, e, _⟩ := hsl (by simp); cases e
    subst hm
    rw [hcz rfl] at hx
    have hrun := run_append_owned_none (P := Tryd.prog) (w := wr) w0.heap.size 25 o.type 9 i0 1 Tryd.underlying25 hi0 v l.length (flat encS l) hown
    have hK := h v wr (by rw [List.append_nil]; exact hown) hb (Grew.refl _ _) (fun b _ h => h)
    simp at hx
    unfold Oper.wp
    simp [execOp, ho, resolve, invoke, builtin, hs, hx, hrun, Result.andThen]
    exact hK
  | some ad =>
    obtain ⟨v', w', hr, h2, h3, h4, h5⟩ := run_append_own_at (P := Tryd.prog) wr w0.heap.size 25 o.type 9 i0 _ 1 16 Tryd.underlying25 hi0 hz0 hz1 hz2 rfl (by decide) v l.length (flat encS l) hown ad m.length c (flat encS m) (flat_length (enc := encS) (size := 1) (fun _ => rfl) m) (by
        intro j u hu
        have hpos : 0 < m.length := by
          have hlt := (List.getElem?_eq_some_iff.1 hu).1
          rw [flat_length (enc := encS) (size := 1) (fun _ => rfl)] at hlt
          cases m with
          | nil => simp at hlt
          | cons y r => simp
        obtain ⟨b, o', e, hc⟩ := hsl hpos
        injection e with e
        subst e
        have hadd : (⟨b, o', none⟩ : Addr).add j = ⟨b, o' + j, none⟩ := by unfold Addr.add; split <;> simp_all
        rw [hadd]; exact hc j u hu) (by
        intro u hu
        unfold flat at hu
        obtain ⟨y, _, hy⟩ := List.mem_flatMap.1 hu
        exact oneS y u hy) (by unfold maxLen; omega) (by omega) hb.size
    unfold Oper.wp execOp
    simp only [ho, resolve, invoke, builtin, Sem.run_bind, Sem.run_pure, Result.andThen_ok, List.map_toArray, List.map_cons, List.map_nil, hs, hx, hr]
    refine h v' w' ?_ (hb.grown h3 hb.size (fun k hk => (World.ownsRow.lt hown k hk).1)) h3 ?_
    · show w'.ownsRow _ _ _ v' (l ++ m).length (flat encS (l ++ m))
      rw [flat_append, List.length_append]; exact h2
    · intro b hb2 hne hv'
      rcases h5 with h5 | h5
      · exact hne (h5 ▸ hv')
      · rw [h5] at hv'; injection hv' with e; omega
end
theorem strAt_one (w : World) (t : ByteArray) : StrAt ((w.alloc (.cells #[] 9)).drew.alloc (rowS t)) (w.heap.size + 1) t := by
  have h := StrAt.new (w.alloc (.cells #[] 9)).drew t
  have e : (w.alloc (.cells #[] 9)).drew.heap.size = w.heap.size + 1 := by
    show (w.alloc (.cells #[] 9)).heap.size = _
    simp
  rw [e] at h; exact h
theorem own_one (w : World) (t : ByteArray) : Own ((w.alloc (rowS t)).drew.alloc (.cells #[] 9)) w.heap.size 9 1 encS (.slice (some ⟨w.heap.size + 1, 0, none⟩) 0 0) [] := by
  have e : (w.alloc (rowS t)).drew.heap.size = w.heap.size + 1 := by
    show (w.alloc (rowS t)).heap.size = _
    simp
  have h := Own.made (w := (w.alloc (rowS t)).drew) (base := w.heap.size) (enc := encS) (E := 9) (size := 1) (by omega)
  rw [e] at h; exact h
theorem own_lit {α : Type} {enc : α → List Value} {W : World} {b base size : Nat} {E : TypeId} {l : List α} (he : ∀ x, (enc x).length = size) (h : W.heap[b]? = some (.cells (flat enc l).toArray E (0, 0))) (hb : base ≤ b) (hm : l.length ≤ maxLen) :
    Own W base E size enc (.slice (some ⟨b, 0, none⟩) l.length l.length) l := by
  refine Filled.own ⟨(flat enc l).toArray, h, ?_, ?_, ?_⟩ he hb hm
  · simp [flat_length he]
  · simp [flat_length he]
  · simp
def CellE (w : World) (b o : Nat) (y : En) : Prop := w.cell? ⟨b, o, none⟩ = some (.string y.1) ∧ w.cell? ⟨b, o + 1, none⟩ = some (.int .i64 y.2)
theorem CellE.below {w w' : World} {b o : Nat} {y : En} (h : CellE w b o y) (hb : Below w.heap.size w w') : CellE w' b o y := ⟨Below_cells hb _ _ _ h.1, Below_cells hb _ _ _ h.2⟩
theorem CellE.grew {w w' : World} {b o : Nat} {y : En} {v : Value} (h : CellE w b o y) (hg : Grew v w w') (hv : v.ownBlock ≠ some b) : CellE w' b o y := ⟨hg.cell hv h.1, hg.cell hv h.2⟩
theorem fileOf_text {l : List Pc} {p : Int} : readFi (bs ((getT l p).getD ⟨#[]⟩)) = fileOf l p := by
  unfold fileOf
  cases getT l p with
  | none => rfl
  | some t => rfl
theorem fileOf_got {l : List Pc} {p : Int} (h : (fileOf l p).isSome = true) : (getT l p).isSome = true := by
  unfold fileOf at h
  cases hg : getT l p with
  | none => rw [hg] at h; cases h
  | some t => rfl
theorem folderOf_got {l : List Pc} {p : Int} (h : (folderOf l p).getD [] ≠ []) : (getT l p).isSome = true ∧ (folderOf l p).isSome = true := by
  unfold folderOf at *
  cases hg : getT l p with
  | none => rw [hg] at h; exact absurd rfl h
  | some t =>
    rw [hg] at h
    refine ⟨rfl, ?_⟩
    cases hr : readF (tx t) with
    | none => rw [Option.bind_some, hr] at h; exact absurd rfl h
    | some e => rw [Option.bind_some, hr]; rfl
def L11 (A : Option Addr) (c : Nat) (l : List Pc) (p : Int) (PA : Option Addr) (pc : Nat) (pl : List ByteArray) (w : World) : Prop :=
  Sl w encP 2 A l → Sl w encS 1 PA pl → (PA = none → pc = 0) → (∀ x ∈ pl, x.size ≤ 8) →
    Calls Tryd.prog 101 #[.slice A l.length c, .int .i64 p, .slice PA pl.length pc] w (OwnRes 9 1 encS ((specF l p (pl.map tx)).map mk) w)
set_option maxHeartbeats 16000000 in
set_option maxRecDepth 100000 in
theorem sl11_step (A : Option Addr) (c : Nat) (l : List Pc) (hv : storeV l = true) (pl : List ByteArray) (hl3 : pl.length ≤ 3)
    (ih : pl.length < 3 → ∀ (p : Int) (PA : Option Addr) (pc : Nat) (pl2 : List ByteArray) (w : World), pl2.length = pl.length + 1 → L11 A c l p PA pc pl2 w)
    (p : Int) (PA : Option Addr) (pc : Nat) (w : World) : L11 A c l p PA pc pl w := by
  intro hs hps hcz hsz
  have HS := Lib.hid hs
  have HPS := Lib.hid hps
  have HCZ := Lib.hid hcz
  have HSZ := Lib.hid hsz
  have HIH := Lib.hid ih
  have HV := Lib.hid hv
  have hl : l.length ≤ 16777216 := by have := storeV_len hv; omega
  have hG := fun w h => sl4Get_any A c l p w h hl
  have htz := getT_size hv (p := p)
  have hRF := fun w => sReadFile_any ((getT l p).getD ⟨#[]⟩) w (by omega)
  have hRD := fun w => sReadFolder_any ((getT l p).getD ⟨#[]⟩) w htz
  have hFT := folT_of (l := l) (p := p)
  have hSome := folT_some (l := l) (p := p)
  have hGot := fileOf_got (l := l) (p := p)
  have hFG := folderOf_got (l := l) (p := p)
  have hen3 : ((folderOf l p).getD []).length ≤ 3 := folder_len
  have HOK := Lib.hid (show ∀ e ∈ (folderOf l p).getD [], entOk e = true by
    cases hfo : folderOf l p with
    | none => intro e he; cases he
    | some en => intro e he; exact entsV_ok (folder_valid hfo) he)
  unfold RdRes at hRF
  unfold RfRes at hRD
  unfold folT at hFT
  rw [fileOf_text] at hRF
  rw [hFT, hSome] at hRD
  have hmt : (pl.map tx).length = pl.length := List.length_map ..
  have HFILE := Lib.hid (fun h h2 => specF_file (s := l) (p := p) (ps := pl.map tx) h h2)
  have HR0 := Lib.hid (show ((folderOf l p).getD [] = [] ∨ 3 ≤ pl.length) → ((fileOf l p).isSome = false ∨ pl.map tx = []) → (specF l p (pl.map tx)).map mk = [] from fun h1 h2 => by
    by_cases h3 : 3 ≤ pl.length
    · rw [specF_long h2 (by omega)]; rfl
    · have h4 := h1.resolve_right h3
      rw [specF_folder h2 (by omega), h4]; rfl)
  have HR1 := Lib.hid (show pl.length < 3 → ((fileOf l p).isSome = false ∨ pl.map tx = []) → (specF l p (pl.map tx)).map mk = accF l (2 - pl.length) (pl.map tx) ((folderOf l p).getD []) ((folderOf l p).getD []).length from fun h1 h2 => by
    rw [accF_all (Nat.le_refl _), specF_folder h2 (by omega), hmt])
  have HNEXT := Lib.hid (fun k (hk : k < ((folderOf l p).getD []).length) (h : pl.length < 3) => show accF l (2 - pl.length) (pl.map tx) ((folderOf l p).getD []) (k + 1) = accF l (2 - pl.length) (pl.map tx) ((folderOf l p).getD []) k ++ (specF l (((folderOf l p).getD [])[k]).2 (pl.map tx ++ [tx (((folderOf l p).getD [])[k]).1])).map mk by
    rw [accF_next hk, specF_step (by omega), hmt])
  have HLA := Lib.hid (fun k => accF_len (s := l) (f := 2 - pl.length) (ps := pl.map tx) (l := (folderOf l p).getD []) (k := k) hen3)
  clear hs hps hcz hsz ih hFT hSome htz
  generalize (getT l p).getD ⟨#[]⟩ = TT at *
  generalize (getT l p).isSome = okg at *
  generalize (folderOf l p).getD [] = en at *
  generalize (folderOf l p).isSome = okf at *
  generalize hSP : (specF l p (pl.map tx)).map mk = SP at *
  generalize mk ((fileOf l p).getD []) = CT at *
  generalize (fileOf l p).isSome = okc at *
  have HG := Lib.hid hG
  have HRF := Lib.hid hRF
  have HRD := Lib.hid hRD
  have HSP := Lib.hid hSP
  clear hG hRF hRD hSP
  by_cases hfile : okc = true ∧ 0 < pl.length
  · obtain ⟨rfl, hpos⟩ := hfile
    obtain rfl := hGot rfl
    have hne : pl.map tx ≠ [] := fun e => by rw [← List.length_eq_zero_iff, hmt] at e; omega
    rw [← HSP.out, HFILE.out rfl hne]
    have hJ := fun w h => sJoinPath_any PA pc pl w h (by omega) (fun x hx => Nat.le_trans (HSZ.out x hx) (by omega))
    show Calls _ _ _ _ (OwnRes _ _ _ [mk (joinP (pl.map bs))] _)
    generalize mk (joinP (pl.map bs)) = JP at *
    have HJ := Lib.hid hJ
    clear hJ HR0 HR1 HNEXT HLA
    go_enter Tryd.func101, Tryd.ntmps101
    go_wp2_with (first | (go_at_call 40; refine (HG.out _ HS.out).mono ?_; rintro e w' ⟨rfl, rfl⟩) | (go_at_call 60; refine (HRF.out _).mono ?_; rintro e w' ⟨rfl, rfl⟩) | (go_at_call 104; refine (HJ.out _ HPS.out).mono ?_; rintro e w' ⟨rfl, rfl⟩))
    go_ret
    exact ⟨_, rfl, own_lit (enc := encS) (l := [JP]) (fun _ => rfl) (heap_alloc_new w _) (Nat.le_refl _) (by unfold maxLen; simp), (Below.refl _ _).alloc (Nat.le_refl _) _⟩
  · have hor : okc = false ∨ pl.map tx = [] := by
      cases okc
      · exact .inl rfl
      · right
        have : ¬ 0 < pl.length := fun h => hfile ⟨rfl, h⟩
        rw [← List.length_eq_zero_iff, hmt]; omega
    have hguard : okg = false ∨ (okg = true ∧ okc = false) ∨ (okg = true ∧ okc = true ∧ ¬ 0 < pl.length) := by
      cases okg
      · exact .inl rfl
      · cases okc
        · exact .inr (.inl ⟨rfl, rfl⟩)
        · exact .inr (.inr ⟨rfl, rfl, fun h => hfile ⟨rfl, h⟩⟩)
    have HB := Lib.hid ((Below.refl w.heap.size w).alloc (Nat.le_refl _) (.cells #[] 9))
    have HACC := Lib.hid (((Own.made (enc := encS) (E := 9) (size := 1) (Nat.le_refl w.heap.size))))
    have HR0' := Lib.hid (fun h => HR0.out h hor)
    have HR1' := Lib.hid (fun h => HR1.out h hor)
    clear hfile hor hGot HR0 HR1 HSP HFILE
    by_cases hen : en = []
    · subst hen
      obtain rfl := HR0'.out (.inl rfl)
      clear HR1' HNEXT HLA HR0' HIH
      rcases hguard with rfl | ⟨rfl, rfl⟩ | ⟨rfl, rfl, hnp⟩
      all_goals
        go_enter Tryd.func101, Tryd.ntmps101
        go_wp2_with (first | (go_at_call 40; refine (HG.out _ HS.out).mono ?_; rintro e w' ⟨rfl, rfl⟩) | (go_at_call 60; refine (HRF.out _).mono ?_; rintro e w' ⟨rfl, rfl⟩))
        refine (HRD.out _).mono ?_
        rintro e w2 ⟨v, rfl, hown, hb⟩
        obtain ⟨X, d, rfl, hle, _, _⟩ := hown.sl
        replace HB := Lib.hid (HB.out.trans (hb.mono (by simp)))
        replace HACC := Lib.hid (HACC.out.below hb)
        clear hb hown
        go_wp2_with fail
        go_loopw [11, 14] (fun v i wr => v = .slice (some ⟨w.heap.size, 0, none⟩) 0 0 ∧ i = .int .i64 0 ∧ wr = w2) (fun _ _ _ => 0)
        case atStart => exact ⟨rfl, rfl, rfl⟩
        case round =>
          obtain ⟨rfl, rfl, rfl⟩ := hrel
          go_wp2
          go_ret
          exact ⟨_, rfl, HACC.out, HB.out⟩
    · obtain ⟨rfl, rfl⟩ := hFG hen
      have hpos : (0 : Int) < (en.length : Int) := by have := List.length_pos_iff.2 hen; omega
      by_cases hp3 : pl.length < 3
      case neg =>
        have hp3' : ¬ (pl.length : Int) < 3 := by omega
        obtain rfl := HR0'.out (.inr (by omega))
        clear HR1' HNEXT HLA HR0' HIH
        rcases hguard with h | ⟨_, rfl⟩ | ⟨_, rfl, hnp⟩
        · cases h
        · go_enter Tryd.func101, Tryd.ntmps101
          go_wp2_with (first | (go_at_call 40; refine (HG.out _ HS.out).mono ?_; rintro e w' ⟨rfl, rfl⟩) | (go_at_call 60; refine (HRF.out _).mono ?_; rintro e w' ⟨rfl, rfl⟩))
          refine (HRD.out _).mono ?_
          rintro e w2 ⟨v, rfl, hown, hb⟩
          obtain ⟨X, d, rfl, hle, _, _⟩ := hown.sl
          replace HB := Lib.hid (HB.out.trans (hb.mono (by simp)))
          replace HACC := Lib.hid (HACC.out.below hb)
          clear hb hown
          go_wp2_with fail
          go_loopw [11, 14] (fun v i wr => v = .slice (some ⟨w.heap.size, 0, none⟩) 0 0 ∧ i = .int .i64 0 ∧ wr = w2) (fun _ _ _ => 0)
          case atStart => exact ⟨rfl, rfl, rfl⟩
          case round =>
            obtain ⟨rfl, rfl, rfl⟩ := hrel
            go_wp2
            go_ret
            exact ⟨_, rfl, HACC.out, HB.out⟩
        · omega
      case pos =>
        have hp3' : (pl.length : Int) < 3 := by omega
        rw [HR1'.out hp3]
        have HNX := Lib.hid (fun k hk => HNEXT.out k hk hp3)
        have HI := Lib.hid (HIH.out hp3)
        clear HR1' HNEXT HR0' HIH
        rcases hguard with h | ⟨_, rfl⟩ | ⟨_, rfl, hnp⟩
        · cases h
        all_goals
          go_enter Tryd.func101, Tryd.ntmps101
          go_wp2_with (first | (go_at_call 40; refine (HG.out _ HS.out).mono ?_; rintro e w' ⟨rfl, rfl⟩) | (go_at_call 60; refine (HRF.out _).mono ?_; rintro e w' ⟨rfl, rfl⟩))
          refine (HRD.out _).mono ?_
          rintro e w2 ⟨v, rfl, hown, hb⟩
          obtain ⟨X, d, rfl, hle, _, _⟩ := hown.sl
          have HSX := Lib.hid hown.sl'
          have HLX := Lib.hid hown.ltA
          have HAX := Lib.hid (hown.apart (v := .slice (some ⟨w.heap.size, 0, none⟩) 0 0) (by intro g hg; have hg : some w.heap.size = some g := hg; injection hg with hg; subst hg; simp))
          replace HB := Lib.hid (HB.out.trans (hb.mono (by simp)))
          replace HACC := Lib.hid (HACC.out.below hb)
          clear hb hown
          go_wp2_with fail
          go_loopw [11, 14] (fun v i wr => ∃ (k : Nat), k ≤ en.length ∧ i = .int .i64 k ∧ Own wr w.heap.size 9 1 encS v (accF l (2 - pl.length) (pl.map tx) en k) ∧ Hid (Below w.heap.size w wr) ∧ Hid (Sl wr encE 2 X en) ∧ Hid (Apart X v) ∧ w2.heap.size ≤ wr.heap.size) (fun _ i _ => en.length - (intOf i).toNat)
          case atStart => exact ⟨0, Nat.zero_le _, rfl, HACC.out, HB.out, HSX.out, HAX.out, Nat.le_refl _⟩
          case round =>
            obtain ⟨k, hk, rfl, hown, HBW, HXW, HAW, hzw⟩ := hrel
            have HWW := Lib.hid hown
            clear hown
            by_cases hlt : k < en.length
            · have hlt' : (k : Int) < (en.length : Int) := by omega
              obtain ⟨b, o, rfl, hc0, hc1⟩ := HXW.out.getE hlt
              have HSW := Lib.hid (HS.out.below HBW.out)
              have HPW := Lib.hid (HPS.out.below HBW.out)
              have hysz := entOk_size (HOK.out _ (List.getElem_mem hlt))
              have HN := Lib.hid (HNX.out k hlt)
              have hla := HLA.out k
              have hIH := fun PA pc pl2 w h => HI.out en[k].2 PA pc pl2 w h
              generalize en[k] = y at *
              obtain ⟨t, a⟩ := y
              simp only at hc0 hc1 hysz
              have hspl := specF_len l a (pl.map tx ++ [tx t])
              have hFM : ((specF l a (pl.map tx ++ [tx t])).map mk).length ≤ 27 := by rw [List.length_map]; exact hspl
              have hIH2 : ∀ (PA : Option Addr) (pc : Nat) (w : World), Sl w encP 2 A l → Sl w encS 1 PA (pl ++ [t]) → (PA = none → pc = 0) → Calls Tryd.prog 101 #[.slice A l.length c, .int .i64 a, .slice PA (pl.length + 1) pc] w (OwnRes 9 1 encS ((specF l a (pl.map tx ++ [tx t])).map mk) w) := fun PA pc w h1 h2 h3 => by
                have h := hIH PA pc (pl ++ [t]) w (by simp) h1 h2 h3 (fun x hx => by
                  rw [List.mem_append, List.mem_singleton] at hx
                  rcases hx with hx | rfl
                  · exact HSZ.out x hx
                  · exact hysz)
                rw [show (pl ++ [t]).map tx = pl.map tx ++ [tx t] by simp, show (pl ++ [t]).length = pl.length + 1 by simp] at h
                exact h
              rw [show tx (t, a).1 = tx t from rfl, show (t, a).2 = a from rfl] at HN
              generalize (specF l a (pl.map tx ++ [tx t])).map mk = FM at *
              unfold OwnRes at hIH2
              have HIX := Lib.hid hIH2
              have HL2 := Lib.hid (show pl.length ≤ 16777216 by omega)
              have HL1 := Lib.hid (show ([] : List ByteArray).length + pl.length ≤ 33554432 by simp; omega)
              have hpw : 3 ^ (2 - pl.length) ≤ 9 := Nat.pow_le_pow_right (n := 3) (by omega) (show 2 - pl.length ≤ 2 by omega)
              have HL3 := Lib.hid (show (accF l (2 - pl.length) (pl.map tx) en k).length + FM.length ≤ 33554432 by omega)
              clear hIH2 hIH hla hspl hFM hpw
              have HCE := Lib.hid (show CellE wr b (o + k * 2) (t, a) from ⟨hc0, hc1⟩)
              have HB0 := Lib.hid (Below.refl wr.heap.size wr).drew
              have HBa := Lib.hid ((Below.refl wr.heap.size wr).alloc (Nat.le_refl _) (.cells #[] 9)).drew
              have HBb := Lib.hid ((Below.refl wr.heap.size wr).alloc (Nat.le_refl _) (rowS t)).drew
              have HBab := Lib.hid (HBa.out.alloc HBa.out.size (rowS t))
              have HBba := Lib.hid (HBb.out.alloc HBb.out.size (.cells #[] 9))
              have HOa := Lib.hid (Own.made (w := wr) (base := wr.heap.size) (enc := encS) (E := 9) (size := 1) (Nat.le_refl wr.heap.size)).drew
              have HOab := Lib.hid (HOa.out.alloc (rowS t))
              have HOba := Lib.hid (own_one wr t)
              have HPa := Lib.hid (HPW.out.below HBa.out)
              have HPab := Lib.hid (HPW.out.below HBab.out)
              have HPba := Lib.hid (HPW.out.below HBba.out)
              have HTab := Lib.hid (strAt_one wr t)
              have HTb := Lib.hid (show StrAt (wr.alloc (rowS t)).drew wr.heap.size t from StrAt.new wr t)
              have HTba := Lib.hid (HTb.out.below ((Below.refl _ _).alloc (Nat.le_refl _) (.cells #[] 9)))
              go_wp2_with fail
              go_region_held3 (fun w' => w'.cell? ⟨b, o + k * 2, none⟩ = some (.string t) ∧ w'.cell? ⟨b, o + k * 2 + 1, none⟩ = some (.int .i64 a))
                (first | assumption | exact HCE.out | exact HCE.out.below HB0.out | exact HCE.out.below HBa.out | exact HCE.out.below HBb.out | exact HCE.out.below HBab.out | exact HCE.out.below HBba.out | exact HCE.out.below HB7.out | exact HCE.out.below HB7b.out | exact HCE.out.below HB8.out | exact HCE.out.below HB9.out | exact HCA.out)
                ((first
                  | (refine step_strK (w0 := wr) (by rfl) rfl HOa.out HBa.out HL1.out HPa.out HCZ.out (by rfl) (by rfl) ?_; intro v7 w7 hown7 hb7 hg7 hk7; have HW7 := Lib.hid ((show Own w7 wr.heap.size 9 1 encS v7 pl from hown7).alloc (rowS t)); have HB7 := Lib.hid hb7; have HB7b := Lib.hid (hb7.alloc hb7.size (rowS t)); have HT7 := Lib.hid (StrAt.new w7 t); clear hown7 hb7 hg7 hk7)
                  | (refine step_strK (w0 := wr) (by rfl) rfl HOab.out HBab.out HL1.out HPab.out HCZ.out (by rfl) (by rfl) ?_; intro v7 w7 hown7 hb7 hg7 hk7; have HW7 := Lib.hid (show Own w7 wr.heap.size 9 1 encS v7 pl from hown7); have HB7b := Lib.hid hb7; have HT7 := Lib.hid (hg7.cell (by intro e; injection e with e; simp at e) HTab.out); clear hown7 hb7 hg7 hk7)
                  | (refine step_strK (w0 := wr) (by rfl) rfl HOba.out HBba.out HL1.out HPba.out HCZ.out (by rfl) (by rfl) ?_; intro v7 w7 hown7 hb7 hg7 hk7; have HW7 := Lib.hid (show Own w7 wr.heap.size 9 1 encS v7 pl from hown7); have HB7b := Lib.hid hb7; have HT7 := Lib.hid (hg7.cell (by intro e; injection e with e; simp at e) HTba.out); clear hown7 hb7 hg7 hk7)
                  | (refine step_str_d (w0 := wr) HW7.out HB7b.out HT7.out HL2.out (by rfl) rfl (by rfl) (by rfl) ?_; intro v8 w8 hown8 hb8; obtain ⟨X8, d8, e8, hle8, hs8, _⟩ := hown8.sl; rw [List.length_append, List.length_singleton] at e8; subst e8; have HS8 := Lib.hid hs8; have HC8 := Lib.hid hown8.cz; have HB8 := Lib.hid hb8; clear hown8 hb8 hs8)
                  | (go_at_call 101; refine (HIX.out _ _ _ (HSW.out.below HB8.out) HS8.out HC8.out).mono ?_; rintro e w9 ⟨v9, rfl, hown9, hb9⟩; obtain ⟨X9, d9, rfl, hle9, hs9, _⟩ := hown9.sl; have HS9 := Lib.hid hs9; have HC9 := Lib.hid hown9.cz; have HB9 := Lib.hid (Below_then HB8.out hb9 (Nat.le_refl _)); have HWA := Lib.hid (HWW.out.below HB9.out); have HBW9 := Lib.hid (Below_then HBW.out HB9.out (Nat.le_refl _)); have HXW9 := Lib.hid (HXW.out.below HB9.out); have HLX9 := Lib.hid (HLX.out.mono (Nat.le_trans hzw HB9.out.size)); have HZ9 := Lib.hid (Nat.le_trans hzw HB9.out.size); clear hown9 hb9 hs9)
                  | (refine step_strK (w0 := w) (by rfl) rfl HWA.out HBW9.out HL3.out HS9.out HC9.out (by rfl) (by rfl) ?_; intro vA wA hownA hbA hgA hkA; have HWF := Lib.hid hownA; have HBF := Lib.hid hbA; have HXF := Lib.hid (HXW9.out.grew hgA HAW.out); have HCA := Lib.hid ((HCE.out.below HB9.out).grew hgA (HAW.out b o rfl)); have HPF := Lib.hid (HAW.out.kin HLX9.out hkA); have HZF := Lib.hid (Nat.le_trans HZ9.out hgA.size); clear hownA hbA hgA hkA)))
              all_goals
                go_wp2
                go_roundw
                case rel => exact ⟨k + 1, by omega, by go_num, by rw [HN.out]; exact HWF.out, HBF.out, HXF.out, HPF.out, HZF.out⟩
                case measure => simp [intOf]; omega
            · have hlt' : ¬ (k : Int) < (en.length : Int) := by omega
              have hke : k = en.length := by omega
              subst hke
              go_wp2
              go_ret
              exact ⟨_, rfl, HWW.out, HBW.out⟩
theorem sl11_all (A : Option Addr) (c : Nat) (l : List Pc) (hv : storeV l = true) : ∀ (f : Nat) (pl : List ByteArray), pl.length + f = 3 → ∀ (p : Int) (PA : Option Addr) (pc : Nat) (w : World), L11 A c l p PA pc pl w
  | 0, pl, hf, p, PA, pc, w => sl11_step A c l hv pl (by omega) (fun h => by omega) p PA pc w
  | f + 1, pl, hf, p, PA, pc, w => sl11_step A c l hv pl (by omega) (fun h p2 PA2 pc2 pl2 w2 h2 => sl11_all A c l hv f pl2 (by omega) p2 PA2 pc2 w2) p PA pc w
set_option maxHeartbeats 4000000 in
set_option maxRecDepth 100000 in
theorem sAllFiles_any (A : Option Addr) (c : Nat) (l : List Pc) (root : Int) (w : World) (hs : Sl w encP 2 A l) (hl : l.length ≤ 16777216) (hf : FitP l) :
    Calls Tryd.prog 78 #[.slice A l.length c, .int .i64 root] w (OwnRes 9 1 encS ((allF l root).map mk) w) := by
  have HS := Lib.hid hs
  have hSV := fun w h => sStoreValid_any A c l w h hl hf
  have HB := Lib.hid (Below.refl w.heap.size w)
  clear hs
  unfold allF
  cases hv : storeV l
  · rw [hv] at hSV
    rw [if_neg (by simp)]
    have HSV := Lib.hid hSV
    clear hSV hv
    go_enter Tryd.func78, Tryd.ntmps78
    go_wp2_with fail
    refine (HSV.out _ HS.out).mono ?_
    rintro e w1 ⟨rfl, hb⟩
    replace HB := Lib.hid (Below_then HB.out hb (Nat.le_refl _))
    clear hb
    have HW := Lib.hid (Own.made (enc := encS) (E := 9) (size := 1) HB.out.size)
    have HB2 := Lib.hid (HB.out.alloc HB.out.size (.cells #[] 9))
    go_wp2
    go_ret
    exact ⟨_, rfl, HW.out, HB2.out⟩
  · rw [if_pos rfl, ← specF_root]
    have hN := fun PA w => sl11_all A c l hv 3 [] rfl root PA 0 w
    unfold L11 at hN
    rw [show ([] : List ByteArray).map tx = [] from rfl] at hN
    rw [hv] at hSV
    generalize (specF l root []).map mk = FM at *
    have HSV := Lib.hid hSV
    have HN := Lib.hid hN
    clear hSV hv hN
    go_enter Tryd.func78, Tryd.ntmps78
    go_wp2_with fail
    refine (HSV.out _ HS.out).mono ?_
    rintro e w1 ⟨rfl, hb⟩
    replace HB := Lib.hid (Below_then HB.out hb (Nat.le_refl _))
    replace HS := Lib.hid (HS.out.below hb)
    clear hb
    have HB2 := Lib.hid (HB.out.alloc HB.out.size (.cells #[] 9))
    have HS2 := Lib.hid (HS.out.alloc (.cells #[] 9))
    go_wp2_with fail
    refine (HN.out _ _ HS2.out Sl.none_ (by intro h; cases h) (by intro x hx; cases hx)).mono ?_
    rintro e w2 ⟨v2, rfl, hown2, hb2⟩
    have HW2 := Lib.hid (hown2.mono HB2.out.size)
    have HB3 := Lib.hid (Below_then HB2.out hb2 (Nat.le_refl _))
    clear hown2 hb2
    go_wp2
    go_ret
    exact ⟨_, rfl, HW2.out, HB3.out⟩
end Go.Proofs.YtaghiefokmapmaaDoor

/- Writing into a folder, the reference's: l10Set. Written by gen_set.py. -/
set_option linter.unusedVariables false
namespace Go.Proofs.YtaghiefokmapmaaDoor
open Go.RowKit
def L10 (A : Option Addr) (c : Nat) (l : List Pc) (leaf : Int) (a : Option Int) (PA : Option Addr) (pc : Nat) (pl : List ByteArray) (w : World) : Prop :=
  (∀ q, a = some q → 0 ≤ q) → Sl w encP 2 A l → Sl w encS 1 PA pl → pl.length ≤ pc → (∀ x ∈ pl, x.size ≤ 8) →
    Calls Tryd.prog 87 #[.slice A l.length c, .int .i64 (a.getD (-1)), .slice PA pl.length pc, .int .i64 leaf] w (SetRes (setP l a (pl.map tx) leaf) w)
theorem setP_first {l : List Pc} {a : Option Int} {pl : List ByteArray} {leaf : Int} (h : 0 < pl.length) : setP l a (pl.map tx) leaf = (listAt l a).bind fun ll => if ((pl.drop 1).map tx).isEmpty && !leafOk l (getE ll (tx pl[0])) then none else (setP l (getE ll (tx pl[0])) ((pl.drop 1).map tx) leaf).bind (setUp ll (tx pl[0])) := by
  cases pl with
  | nil => simp at h
  | cons x r => exact setP_cons l a (tx x) (r.map tx) leaf
theorem empty_drop {pl : List ByteArray} (h : 0 < pl.length) : ((pl.drop 1).map tx).isEmpty = decide (pl.length = 1) := by
  rw [Bool.eq_iff_iff, List.isEmpty_iff, List.map_eq_nil_iff, List.drop_eq_nil_iff, decide_eq_true_eq]; omega
set_option maxHeartbeats 4000000 in
set_option maxRecDepth 100000 in
theorem sl10_nil (A : Option Addr) (c : Nat) (l : List Pc) (hcz : A = none → c = 0) (hle : l.length ≤ c) (leaf : Int) (a : Option Int) (PA : Option Addr) (pc : Nat) (w : World) : L10 A c l leaf a PA pc [] w := by
  intro ha hs hps hple hsz
  have HS := Lib.hid hs
  have HC := Lib.hid hcz
  generalize a.getD (-1) = P
  rw [show setP l a (([] : List ByteArray).map tx) leaf = some (l, leaf) from rfl, List.length_nil]
  clear hs hps
  go_enter Tryd.func87, Tryd.ntmps87
  go_wp2
  go_ret3
  exact SetRes.yes rfl (Below.refl _ _) HS.out HC.out hle
set_option maxHeartbeats 4000000 in
set_option maxRecDepth 100000 in
theorem sl10_step (A : Option Addr) (c : Nat) (l : List Pc) (hcz : A = none → c = 0) (hle : l.length ≤ c) (hv : storeV l = true) (leaf : Int) (pl : List ByteArray) (hpos : 0 < pl.length)
    (ih : ∀ (a : Option Int) (PA : Option Addr) (pc : Nat) (w : World), L10 A c l leaf a PA pc (pl.drop 1) w) (a : Option Int) (PA : Option Addr) (pc : Nat) (w : World) : L10 A c l leaf a PA pc pl w := by
  intro ha hs hps hple hsz
  have HS := Lib.hid hs
  obtain ⟨b, o, rfl, hc0⟩ := hps.getS hpos
  have HPS := Lib.hid hps
  have HSZ := Lib.hid hsz
  have IH := Lib.hid ih
  have HV := Lib.hid hv
  have hlen : l.length ≤ 16777216 := by have := storeV_len hv; omega
  have hfirst := setP_first (l := l) (a := a) (leaf := leaf) hpos
  rw [empty_drop hpos] at hfirst
  have HNM := Lib.hid (show pl[0].size ≤ 16777216 from Nat.le_trans (hsz _ (List.getElem_mem hpos)) (by omega))
  rw [Nat.add_zero] at hc0
  clear hs hps hsz ih hv
  generalize pl[0] = nm at *
  generalize setP l a (pl.map tx) leaf = R at *
  have HREST := Lib.hid (fun ll (h : listAt l a = some ll) => show R = (if decide (pl.length = 1) && !leafOk l (getE ll (tx nm)) then none else (setP l (getE ll (tx nm)) ((pl.drop 1).map tx) leaf).bind (setUp ll (tx nm))) by rw [hfirst, h]; rfl)
  have hn1 : ((pl.length : Int) == 0) = false := by rw [beq_eq_false_iff_ne]; omega
  cases a with
  | none =>
    have hrest := HREST.out [] rfl
    clear hfirst HREST
    obtain ⟨ll, hll⟩ : ∃ ll : List En, ll = [] := ⟨_, rfl⟩
    rw [← hll] at hrest
    have HLV := Lib.hid (show entsV ll = true by rw [hll]; rfl)
    have HLL := Lib.hid (show Sl (w.alloc madeEn) encE 2 (some ⟨w.heap.size, 0, none⟩) ll from Sl.gone (by rw [hll]; rfl))
    have hz : ll.length = 0 := by rw [hll]; rfl
    have HLC := Lib.hid (show (some ⟨w.heap.size, 0, none⟩ : Option Addr) = none → 0 = 0 from fun _ => rfl)
    have HLA := Lib.hid (show (some ⟨w.heap.size, 0, none⟩ : Option Addr) = none ∨ ∃ b o, (some ⟨w.heap.size, 0, none⟩ : Option Addr) = some ⟨b, o, none⟩ from .inr ⟨_, _, rfl⟩)
    have HLE := Lib.hid (show ll.length ≤ 0 by omega)
    have HB := Lib.hid ((Below.refl w.heap.size w).alloc (Nat.le_refl _) madeEn)
    have hcA := cell_alloc (x := madeEn) hc0
    have HZ := Lib.hid hz
    have HGN := Lib.hid (show getE ll (tx nm) = none by rw [hll]; rfl)
    clear hll
    have HGO := Lib.hid (fun (h : pl.length = 1 → leafOk l (getE ll (tx nm)) = true) => show R = (setP l (getE ll (tx nm)) ((pl.drop 1).map tx) leaf).bind (setUp ll (tx nm)) by
      rw [hrest, if_neg]
      intro h2
      simp only [Bool.and_eq_true, decide_eq_true_eq, Bool.not_eq_true'] at h2
      rw [h h2.1] at h2; cases h2.2)
    have HNOL := Lib.hid (fun (h : pl.length = 1) (h2 : leafOk l (getE ll (tx nm)) = false) => show R = none by rw [hrest, h, h2]; rfl)
    clear hrest
    simp only [Option.getD_none]
    go_enter Tryd.func87, Tryd.ntmps87
    go_wp2_with fail
    rw [show (Value.slice (some ⟨w.heap.size, 0, none⟩) 0 0) = .slice (some ⟨w.heap.size, 0, none⟩) ll.length 0 by rw [HZ.out]]
    clear hz
    have hlv := HLV.out
    have hl3 := entsV_len hlv
    have hso := entsV_sorted hlv
    go_loopw [16, 17] (fun vc vi wr => ∃ (k : Nat), k ≤ ll.length ∧ vc = .int .i64 (chE ll (tx nm) k) ∧ vi = .int .i64 k ∧ Hid (Below (w.alloc madeEn).heap.size (w.alloc madeEn) wr)) (fun _ vi _ => ll.length - (intOf vi).toNat)
    case atStart => exact ⟨0, Nat.zero_le _, rfl, rfl, Below.refl _ _⟩
    case round =>
      obtain ⟨k, hk, rfl, rfl, HBJ⟩ := hrel
      have HBX := Lib.hid (Below_then HB.out HBJ.out (Nat.le_refl _))
      have HLX := Lib.hid (HLL.out.below HBJ.out)
      have hd := Below_cells HBJ.out _ _ _ hcA
      have hpl1 : (0 : Int) < (pl.length : Int) := by omega
      by_cases hlt : k < ll.length
      · exact absurd hlt (by have := HZ.out; omega)
      · have hlt' : ¬ (k : Int) < (ll.length : Int) := by omega
        rw [chE_all (n := tx nm) hso (k := k) (by omega)]
        have hge0 := @getE_pos ll (tx nm)
        have hG4 := fun p w h => sl4Get_any A c l p w h hlen
        cases hge : getE ll (tx nm) with
        | none =>
          rw [hge] at HGO
          have hgo := HGO.out (fun _ => rfl)
          have hg4 := hG4 (-1)
          generalize (getT l (-1)).getD ⟨#[]⟩ = T4 at *
          generalize (getT l (-1)).isSome = B4 at *
          have HG4 := Lib.hid hg4
          clear hg4
          clear hG4 hge0 HGO HNOL
          simp only [Option.getD_none]
          by_cases h1 : pl.length = 1
          · have h1' : ((pl.length : Int) == 1) = true := by rw [beq_iff_eq]; omega
            by_cases hroom : pc = 1
            · obtain rfl := hroom
              have hREC : ∀ w, Sl w encP 2 A l → Sl w encS 1 (some ⟨b, o, none⟩) pl → Calls Tryd.prog 87 #[.slice A l.length c, .int .i64 (-1), .slice (some ⟨b, o, none⟩) 0 0, .int .i64 leaf] w (SetRes (setP l (none) ((pl.drop 1).map tx) leaf) w) := fun w h1 h2 => by
                have h := IH.out (none) (some ⟨b, o, none⟩) 0 w (fun q h => by cases h) h1 (Sl.gone (by rw [List.length_drop]; omega)) (by rw [List.length_drop]; omega) (fun x hx => HSZ.out x (List.mem_of_mem_drop hx))
                rw [List.length_drop] at h
                rw [show pl.length - 1 = 0 by omega] at h
                exact h
              have HS0 := Lib.hid (fun x h => @setP_valid l (none) ((pl.drop 1).map tx) leaf x HV.out h)
              have HR := Lib.hid (show R = (setP l (none) ((pl.drop 1).map tx) leaf).bind (setUp ll (tx nm)) from hgo)
              clear hgo
              generalize setP l (none) ((pl.drop 1).map tx) leaf = S at *
              have HREC := Lib.hid hREC
              clear hREC h1
              go_wp2_with (go_at_call 40; refine (HG4.out _ (HS.out.below HBX.out)).mono ?_; rintro e w' ⟨rfl, rfl⟩)
              refine (HREC.out _ (HS.out.below HBX.out) (HPS.out.below HBX.out)).mono ?_
              rintro e w5 ⟨v5, m5, rfl, hb5, hres⟩
              replace HBX := Lib.hid (Below_then HBX.out hb5 (Nat.le_refl _))
              replace HLX := Lib.hid (HLX.out.below hb5)
              have HCELL := Lib.hid (Below_cells hb5 _ _ _ hd)
              clear hb5 hd
              cases S with
              | none =>
                have HRN := Lib.hid (show R = none from HR.out)
                clear HR
                simp only [Option.isSome_none]
                go_wp2
                go_ret3
                exact SetRes.no HRN.out HBX.out
              | some x =>
                obtain ⟨rfl, B, d, rfl, hsB, hczB, hleB⟩ := hres x rfl
                have HSB := Lib.hid hsB
                have HVX := Lib.hid (HS0.out x rfl)
                have HRX := Lib.hid (show R = if (putE ll (nm, x.2)).2 then (if (putT x.1 (mk (foldT (putE ll (nm, x.2)).1))).2.2 then some ((putT x.1 (mk (foldT (putE ll (nm, x.2)).1))).1, prOf (foldT (putE ll (nm, x.2)).1)) else none) else none by
                  have h := HR.out
                  rw [Option.bind_some] at h
                  unfold setUp at h
                  rw [mk_tx] at h; exact h)
                clear HR hres hsB
                have hlx := storeV_len HVX.out
                have hPE := fun W h => sPutEntry_any (some ⟨w.heap.size, 0, none⟩) 0 ll (nm, x.2) W h (fun _ => rfl) HLA.out HLE.out HLV.out HNM.out
                have hok := @putE_ok ll (nm, x.2)
                unfold EnRes at hPE
                have hcell := HCELL.out
                simp only [Option.isSome_some]
                generalize putE ll (nm, x.2) = PE at *
                obtain ⟨pl2, ok2⟩ := PE
                obtain ⟨xs, xp⟩ := x
                simp only at hPE hok HSB HVX HRX hlx hczB hleB
                have HPE := Lib.hid hPE
                clear hPE
                go_wp2_with fail
                refine (HPE.out _ HLX.out).mono ?_
                rintro e w6 ⟨v6, rfl, hown6, hb6⟩
                have HB6 := Lib.hid (Below_then HBX.out hb6 (Nat.le_refl _))
                have HSB6 := Lib.hid (HSB.out.below hb6)
                obtain ⟨X, dx, rfl, hlex, hsx, _⟩ := hown6.sl
                have HX6 := Lib.hid hsx
                clear hb6 hown6 hsx
                cases ok2
                · have HRN := Lib.hid (show R = none from HRX.out)
                  clear HRX hok
                  go_wp2
                  go_ret3
                  exact SetRes.no HRN.out HB6.out
                · have HRY := Lib.hid (show R = if (putT xs (mk (foldT pl2))).2.2 then some ((putT xs (mk (foldT pl2))).1, prOf (tx (mk (foldT pl2)))) else none from HRX.out)
                  have hv2 := (hok rfl).2.1
                  have hp3 := entsV_len hv2
                  have hFT := fun w h => sFolderText_any X dx pl2 w h (by omega) (fitE_valid hv2)
                  have hfl := foldT_len pl2
                  have hPT := fun w h => sPutText_any B d xs (mk (foldT pl2)) w h hczB hleB (by omega) (fit_store HVX.out) (by rw [mk_size]; omega)
                  unfold PutRes at hPT
                  have hSP := fun w1 w2 v => @SetRes.put R xs (mk (foldT pl2)) w w1 w2 v HRY.out
                  clear HRY HRX hok hv2 hfl
                  generalize mk (foldT pl2) = FT at *
                  generalize putT xs FT = PT at *
                  obtain ⟨P1, P2, P3⟩ := PT
                  simp only at hPT hSP
                  have HSP := Lib.hid hSP
                  have HFT := Lib.hid hFT
                  have HPT := Lib.hid hPT
                  clear hFT hPT hSP
                  go_wp2_with fail
                  refine (HFT.out _ HX6.out).mono ?_
                  rintro e w7 ⟨rfl, hb7⟩
                  replace HB6 := Lib.hid (Below_then HB6.out hb7 (Nat.le_refl _))
                  replace HSB6 := Lib.hid (HSB6.out.below hb7)
                  clear hb7
                  go_wp2_with fail
                  refine (HPT.out _ HSB6.out).mono ?_
                  rintro e w8 ⟨v8, rfl, hown8, hb8⟩
                  have HO8 := Lib.hid hown8
                  have HB8 := Lib.hid hb8
                  clear hown8 hb8
                  go_wp2
                  go_ret3
                  exact HSP.out _ _ _ HO8.out HB6.out HB8.out
            · have hpc1 : ¬ pc = 1 := hroom
              have hREC : ∀ w, Sl w encP 2 A l → Sl w encS 1 (some ⟨b, o, none⟩) pl → Calls Tryd.prog 87 #[.slice A l.length c, .int .i64 (-1), .slice (some ⟨b, o + 1, none⟩) (pl.length - 1) (pc - 1), .int .i64 leaf] w (SetRes (setP l (none) ((pl.drop 1).map tx) leaf) w) := fun w h1 h2 => by
                have h := IH.out (none) (some ⟨b, o + 1, none⟩) (pc - 1) w (fun q h => by cases h) h1 (h2.dropS) (by rw [List.length_drop]; omega) (fun x hx => HSZ.out x (List.mem_of_mem_drop hx))
                rw [List.length_drop] at h
                exact h
              have HS0 := Lib.hid (fun x h => @setP_valid l (none) ((pl.drop 1).map tx) leaf x HV.out h)
              have HR := Lib.hid (show R = (setP l (none) ((pl.drop 1).map tx) leaf).bind (setUp ll (tx nm)) from hgo)
              clear hgo
              generalize setP l (none) ((pl.drop 1).map tx) leaf = S at *
              have HREC := Lib.hid hREC
              clear hREC h1
              go_wp2_with (go_at_call 40; refine (HG4.out _ (HS.out.below HBX.out)).mono ?_; rintro e w' ⟨rfl, rfl⟩)
              refine (HREC.out _ (HS.out.below HBX.out) (HPS.out.below HBX.out)).mono ?_
              rintro e w5 ⟨v5, m5, rfl, hb5, hres⟩
              replace HBX := Lib.hid (Below_then HBX.out hb5 (Nat.le_refl _))
              replace HLX := Lib.hid (HLX.out.below hb5)
              have HCELL := Lib.hid (Below_cells hb5 _ _ _ hd)
              clear hb5 hd
              cases S with
              | none =>
                have HRN := Lib.hid (show R = none from HR.out)
                clear HR
                simp only [Option.isSome_none]
                go_wp2
                go_ret3
                exact SetRes.no HRN.out HBX.out
              | some x =>
                obtain ⟨rfl, B, d, rfl, hsB, hczB, hleB⟩ := hres x rfl
                have HSB := Lib.hid hsB
                have HVX := Lib.hid (HS0.out x rfl)
                have HRX := Lib.hid (show R = if (putE ll (nm, x.2)).2 then (if (putT x.1 (mk (foldT (putE ll (nm, x.2)).1))).2.2 then some ((putT x.1 (mk (foldT (putE ll (nm, x.2)).1))).1, prOf (foldT (putE ll (nm, x.2)).1)) else none) else none by
                  have h := HR.out
                  rw [Option.bind_some] at h
                  unfold setUp at h
                  rw [mk_tx] at h; exact h)
                clear HR hres hsB
                have hlx := storeV_len HVX.out
                have hPE := fun W h => sPutEntry_any (some ⟨w.heap.size, 0, none⟩) 0 ll (nm, x.2) W h (fun _ => rfl) HLA.out HLE.out HLV.out HNM.out
                have hok := @putE_ok ll (nm, x.2)
                unfold EnRes at hPE
                have hcell := HCELL.out
                simp only [Option.isSome_some]
                generalize putE ll (nm, x.2) = PE at *
                obtain ⟨pl2, ok2⟩ := PE
                obtain ⟨xs, xp⟩ := x
                simp only at hPE hok HSB HVX HRX hlx hczB hleB
                have HPE := Lib.hid hPE
                clear hPE
                go_wp2_with fail
                refine (HPE.out _ HLX.out).mono ?_
                rintro e w6 ⟨v6, rfl, hown6, hb6⟩
                have HB6 := Lib.hid (Below_then HBX.out hb6 (Nat.le_refl _))
                have HSB6 := Lib.hid (HSB.out.below hb6)
                obtain ⟨X, dx, rfl, hlex, hsx, _⟩ := hown6.sl
                have HX6 := Lib.hid hsx
                clear hb6 hown6 hsx
                cases ok2
                · have HRN := Lib.hid (show R = none from HRX.out)
                  clear HRX hok
                  go_wp2
                  go_ret3
                  exact SetRes.no HRN.out HB6.out
                · have HRY := Lib.hid (show R = if (putT xs (mk (foldT pl2))).2.2 then some ((putT xs (mk (foldT pl2))).1, prOf (tx (mk (foldT pl2)))) else none from HRX.out)
                  have hv2 := (hok rfl).2.1
                  have hp3 := entsV_len hv2
                  have hFT := fun w h => sFolderText_any X dx pl2 w h (by omega) (fitE_valid hv2)
                  have hfl := foldT_len pl2
                  have hPT := fun w h => sPutText_any B d xs (mk (foldT pl2)) w h hczB hleB (by omega) (fit_store HVX.out) (by rw [mk_size]; omega)
                  unfold PutRes at hPT
                  have hSP := fun w1 w2 v => @SetRes.put R xs (mk (foldT pl2)) w w1 w2 v HRY.out
                  clear HRY HRX hok hv2 hfl
                  generalize mk (foldT pl2) = FT at *
                  generalize putT xs FT = PT at *
                  obtain ⟨P1, P2, P3⟩ := PT
                  simp only at hPT hSP
                  have HSP := Lib.hid hSP
                  have HFT := Lib.hid hFT
                  have HPT := Lib.hid hPT
                  clear hFT hPT hSP
                  go_wp2_with fail
                  refine (HFT.out _ HX6.out).mono ?_
                  rintro e w7 ⟨rfl, hb7⟩
                  replace HB6 := Lib.hid (Below_then HB6.out hb7 (Nat.le_refl _))
                  replace HSB6 := Lib.hid (HSB6.out.below hb7)
                  clear hb7
                  go_wp2_with fail
                  refine (HPT.out _ HSB6.out).mono ?_
                  rintro e w8 ⟨v8, rfl, hown8, hb8⟩
                  have HO8 := Lib.hid hown8
                  have HB8 := Lib.hid hb8
                  clear hown8 hb8
                  go_wp2
                  go_ret3
                  exact HSP.out _ _ _ HO8.out HB6.out HB8.out
          · have h1' : ((pl.length : Int) == 1) = false := by rw [beq_eq_false_iff_ne]; omega
            have hpc1 : ¬ pc = 1 := by omega
            have hREC : ∀ w, Sl w encP 2 A l → Sl w encS 1 (some ⟨b, o, none⟩) pl → Calls Tryd.prog 87 #[.slice A l.length c, .int .i64 (-1), .slice (some ⟨b, o + 1, none⟩) (pl.length - 1) (pc - 1), .int .i64 leaf] w (SetRes (setP l (none) ((pl.drop 1).map tx) leaf) w) := fun w h1 h2 => by
              have h := IH.out (none) (some ⟨b, o + 1, none⟩) (pc - 1) w (fun q h => by cases h) h1 (h2.dropS) (by rw [List.length_drop]; omega) (fun x hx => HSZ.out x (List.mem_of_mem_drop hx))
              rw [List.length_drop] at h
              exact h
            have HS0 := Lib.hid (fun x h => @setP_valid l (none) ((pl.drop 1).map tx) leaf x HV.out h)
            have HR := Lib.hid (show R = (setP l (none) ((pl.drop 1).map tx) leaf).bind (setUp ll (tx nm)) from hgo)
            clear hgo
            generalize setP l (none) ((pl.drop 1).map tx) leaf = S at *
            have HREC := Lib.hid hREC
            clear hREC h1
            go_wp2_with (go_at_call 40; refine (HG4.out _ (HS.out.below HBX.out)).mono ?_; rintro e w' ⟨rfl, rfl⟩)
            refine (HREC.out _ (HS.out.below HBX.out) (HPS.out.below HBX.out)).mono ?_
            rintro e w5 ⟨v5, m5, rfl, hb5, hres⟩
            replace HBX := Lib.hid (Below_then HBX.out hb5 (Nat.le_refl _))
            replace HLX := Lib.hid (HLX.out.below hb5)
            have HCELL := Lib.hid (Below_cells hb5 _ _ _ hd)
            clear hb5 hd
            cases S with
            | none =>
              have HRN := Lib.hid (show R = none from HR.out)
              clear HR
              simp only [Option.isSome_none]
              go_wp2
              go_ret3
              exact SetRes.no HRN.out HBX.out
            | some x =>
              obtain ⟨rfl, B, d, rfl, hsB, hczB, hleB⟩ := hres x rfl
              have HSB := Lib.hid hsB
              have HVX := Lib.hid (HS0.out x rfl)
              have HRX := Lib.hid (show R = if (putE ll (nm, x.2)).2 then (if (putT x.1 (mk (foldT (putE ll (nm, x.2)).1))).2.2 then some ((putT x.1 (mk (foldT (putE ll (nm, x.2)).1))).1, prOf (foldT (putE ll (nm, x.2)).1)) else none) else none by
                have h := HR.out
                rw [Option.bind_some] at h
                unfold setUp at h
                rw [mk_tx] at h; exact h)
              clear HR hres hsB
              have hlx := storeV_len HVX.out
              have hPE := fun W h => sPutEntry_any (some ⟨w.heap.size, 0, none⟩) 0 ll (nm, x.2) W h (fun _ => rfl) HLA.out HLE.out HLV.out HNM.out
              have hok := @putE_ok ll (nm, x.2)
              unfold EnRes at hPE
              have hcell := HCELL.out
              simp only [Option.isSome_some]
              generalize putE ll (nm, x.2) = PE at *
              obtain ⟨pl2, ok2⟩ := PE
              obtain ⟨xs, xp⟩ := x
              simp only at hPE hok HSB HVX HRX hlx hczB hleB
              have HPE := Lib.hid hPE
              clear hPE
              go_wp2_with fail
              refine (HPE.out _ HLX.out).mono ?_
              rintro e w6 ⟨v6, rfl, hown6, hb6⟩
              have HB6 := Lib.hid (Below_then HBX.out hb6 (Nat.le_refl _))
              have HSB6 := Lib.hid (HSB.out.below hb6)
              obtain ⟨X, dx, rfl, hlex, hsx, _⟩ := hown6.sl
              have HX6 := Lib.hid hsx
              clear hb6 hown6 hsx
              cases ok2
              · have HRN := Lib.hid (show R = none from HRX.out)
                clear HRX hok
                go_wp2
                go_ret3
                exact SetRes.no HRN.out HB6.out
              · have HRY := Lib.hid (show R = if (putT xs (mk (foldT pl2))).2.2 then some ((putT xs (mk (foldT pl2))).1, prOf (tx (mk (foldT pl2)))) else none from HRX.out)
                have hv2 := (hok rfl).2.1
                have hp3 := entsV_len hv2
                have hFT := fun w h => sFolderText_any X dx pl2 w h (by omega) (fitE_valid hv2)
                have hfl := foldT_len pl2
                have hPT := fun w h => sPutText_any B d xs (mk (foldT pl2)) w h hczB hleB (by omega) (fit_store HVX.out) (by rw [mk_size]; omega)
                unfold PutRes at hPT
                have hSP := fun w1 w2 v => @SetRes.put R xs (mk (foldT pl2)) w w1 w2 v HRY.out
                clear HRY HRX hok hv2 hfl
                generalize mk (foldT pl2) = FT at *
                generalize putT xs FT = PT at *
                obtain ⟨P1, P2, P3⟩ := PT
                simp only at hPT hSP
                have HSP := Lib.hid hSP
                have HFT := Lib.hid hFT
                have HPT := Lib.hid hPT
                clear hFT hPT hSP
                go_wp2_with fail
                refine (HFT.out _ HX6.out).mono ?_
                rintro e w7 ⟨rfl, hb7⟩
                replace HB6 := Lib.hid (Below_then HB6.out hb7 (Nat.le_refl _))
                replace HSB6 := Lib.hid (HSB6.out.below hb7)
                clear hb7
                go_wp2_with fail
                refine (HPT.out _ HSB6.out).mono ?_
                rintro e w8 ⟨v8, rfl, hown8, hb8⟩
                have HO8 := Lib.hid hown8
                have HB8 := Lib.hid hb8
                clear hown8 hb8
                go_wp2
                go_ret3
                exact HSP.out _ _ _ HO8.out HB6.out HB8.out
        | some q => exact absurd (hge.symm.trans HGN.out) (by simp)

  | some p =>
    have hp0 : 0 ≤ p := ha p rfl
    have hHG := sl4Get_any A c l p
    have htz := getT_size HV.out (p := p)
    have hRD := fun w => sReadFolder_any ((getT l p).getD ⟨#[]⟩) w htz
    have hFT := folT_of (l := l) (p := p)
    have hSome := folT_some (l := l) (p := p)
    unfold RfRes at hRD
    unfold folT at hFT
    rw [hFT, hSome] at hRD
    have HGP := Lib.hid (fun w h => sl4Get_any A c l p w h hlen)
    simp only [Option.getD_some]
    cases hfo : folderOf l p with
    | none =>
      have HRN := Lib.hid (show R = none by rw [hfirst, show listAt l (some p) = none from hfo]; rfl)
      rw [hfo] at hRD
      generalize (getT l p).getD ⟨#[]⟩ = TT at *
      generalize (getT l p).isSome = okg at *
      have HRD := Lib.hid hRD
      clear hRD hfirst HREST hFT hSome htz hHG hfo
      go_enter Tryd.func87, Tryd.ntmps87
      go_wp2_with (go_at_call 40; refine (HGP.out _ (HS.out.alloc _)).mono ?_; rintro e w' ⟨rfl, rfl⟩)
      refine (HRD.out _).mono ?_
      rintro e w2 ⟨v, rfl, hown, hb⟩
      have HB := Lib.hid (Below_of_alloc hb)
      clear hown hb
      simp only [Option.isSome_none]
      go_wp2
      go_ret3
      exact SetRes.no HRN.out HB.out
    | some ll =>
      have hrest := HREST.out ll hfo
      have HLV := Lib.hid (folder_valid hfo)
      have HGO := Lib.hid (fun (h : pl.length = 1 → leafOk l (getE ll (tx nm)) = true) => show R = (setP l (getE ll (tx nm)) ((pl.drop 1).map tx) leaf).bind (setUp ll (tx nm)) by
        rw [hrest, if_neg]
        intro h2
        simp only [Bool.and_eq_true, decide_eq_true_eq, Bool.not_eq_true'] at h2
        rw [h h2.1] at h2; cases h2.2)
      have HNOL := Lib.hid (fun (h : pl.length = 1) (h2 : leafOk l (getE ll (tx nm)) = false) => show R = none by rw [hrest, h, h2]; rfl)
      clear hrest
      rw [hfo, Option.getD_some, Option.isSome_some] at hRD
      generalize (getT l p).getD ⟨#[]⟩ = TT at *
      generalize (getT l p).isSome = okg at *
      have HRD := Lib.hid hRD
      clear hRD hfirst HREST hFT hSome htz hHG hfo
      go_enter Tryd.func87, Tryd.ntmps87
      go_wp2_with (go_at_call 40; refine (HGP.out _ (HS.out.alloc _)).mono ?_; rintro e w' ⟨rfl, rfl⟩)
      refine (HRD.out _).mono ?_
      rintro e wA ⟨v, rfl, hown, hb⟩
      have HB := Lib.hid (Below_of_alloc hb)
      have hcA := Below_cells HB.out _ _ _ hc0
      obtain ⟨LA, lc, rfl, hle4, hs4, hA4⟩ := hown.sl
      have HLC := Lib.hid hown.cz
      have HLL := Lib.hid hs4
      have HLE := Lib.hid hle4
      have HLA := Lib.hid (show LA = none ∨ ∃ b o, LA = some ⟨b, o, none⟩ by
        rcases hA4 with ⟨_, rfl⟩ | ⟨g, rfl, _⟩
        · exact .inl rfl
        · exact .inr ⟨_, _, rfl⟩)
      clear hown hb hs4 hle4 hA4
      have hlv := HLV.out
      have hl3 := entsV_len hlv
      have hso := entsV_sorted hlv
      go_wp2_with fail
      go_loopw [16, 17] (fun vc vi wr => ∃ (k : Nat), k ≤ ll.length ∧ vc = .int .i64 (chE ll (tx nm) k) ∧ vi = .int .i64 k ∧ Hid (Below wA.heap.size wA wr)) (fun _ vi _ => ll.length - (intOf vi).toNat)
      case atStart => exact ⟨0, Nat.zero_le _, rfl, rfl, Below.refl _ _⟩
      case round =>
        obtain ⟨k, hk, rfl, rfl, HBJ⟩ := hrel
        have HBX := Lib.hid (Below_then HB.out HBJ.out (Nat.le_refl _))
        have HLX := Lib.hid (HLL.out.below HBJ.out)
        have hd := Below_cells HBJ.out _ _ _ hcA
        have hpl1 : (0 : Int) < (pl.length : Int) := by omega
        by_cases hlt : k < ll.length
        · obtain ⟨b2, o2, hLA, hy0, hy1⟩ := HLX.out.getE hlt
          first | subst hLA | (injection hLA with e; injection e with e1 e2 e3; subst e1; subst e2)
          have hlt' : (k : Int) < (ll.length : Int) := by omega
          cases heq : (ll[k].1.toList == nm.toList)
          · have HN := Lib.hid (chE_no (n := tx nm) hlt (by rw [eq_tlx] at heq; exact beq_eq_false_iff_ne.1 heq))
            generalize chE ll (tx nm) k = C0 at *
            generalize ll[k] = y at *
            obtain ⟨t, p2⟩ := y
            simp only at *
            go_wp2_with fail
            go_quiet (fail)
            all_goals
              go_wp2
              go_roundw
              case rel => exact ⟨k + 1, by omega, by rw [HN.out], by go_num, Below_drewN HBJ.out _⟩
              case measure => simp [intOf]; omega
          · have HN := Lib.hid (chE_yes (n := tx nm) hlt (by rw [eq_tlx] at heq; exact beq_iff_eq.1 heq))
            generalize chE ll (tx nm) k = C0 at *
            generalize ll[k] = y at *
            obtain ⟨t, p2⟩ := y
            simp only at *
            go_wp2_with fail
            go_quiet (fail)
            all_goals
              have hy1' := hy1
              go_wp2
              go_roundw
              case rel => exact ⟨k + 1, by omega, by rw [HN.out], by go_num, Below_drewN HBJ.out _⟩
              case measure => simp [intOf]; omega
        · have hlt' : ¬ (k : Int) < (ll.length : Int) := by omega
          rw [chE_all (n := tx nm) hso (k := k) (by omega)]
          have hge0 := @getE_pos ll (tx nm)
          have hG4 := fun p w h => sl4Get_any A c l p w h hlen
          cases hge : getE ll (tx nm) with
          | none =>
            rw [hge] at HGO
            have hgo := HGO.out (fun _ => rfl)
            have hg4 := hG4 (-1)
            generalize (getT l (-1)).getD ⟨#[]⟩ = T4 at *
            generalize (getT l (-1)).isSome = B4 at *
            have HG4 := Lib.hid hg4
            clear hg4
            clear hG4 hge0 HGO HNOL
            simp only [Option.getD_none]
            by_cases h1 : pl.length = 1
            · have h1' : ((pl.length : Int) == 1) = true := by rw [beq_iff_eq]; omega
              by_cases hroom : pc = 1
              · obtain rfl := hroom
                have hREC : ∀ w, Sl w encP 2 A l → Sl w encS 1 (some ⟨b, o, none⟩) pl → Calls Tryd.prog 87 #[.slice A l.length c, .int .i64 (-1), .slice (some ⟨b, o, none⟩) 0 0, .int .i64 leaf] w (SetRes (setP l (none) ((pl.drop 1).map tx) leaf) w) := fun w h1 h2 => by
                  have h := IH.out (none) (some ⟨b, o, none⟩) 0 w (fun q h => by cases h) h1 (Sl.gone (by rw [List.length_drop]; omega)) (by rw [List.length_drop]; omega) (fun x hx => HSZ.out x (List.mem_of_mem_drop hx))
                  rw [List.length_drop] at h
                  rw [show pl.length - 1 = 0 by omega] at h
                  exact h
                have HS0 := Lib.hid (fun x h => @setP_valid l (none) ((pl.drop 1).map tx) leaf x HV.out h)
                have HR := Lib.hid (show R = (setP l (none) ((pl.drop 1).map tx) leaf).bind (setUp ll (tx nm)) from hgo)
                clear hgo
                generalize setP l (none) ((pl.drop 1).map tx) leaf = S at *
                have HREC := Lib.hid hREC
                clear hREC h1
                go_wp2_with (go_at_call 40; refine (HG4.out _ (HS.out.below HBX.out)).mono ?_; rintro e w' ⟨rfl, rfl⟩)
                refine (HREC.out _ (HS.out.below HBX.out) (HPS.out.below HBX.out)).mono ?_
                rintro e w5 ⟨v5, m5, rfl, hb5, hres⟩
                replace HBX := Lib.hid (Below_then HBX.out hb5 (Nat.le_refl _))
                replace HLX := Lib.hid (HLX.out.below hb5)
                have HCELL := Lib.hid (Below_cells hb5 _ _ _ hd)
                clear hb5 hd
                cases S with
                | none =>
                  have HRN := Lib.hid (show R = none from HR.out)
                  clear HR
                  simp only [Option.isSome_none]
                  go_wp2
                  go_ret3
                  exact SetRes.no HRN.out HBX.out
                | some x =>
                  obtain ⟨rfl, B, d, rfl, hsB, hczB, hleB⟩ := hres x rfl
                  have HSB := Lib.hid hsB
                  have HVX := Lib.hid (HS0.out x rfl)
                  have HRX := Lib.hid (show R = if (putE ll (nm, x.2)).2 then (if (putT x.1 (mk (foldT (putE ll (nm, x.2)).1))).2.2 then some ((putT x.1 (mk (foldT (putE ll (nm, x.2)).1))).1, prOf (foldT (putE ll (nm, x.2)).1)) else none) else none by
                    have h := HR.out
                    rw [Option.bind_some] at h
                    unfold setUp at h
                    rw [mk_tx] at h; exact h)
                  clear HR hres hsB
                  have hlx := storeV_len HVX.out
                  have hPE := fun W h => sPutEntry_any LA lc ll (nm, x.2) W h HLC.out HLA.out HLE.out HLV.out HNM.out
                  have hok := @putE_ok ll (nm, x.2)
                  unfold EnRes at hPE
                  have hcell := HCELL.out
                  simp only [Option.isSome_some]
                  generalize putE ll (nm, x.2) = PE at *
                  obtain ⟨pl2, ok2⟩ := PE
                  obtain ⟨xs, xp⟩ := x
                  simp only at hPE hok HSB HVX HRX hlx hczB hleB
                  have HPE := Lib.hid hPE
                  clear hPE
                  go_wp2_with fail
                  refine (HPE.out _ HLX.out).mono ?_
                  rintro e w6 ⟨v6, rfl, hown6, hb6⟩
                  have HB6 := Lib.hid (Below_then HBX.out hb6 (Nat.le_refl _))
                  have HSB6 := Lib.hid (HSB.out.below hb6)
                  obtain ⟨X, dx, rfl, hlex, hsx, _⟩ := hown6.sl
                  have HX6 := Lib.hid hsx
                  clear hb6 hown6 hsx
                  cases ok2
                  · have HRN := Lib.hid (show R = none from HRX.out)
                    clear HRX hok
                    go_wp2
                    go_ret3
                    exact SetRes.no HRN.out HB6.out
                  · have HRY := Lib.hid (show R = if (putT xs (mk (foldT pl2))).2.2 then some ((putT xs (mk (foldT pl2))).1, prOf (tx (mk (foldT pl2)))) else none from HRX.out)
                    have hv2 := (hok rfl).2.1
                    have hp3 := entsV_len hv2
                    have hFT := fun w h => sFolderText_any X dx pl2 w h (by omega) (fitE_valid hv2)
                    have hfl := foldT_len pl2
                    have hPT := fun w h => sPutText_any B d xs (mk (foldT pl2)) w h hczB hleB (by omega) (fit_store HVX.out) (by rw [mk_size]; omega)
                    unfold PutRes at hPT
                    have hSP := fun w1 w2 v => @SetRes.put R xs (mk (foldT pl2)) w w1 w2 v HRY.out
                    clear HRY HRX hok hv2 hfl
                    generalize mk (foldT pl2) = FT at *
                    generalize putT xs FT = PT at *
                    obtain ⟨P1, P2, P3⟩ := PT
                    simp only at hPT hSP
                    have HSP := Lib.hid hSP
                    have HFT := Lib.hid hFT
                    have HPT := Lib.hid hPT
                    clear hFT hPT hSP
                    go_wp2_with fail
                    refine (HFT.out _ HX6.out).mono ?_
                    rintro e w7 ⟨rfl, hb7⟩
                    replace HB6 := Lib.hid (Below_then HB6.out hb7 (Nat.le_refl _))
                    replace HSB6 := Lib.hid (HSB6.out.below hb7)
                    clear hb7
                    go_wp2_with fail
                    refine (HPT.out _ HSB6.out).mono ?_
                    rintro e w8 ⟨v8, rfl, hown8, hb8⟩
                    have HO8 := Lib.hid hown8
                    have HB8 := Lib.hid hb8
                    clear hown8 hb8
                    go_wp2
                    go_ret3
                    exact HSP.out _ _ _ HO8.out HB6.out HB8.out
              · have hpc1 : ¬ pc = 1 := hroom
                have hREC : ∀ w, Sl w encP 2 A l → Sl w encS 1 (some ⟨b, o, none⟩) pl → Calls Tryd.prog 87 #[.slice A l.length c, .int .i64 (-1), .slice (some ⟨b, o + 1, none⟩) (pl.length - 1) (pc - 1), .int .i64 leaf] w (SetRes (setP l (none) ((pl.drop 1).map tx) leaf) w) := fun w h1 h2 => by
                  have h := IH.out (none) (some ⟨b, o + 1, none⟩) (pc - 1) w (fun q h => by cases h) h1 (h2.dropS) (by rw [List.length_drop]; omega) (fun x hx => HSZ.out x (List.mem_of_mem_drop hx))
                  rw [List.length_drop] at h
                  exact h
                have HS0 := Lib.hid (fun x h => @setP_valid l (none) ((pl.drop 1).map tx) leaf x HV.out h)
                have HR := Lib.hid (show R = (setP l (none) ((pl.drop 1).map tx) leaf).bind (setUp ll (tx nm)) from hgo)
                clear hgo
                generalize setP l (none) ((pl.drop 1).map tx) leaf = S at *
                have HREC := Lib.hid hREC
                clear hREC h1
                go_wp2_with (go_at_call 40; refine (HG4.out _ (HS.out.below HBX.out)).mono ?_; rintro e w' ⟨rfl, rfl⟩)
                refine (HREC.out _ (HS.out.below HBX.out) (HPS.out.below HBX.out)).mono ?_
                rintro e w5 ⟨v5, m5, rfl, hb5, hres⟩
                replace HBX := Lib.hid (Below_then HBX.out hb5 (Nat.le_refl _))
                replace HLX := Lib.hid (HLX.out.below hb5)
                have HCELL := Lib.hid (Below_cells hb5 _ _ _ hd)
                clear hb5 hd
                cases S with
                | none =>
                  have HRN := Lib.hid (show R = none from HR.out)
                  clear HR
                  simp only [Option.isSome_none]
                  go_wp2
                  go_ret3
                  exact SetRes.no HRN.out HBX.out
                | some x =>
                  obtain ⟨rfl, B, d, rfl, hsB, hczB, hleB⟩ := hres x rfl
                  have HSB := Lib.hid hsB
                  have HVX := Lib.hid (HS0.out x rfl)
                  have HRX := Lib.hid (show R = if (putE ll (nm, x.2)).2 then (if (putT x.1 (mk (foldT (putE ll (nm, x.2)).1))).2.2 then some ((putT x.1 (mk (foldT (putE ll (nm, x.2)).1))).1, prOf (foldT (putE ll (nm, x.2)).1)) else none) else none by
                    have h := HR.out
                    rw [Option.bind_some] at h
                    unfold setUp at h
                    rw [mk_tx] at h; exact h)
                  clear HR hres hsB
                  have hlx := storeV_len HVX.out
                  have hPE := fun W h => sPutEntry_any LA lc ll (nm, x.2) W h HLC.out HLA.out HLE.out HLV.out HNM.out
                  have hok := @putE_ok ll (nm, x.2)
                  unfold EnRes at hPE
                  have hcell := HCELL.out
                  simp only [Option.isSome_some]
                  generalize putE ll (nm, x.2) = PE at *
                  obtain ⟨pl2, ok2⟩ := PE
                  obtain ⟨xs, xp⟩ := x
                  simp only at hPE hok HSB HVX HRX hlx hczB hleB
                  have HPE := Lib.hid hPE
                  clear hPE
                  go_wp2_with fail
                  refine (HPE.out _ HLX.out).mono ?_
                  rintro e w6 ⟨v6, rfl, hown6, hb6⟩
                  have HB6 := Lib.hid (Below_then HBX.out hb6 (Nat.le_refl _))
                  have HSB6 := Lib.hid (HSB.out.below hb6)
                  obtain ⟨X, dx, rfl, hlex, hsx, _⟩ := hown6.sl
                  have HX6 := Lib.hid hsx
                  clear hb6 hown6 hsx
                  cases ok2
                  · have HRN := Lib.hid (show R = none from HRX.out)
                    clear HRX hok
                    go_wp2
                    go_ret3
                    exact SetRes.no HRN.out HB6.out
                  · have HRY := Lib.hid (show R = if (putT xs (mk (foldT pl2))).2.2 then some ((putT xs (mk (foldT pl2))).1, prOf (tx (mk (foldT pl2)))) else none from HRX.out)
                    have hv2 := (hok rfl).2.1
                    have hp3 := entsV_len hv2
                    have hFT := fun w h => sFolderText_any X dx pl2 w h (by omega) (fitE_valid hv2)
                    have hfl := foldT_len pl2
                    have hPT := fun w h => sPutText_any B d xs (mk (foldT pl2)) w h hczB hleB (by omega) (fit_store HVX.out) (by rw [mk_size]; omega)
                    unfold PutRes at hPT
                    have hSP := fun w1 w2 v => @SetRes.put R xs (mk (foldT pl2)) w w1 w2 v HRY.out
                    clear HRY HRX hok hv2 hfl
                    generalize mk (foldT pl2) = FT at *
                    generalize putT xs FT = PT at *
                    obtain ⟨P1, P2, P3⟩ := PT
                    simp only at hPT hSP
                    have HSP := Lib.hid hSP
                    have HFT := Lib.hid hFT
                    have HPT := Lib.hid hPT
                    clear hFT hPT hSP
                    go_wp2_with fail
                    refine (HFT.out _ HX6.out).mono ?_
                    rintro e w7 ⟨rfl, hb7⟩
                    replace HB6 := Lib.hid (Below_then HB6.out hb7 (Nat.le_refl _))
                    replace HSB6 := Lib.hid (HSB6.out.below hb7)
                    clear hb7
                    go_wp2_with fail
                    refine (HPT.out _ HSB6.out).mono ?_
                    rintro e w8 ⟨v8, rfl, hown8, hb8⟩
                    have HO8 := Lib.hid hown8
                    have HB8 := Lib.hid hb8
                    clear hown8 hb8
                    go_wp2
                    go_ret3
                    exact HSP.out _ _ _ HO8.out HB6.out HB8.out
            · have h1' : ((pl.length : Int) == 1) = false := by rw [beq_eq_false_iff_ne]; omega
              have hpc1 : ¬ pc = 1 := by omega
              have hREC : ∀ w, Sl w encP 2 A l → Sl w encS 1 (some ⟨b, o, none⟩) pl → Calls Tryd.prog 87 #[.slice A l.length c, .int .i64 (-1), .slice (some ⟨b, o + 1, none⟩) (pl.length - 1) (pc - 1), .int .i64 leaf] w (SetRes (setP l (none) ((pl.drop 1).map tx) leaf) w) := fun w h1 h2 => by
                have h := IH.out (none) (some ⟨b, o + 1, none⟩) (pc - 1) w (fun q h => by cases h) h1 (h2.dropS) (by rw [List.length_drop]; omega) (fun x hx => HSZ.out x (List.mem_of_mem_drop hx))
                rw [List.length_drop] at h
                exact h
              have HS0 := Lib.hid (fun x h => @setP_valid l (none) ((pl.drop 1).map tx) leaf x HV.out h)
              have HR := Lib.hid (show R = (setP l (none) ((pl.drop 1).map tx) leaf).bind (setUp ll (tx nm)) from hgo)
              clear hgo
              generalize setP l (none) ((pl.drop 1).map tx) leaf = S at *
              have HREC := Lib.hid hREC
              clear hREC h1
              go_wp2_with (go_at_call 40; refine (HG4.out _ (HS.out.below HBX.out)).mono ?_; rintro e w' ⟨rfl, rfl⟩)
              refine (HREC.out _ (HS.out.below HBX.out) (HPS.out.below HBX.out)).mono ?_
              rintro e w5 ⟨v5, m5, rfl, hb5, hres⟩
              replace HBX := Lib.hid (Below_then HBX.out hb5 (Nat.le_refl _))
              replace HLX := Lib.hid (HLX.out.below hb5)
              have HCELL := Lib.hid (Below_cells hb5 _ _ _ hd)
              clear hb5 hd
              cases S with
              | none =>
                have HRN := Lib.hid (show R = none from HR.out)
                clear HR
                simp only [Option.isSome_none]
                go_wp2
                go_ret3
                exact SetRes.no HRN.out HBX.out
              | some x =>
                obtain ⟨rfl, B, d, rfl, hsB, hczB, hleB⟩ := hres x rfl
                have HSB := Lib.hid hsB
                have HVX := Lib.hid (HS0.out x rfl)
                have HRX := Lib.hid (show R = if (putE ll (nm, x.2)).2 then (if (putT x.1 (mk (foldT (putE ll (nm, x.2)).1))).2.2 then some ((putT x.1 (mk (foldT (putE ll (nm, x.2)).1))).1, prOf (foldT (putE ll (nm, x.2)).1)) else none) else none by
                  have h := HR.out
                  rw [Option.bind_some] at h
                  unfold setUp at h
                  rw [mk_tx] at h; exact h)
                clear HR hres hsB
                have hlx := storeV_len HVX.out
                have hPE := fun W h => sPutEntry_any LA lc ll (nm, x.2) W h HLC.out HLA.out HLE.out HLV.out HNM.out
                have hok := @putE_ok ll (nm, x.2)
                unfold EnRes at hPE
                have hcell := HCELL.out
                simp only [Option.isSome_some]
                generalize putE ll (nm, x.2) = PE at *
                obtain ⟨pl2, ok2⟩ := PE
                obtain ⟨xs, xp⟩ := x
                simp only at hPE hok HSB HVX HRX hlx hczB hleB
                have HPE := Lib.hid hPE
                clear hPE
                go_wp2_with fail
                refine (HPE.out _ HLX.out).mono ?_
                rintro e w6 ⟨v6, rfl, hown6, hb6⟩
                have HB6 := Lib.hid (Below_then HBX.out hb6 (Nat.le_refl _))
                have HSB6 := Lib.hid (HSB.out.below hb6)
                obtain ⟨X, dx, rfl, hlex, hsx, _⟩ := hown6.sl
                have HX6 := Lib.hid hsx
                clear hb6 hown6 hsx
                cases ok2
                · have HRN := Lib.hid (show R = none from HRX.out)
                  clear HRX hok
                  go_wp2
                  go_ret3
                  exact SetRes.no HRN.out HB6.out
                · have HRY := Lib.hid (show R = if (putT xs (mk (foldT pl2))).2.2 then some ((putT xs (mk (foldT pl2))).1, prOf (tx (mk (foldT pl2)))) else none from HRX.out)
                  have hv2 := (hok rfl).2.1
                  have hp3 := entsV_len hv2
                  have hFT := fun w h => sFolderText_any X dx pl2 w h (by omega) (fitE_valid hv2)
                  have hfl := foldT_len pl2
                  have hPT := fun w h => sPutText_any B d xs (mk (foldT pl2)) w h hczB hleB (by omega) (fit_store HVX.out) (by rw [mk_size]; omega)
                  unfold PutRes at hPT
                  have hSP := fun w1 w2 v => @SetRes.put R xs (mk (foldT pl2)) w w1 w2 v HRY.out
                  clear HRY HRX hok hv2 hfl
                  generalize mk (foldT pl2) = FT at *
                  generalize putT xs FT = PT at *
                  obtain ⟨P1, P2, P3⟩ := PT
                  simp only at hPT hSP
                  have HSP := Lib.hid hSP
                  have HFT := Lib.hid hFT
                  have HPT := Lib.hid hPT
                  clear hFT hPT hSP
                  go_wp2_with fail
                  refine (HFT.out _ HX6.out).mono ?_
                  rintro e w7 ⟨rfl, hb7⟩
                  replace HB6 := Lib.hid (Below_then HB6.out hb7 (Nat.le_refl _))
                  replace HSB6 := Lib.hid (HSB6.out.below hb7)
                  clear hb7
                  go_wp2_with fail
                  refine (HPT.out _ HSB6.out).mono ?_
                  rintro e w8 ⟨v8, rfl, hown8, hb8⟩
                  have HO8 := Lib.hid hown8
                  have HB8 := Lib.hid hb8
                  clear hown8 hb8
                  go_wp2
                  go_ret3
                  exact HSP.out _ _ _ HO8.out HB6.out HB8.out
          | some q =>
            have hq0 : 0 ≤ q := hge0 hlv hge
            rw [hge] at HGO HNOL
            simp only [Option.getD_some]
            by_cases h1 : pl.length = 1
            · cases hfq : fileOf l q with
              | none =>
                have HRN := Lib.hid (HNOL.out h1 (by show (fileOf l q).isSome = false; rw [hfq]; rfl))
                have h1' : ((pl.length : Int) == 1) = true := by rw [beq_iff_eq]; omega
                have hgq := hG4 q
                have htz := getT_size HV.out (p := q)
                cases hgt : getT l q with
                | none =>
                  rw [hgt] at hgq
                  simp only [Option.getD_none, Option.isSome_none] at hgq
                  have HG4 := Lib.hid hgq
                  clear hgq hG4 hge0 HGO HNOL hfq
                  go_wp2_with (go_at_call 40; refine (HG4.out _ (HS.out.below HBX.out)).mono ?_; rintro e w' ⟨rfl, rfl⟩)
                  go_ret3
                  exact SetRes.no HRN.out HBX.out
                | some t =>
                  have hk1 : ¬ textK (bs t) = 1 := by
                    have h := hfq
                    unfold fileOf at h
                    rw [hgt, Option.bind_some] at h
                    rw [textK_one, show bs t = tx t from rfl, h]; simp
                  rw [hgt] at hgq htz
                  simp only [Option.getD_some, Option.isSome_some] at hgq htz
                  have hTK := fun w => sTextKind_any t w htz
                  generalize textK (bs t) = TK at *
                  have HTK := Lib.hid hTK
                  have HG4 := Lib.hid hgq
                  clear hgq hG4 hge0 HGO HNOL hfq hTK
                  go_wp2_with (go_at_call 40; refine (HG4.out _ (HS.out.below HBX.out)).mono ?_; rintro e w' ⟨rfl, rfl⟩)
                  refine (HTK.out _).mono ?_
                  rintro e w5 ⟨rfl, hb5⟩
                  replace HBX := Lib.hid (Below_then HBX.out hb5 (Nat.le_refl _))
                  clear hb5
                  go_wp2
                  go_ret3
                  exact SetRes.no HRN.out HBX.out
              | some fc =>
                have hgo := HGO.out (fun _ => by show (fileOf l q).isSome = true; rw [hfq]; rfl)
                have h1' : ((pl.length : Int) == 1) = true := by rw [beq_iff_eq]; omega
                have hgq := hG4 q
                have htz := getT_size HV.out (p := q)
                obtain ⟨t, hgt, hrt⟩ := Option.bind_eq_some_iff.1 (show (getT l q).bind (fun t => readFi (tx t)) = some fc from hfq)
                have hk1 : textK (bs t) = 1 := by rw [textK_one, show bs t = tx t from rfl, hrt]; rfl
                rw [hgt] at hgq htz
                simp only [Option.getD_some, Option.isSome_some] at hgq htz
                have hTK := fun w => sTextKind_any t w htz
                rw [hk1] at hTK
                have HTK := Lib.hid hTK
                have HG4 := Lib.hid hgq
                have HH1 := Lib.hid h1
                clear hgq hG4 hge0 HGO HNOL hfq hTK hk1 h1
                go_wp2_with (go_at_call 40; refine (HG4.out _ (HS.out.below HBX.out)).mono ?_; rintro e w' ⟨rfl, rfl⟩)
                refine (HTK.out _).mono ?_
                rintro e w5 ⟨rfl, hb5⟩
                replace HBX := Lib.hid (Below_then HBX.out hb5 (Nat.le_refl _))
                replace HLX := Lib.hid (HLX.out.below hb5)
                replace hd := Below_cells hb5 _ _ _ hd
                have h1 := HH1.out
                clear hb5 h1'
                by_cases hroom : pc = 1
                · obtain rfl := hroom
                  have hREC : ∀ w, Sl w encP 2 A l → Sl w encS 1 (some ⟨b, o, none⟩) pl → Calls Tryd.prog 87 #[.slice A l.length c, .int .i64 q, .slice (some ⟨b, o, none⟩) 0 0, .int .i64 leaf] w (SetRes (setP l (some q) ((pl.drop 1).map tx) leaf) w) := fun w h1 h2 => by
                    have h := IH.out (some q) (some ⟨b, o, none⟩) 0 w (fun q2 h => by injection h with h; omega) h1 (Sl.gone (by rw [List.length_drop]; omega)) (by rw [List.length_drop]; omega) (fun x hx => HSZ.out x (List.mem_of_mem_drop hx))
                    rw [List.length_drop] at h
                    rw [show pl.length - 1 = 0 by omega] at h
                    exact h
                  have HS0 := Lib.hid (fun x h => @setP_valid l (some q) ((pl.drop 1).map tx) leaf x HV.out h)
                  have HR := Lib.hid (show R = (setP l (some q) ((pl.drop 1).map tx) leaf).bind (setUp ll (tx nm)) from hgo)
                  clear hgo
                  generalize setP l (some q) ((pl.drop 1).map tx) leaf = S at *
                  have HREC := Lib.hid hREC
                  clear hREC h1
                  go_wp2_with fail
                  refine (HREC.out _ (HS.out.below HBX.out) (HPS.out.below HBX.out)).mono ?_
                  rintro e w5 ⟨v5, m5, rfl, hb5, hres⟩
                  replace HBX := Lib.hid (Below_then HBX.out hb5 (Nat.le_refl _))
                  replace HLX := Lib.hid (HLX.out.below hb5)
                  have HCELL := Lib.hid (Below_cells hb5 _ _ _ hd)
                  clear hb5 hd
                  cases S with
                  | none =>
                    have HRN := Lib.hid (show R = none from HR.out)
                    clear HR
                    simp only [Option.isSome_none]
                    go_wp2
                    go_ret3
                    exact SetRes.no HRN.out HBX.out
                  | some x =>
                    obtain ⟨rfl, B, d, rfl, hsB, hczB, hleB⟩ := hres x rfl
                    have HSB := Lib.hid hsB
                    have HVX := Lib.hid (HS0.out x rfl)
                    have HRX := Lib.hid (show R = if (putE ll (nm, x.2)).2 then (if (putT x.1 (mk (foldT (putE ll (nm, x.2)).1))).2.2 then some ((putT x.1 (mk (foldT (putE ll (nm, x.2)).1))).1, prOf (foldT (putE ll (nm, x.2)).1)) else none) else none by
                      have h := HR.out
                      rw [Option.bind_some] at h
                      unfold setUp at h
                      rw [mk_tx] at h; exact h)
                    clear HR hres hsB
                    have hlx := storeV_len HVX.out
                    have hPE := fun W h => sPutEntry_any LA lc ll (nm, x.2) W h HLC.out HLA.out HLE.out HLV.out HNM.out
                    have hok := @putE_ok ll (nm, x.2)
                    unfold EnRes at hPE
                    have hcell := HCELL.out
                    simp only [Option.isSome_some]
                    generalize putE ll (nm, x.2) = PE at *
                    obtain ⟨pl2, ok2⟩ := PE
                    obtain ⟨xs, xp⟩ := x
                    simp only at hPE hok HSB HVX HRX hlx hczB hleB
                    have HPE := Lib.hid hPE
                    clear hPE
                    go_wp2_with fail
                    refine (HPE.out _ HLX.out).mono ?_
                    rintro e w6 ⟨v6, rfl, hown6, hb6⟩
                    have HB6 := Lib.hid (Below_then HBX.out hb6 (Nat.le_refl _))
                    have HSB6 := Lib.hid (HSB.out.below hb6)
                    obtain ⟨X, dx, rfl, hlex, hsx, _⟩ := hown6.sl
                    have HX6 := Lib.hid hsx
                    clear hb6 hown6 hsx
                    cases ok2
                    · have HRN := Lib.hid (show R = none from HRX.out)
                      clear HRX hok
                      go_wp2
                      go_ret3
                      exact SetRes.no HRN.out HB6.out
                    · have HRY := Lib.hid (show R = if (putT xs (mk (foldT pl2))).2.2 then some ((putT xs (mk (foldT pl2))).1, prOf (tx (mk (foldT pl2)))) else none from HRX.out)
                      have hv2 := (hok rfl).2.1
                      have hp3 := entsV_len hv2
                      have hFT := fun w h => sFolderText_any X dx pl2 w h (by omega) (fitE_valid hv2)
                      have hfl := foldT_len pl2
                      have hPT := fun w h => sPutText_any B d xs (mk (foldT pl2)) w h hczB hleB (by omega) (fit_store HVX.out) (by rw [mk_size]; omega)
                      unfold PutRes at hPT
                      have hSP := fun w1 w2 v => @SetRes.put R xs (mk (foldT pl2)) w w1 w2 v HRY.out
                      clear HRY HRX hok hv2 hfl
                      generalize mk (foldT pl2) = FT at *
                      generalize putT xs FT = PT at *
                      obtain ⟨P1, P2, P3⟩ := PT
                      simp only at hPT hSP
                      have HSP := Lib.hid hSP
                      have HFT := Lib.hid hFT
                      have HPT := Lib.hid hPT
                      clear hFT hPT hSP
                      go_wp2_with fail
                      refine (HFT.out _ HX6.out).mono ?_
                      rintro e w7 ⟨rfl, hb7⟩
                      replace HB6 := Lib.hid (Below_then HB6.out hb7 (Nat.le_refl _))
                      replace HSB6 := Lib.hid (HSB6.out.below hb7)
                      clear hb7
                      go_wp2_with fail
                      refine (HPT.out _ HSB6.out).mono ?_
                      rintro e w8 ⟨v8, rfl, hown8, hb8⟩
                      have HO8 := Lib.hid hown8
                      have HB8 := Lib.hid hb8
                      clear hown8 hb8
                      go_wp2
                      go_ret3
                      exact HSP.out _ _ _ HO8.out HB6.out HB8.out
                · have hpc1 : ¬ pc = 1 := hroom
                  have hREC : ∀ w, Sl w encP 2 A l → Sl w encS 1 (some ⟨b, o, none⟩) pl → Calls Tryd.prog 87 #[.slice A l.length c, .int .i64 q, .slice (some ⟨b, o + 1, none⟩) (pl.length - 1) (pc - 1), .int .i64 leaf] w (SetRes (setP l (some q) ((pl.drop 1).map tx) leaf) w) := fun w h1 h2 => by
                    have h := IH.out (some q) (some ⟨b, o + 1, none⟩) (pc - 1) w (fun q2 h => by injection h with h; omega) h1 (h2.dropS) (by rw [List.length_drop]; omega) (fun x hx => HSZ.out x (List.mem_of_mem_drop hx))
                    rw [List.length_drop] at h
                    exact h
                  have HS0 := Lib.hid (fun x h => @setP_valid l (some q) ((pl.drop 1).map tx) leaf x HV.out h)
                  have HR := Lib.hid (show R = (setP l (some q) ((pl.drop 1).map tx) leaf).bind (setUp ll (tx nm)) from hgo)
                  clear hgo
                  generalize setP l (some q) ((pl.drop 1).map tx) leaf = S at *
                  have HREC := Lib.hid hREC
                  clear hREC h1
                  go_wp2_with fail
                  refine (HREC.out _ (HS.out.below HBX.out) (HPS.out.below HBX.out)).mono ?_
                  rintro e w5 ⟨v5, m5, rfl, hb5, hres⟩
                  replace HBX := Lib.hid (Below_then HBX.out hb5 (Nat.le_refl _))
                  replace HLX := Lib.hid (HLX.out.below hb5)
                  have HCELL := Lib.hid (Below_cells hb5 _ _ _ hd)
                  clear hb5 hd
                  cases S with
                  | none =>
                    have HRN := Lib.hid (show R = none from HR.out)
                    clear HR
                    simp only [Option.isSome_none]
                    go_wp2
                    go_ret3
                    exact SetRes.no HRN.out HBX.out
                  | some x =>
                    obtain ⟨rfl, B, d, rfl, hsB, hczB, hleB⟩ := hres x rfl
                    have HSB := Lib.hid hsB
                    have HVX := Lib.hid (HS0.out x rfl)
                    have HRX := Lib.hid (show R = if (putE ll (nm, x.2)).2 then (if (putT x.1 (mk (foldT (putE ll (nm, x.2)).1))).2.2 then some ((putT x.1 (mk (foldT (putE ll (nm, x.2)).1))).1, prOf (foldT (putE ll (nm, x.2)).1)) else none) else none by
                      have h := HR.out
                      rw [Option.bind_some] at h
                      unfold setUp at h
                      rw [mk_tx] at h; exact h)
                    clear HR hres hsB
                    have hlx := storeV_len HVX.out
                    have hPE := fun W h => sPutEntry_any LA lc ll (nm, x.2) W h HLC.out HLA.out HLE.out HLV.out HNM.out
                    have hok := @putE_ok ll (nm, x.2)
                    unfold EnRes at hPE
                    have hcell := HCELL.out
                    simp only [Option.isSome_some]
                    generalize putE ll (nm, x.2) = PE at *
                    obtain ⟨pl2, ok2⟩ := PE
                    obtain ⟨xs, xp⟩ := x
                    simp only at hPE hok HSB HVX HRX hlx hczB hleB
                    have HPE := Lib.hid hPE
                    clear hPE
                    go_wp2_with fail
                    refine (HPE.out _ HLX.out).mono ?_
                    rintro e w6 ⟨v6, rfl, hown6, hb6⟩
                    have HB6 := Lib.hid (Below_then HBX.out hb6 (Nat.le_refl _))
                    have HSB6 := Lib.hid (HSB.out.below hb6)
                    obtain ⟨X, dx, rfl, hlex, hsx, _⟩ := hown6.sl
                    have HX6 := Lib.hid hsx
                    clear hb6 hown6 hsx
                    cases ok2
                    · have HRN := Lib.hid (show R = none from HRX.out)
                      clear HRX hok
                      go_wp2
                      go_ret3
                      exact SetRes.no HRN.out HB6.out
                    · have HRY := Lib.hid (show R = if (putT xs (mk (foldT pl2))).2.2 then some ((putT xs (mk (foldT pl2))).1, prOf (tx (mk (foldT pl2)))) else none from HRX.out)
                      have hv2 := (hok rfl).2.1
                      have hp3 := entsV_len hv2
                      have hFT := fun w h => sFolderText_any X dx pl2 w h (by omega) (fitE_valid hv2)
                      have hfl := foldT_len pl2
                      have hPT := fun w h => sPutText_any B d xs (mk (foldT pl2)) w h hczB hleB (by omega) (fit_store HVX.out) (by rw [mk_size]; omega)
                      unfold PutRes at hPT
                      have hSP := fun w1 w2 v => @SetRes.put R xs (mk (foldT pl2)) w w1 w2 v HRY.out
                      clear HRY HRX hok hv2 hfl
                      generalize mk (foldT pl2) = FT at *
                      generalize putT xs FT = PT at *
                      obtain ⟨P1, P2, P3⟩ := PT
                      simp only at hPT hSP
                      have HSP := Lib.hid hSP
                      have HFT := Lib.hid hFT
                      have HPT := Lib.hid hPT
                      clear hFT hPT hSP
                      go_wp2_with fail
                      refine (HFT.out _ HX6.out).mono ?_
                      rintro e w7 ⟨rfl, hb7⟩
                      replace HB6 := Lib.hid (Below_then HB6.out hb7 (Nat.le_refl _))
                      replace HSB6 := Lib.hid (HSB6.out.below hb7)
                      clear hb7
                      go_wp2_with fail
                      refine (HPT.out _ HSB6.out).mono ?_
                      rintro e w8 ⟨v8, rfl, hown8, hb8⟩
                      have HO8 := Lib.hid hown8
                      have HB8 := Lib.hid hb8
                      clear hown8 hb8
                      go_wp2
                      go_ret3
                      exact HSP.out _ _ _ HO8.out HB6.out HB8.out
            · have hgo := HGO.out (fun h => absurd h h1)
              have h1' : ((pl.length : Int) == 1) = false := by rw [beq_eq_false_iff_ne]; omega
              have hg4 := hG4 q
              generalize (getT l q).getD ⟨#[]⟩ = T4 at *
              generalize (getT l q).isSome = B4 at *
              have HG4 := Lib.hid hg4
              clear hg4
              clear hG4 hge0 HGO HNOL
              have hpc1 : ¬ pc = 1 := by omega
              have hREC : ∀ w, Sl w encP 2 A l → Sl w encS 1 (some ⟨b, o, none⟩) pl → Calls Tryd.prog 87 #[.slice A l.length c, .int .i64 q, .slice (some ⟨b, o + 1, none⟩) (pl.length - 1) (pc - 1), .int .i64 leaf] w (SetRes (setP l (some q) ((pl.drop 1).map tx) leaf) w) := fun w h1 h2 => by
                have h := IH.out (some q) (some ⟨b, o + 1, none⟩) (pc - 1) w (fun q2 h => by injection h with h; omega) h1 (h2.dropS) (by rw [List.length_drop]; omega) (fun x hx => HSZ.out x (List.mem_of_mem_drop hx))
                rw [List.length_drop] at h
                exact h
              have HS0 := Lib.hid (fun x h => @setP_valid l (some q) ((pl.drop 1).map tx) leaf x HV.out h)
              have HR := Lib.hid (show R = (setP l (some q) ((pl.drop 1).map tx) leaf).bind (setUp ll (tx nm)) from hgo)
              clear hgo
              generalize setP l (some q) ((pl.drop 1).map tx) leaf = S at *
              have HREC := Lib.hid hREC
              clear hREC h1
              go_wp2_with (go_at_call 40; refine (HG4.out _ (HS.out.below HBX.out)).mono ?_; rintro e w' ⟨rfl, rfl⟩)
              refine (HREC.out _ (HS.out.below HBX.out) (HPS.out.below HBX.out)).mono ?_
              rintro e w5 ⟨v5, m5, rfl, hb5, hres⟩
              replace HBX := Lib.hid (Below_then HBX.out hb5 (Nat.le_refl _))
              replace HLX := Lib.hid (HLX.out.below hb5)
              have HCELL := Lib.hid (Below_cells hb5 _ _ _ hd)
              clear hb5 hd
              cases S with
              | none =>
                have HRN := Lib.hid (show R = none from HR.out)
                clear HR
                simp only [Option.isSome_none]
                go_wp2
                go_ret3
                exact SetRes.no HRN.out HBX.out
              | some x =>
                obtain ⟨rfl, B, d, rfl, hsB, hczB, hleB⟩ := hres x rfl
                have HSB := Lib.hid hsB
                have HVX := Lib.hid (HS0.out x rfl)
                have HRX := Lib.hid (show R = if (putE ll (nm, x.2)).2 then (if (putT x.1 (mk (foldT (putE ll (nm, x.2)).1))).2.2 then some ((putT x.1 (mk (foldT (putE ll (nm, x.2)).1))).1, prOf (foldT (putE ll (nm, x.2)).1)) else none) else none by
                  have h := HR.out
                  rw [Option.bind_some] at h
                  unfold setUp at h
                  rw [mk_tx] at h; exact h)
                clear HR hres hsB
                have hlx := storeV_len HVX.out
                have hPE := fun W h => sPutEntry_any LA lc ll (nm, x.2) W h HLC.out HLA.out HLE.out HLV.out HNM.out
                have hok := @putE_ok ll (nm, x.2)
                unfold EnRes at hPE
                have hcell := HCELL.out
                simp only [Option.isSome_some]
                generalize putE ll (nm, x.2) = PE at *
                obtain ⟨pl2, ok2⟩ := PE
                obtain ⟨xs, xp⟩ := x
                simp only at hPE hok HSB HVX HRX hlx hczB hleB
                have HPE := Lib.hid hPE
                clear hPE
                go_wp2_with fail
                refine (HPE.out _ HLX.out).mono ?_
                rintro e w6 ⟨v6, rfl, hown6, hb6⟩
                have HB6 := Lib.hid (Below_then HBX.out hb6 (Nat.le_refl _))
                have HSB6 := Lib.hid (HSB.out.below hb6)
                obtain ⟨X, dx, rfl, hlex, hsx, _⟩ := hown6.sl
                have HX6 := Lib.hid hsx
                clear hb6 hown6 hsx
                cases ok2
                · have HRN := Lib.hid (show R = none from HRX.out)
                  clear HRX hok
                  go_wp2
                  go_ret3
                  exact SetRes.no HRN.out HB6.out
                · have HRY := Lib.hid (show R = if (putT xs (mk (foldT pl2))).2.2 then some ((putT xs (mk (foldT pl2))).1, prOf (tx (mk (foldT pl2)))) else none from HRX.out)
                  have hv2 := (hok rfl).2.1
                  have hp3 := entsV_len hv2
                  have hFT := fun w h => sFolderText_any X dx pl2 w h (by omega) (fitE_valid hv2)
                  have hfl := foldT_len pl2
                  have hPT := fun w h => sPutText_any B d xs (mk (foldT pl2)) w h hczB hleB (by omega) (fit_store HVX.out) (by rw [mk_size]; omega)
                  unfold PutRes at hPT
                  have hSP := fun w1 w2 v => @SetRes.put R xs (mk (foldT pl2)) w w1 w2 v HRY.out
                  clear HRY HRX hok hv2 hfl
                  generalize mk (foldT pl2) = FT at *
                  generalize putT xs FT = PT at *
                  obtain ⟨P1, P2, P3⟩ := PT
                  simp only at hPT hSP
                  have HSP := Lib.hid hSP
                  have HFT := Lib.hid hFT
                  have HPT := Lib.hid hPT
                  clear hFT hPT hSP
                  go_wp2_with fail
                  refine (HFT.out _ HX6.out).mono ?_
                  rintro e w7 ⟨rfl, hb7⟩
                  replace HB6 := Lib.hid (Below_then HB6.out hb7 (Nat.le_refl _))
                  replace HSB6 := Lib.hid (HSB6.out.below hb7)
                  clear hb7
                  go_wp2_with fail
                  refine (HPT.out _ HSB6.out).mono ?_
                  rintro e w8 ⟨v8, rfl, hown8, hb8⟩
                  have HO8 := Lib.hid hown8
                  have HB8 := Lib.hid hb8
                  clear hown8 hb8
                  go_wp2
                  go_ret3
                  exact HSP.out _ _ _ HO8.out HB6.out HB8.out
end Go.Proofs.YtaghiefokmapmaaDoor
