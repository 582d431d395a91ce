/- Written by merge.py: Jp, Rw, Pp, Ct, Rf, En, Be, Tr, Tr2, Tp, Tr3, Pr, Sto, Ev, Co, In, Bs. -/
import Derived.Lib.IndexBytes
import Derived.Shelf.Abstract
import Derived.Laws.CopyRow
import Derived.Laws.IdiomCopy
import Derived.Lib.AppendZerosOnto
import Derived.Lib.Overlaps
import Derived.Shelf.Spec.SlicesInsert
import Derived.Laws.CopyOwn
import Derived.Test.YtaghiefokmapmaaGreatDoorMgExactOverQuotas3
/- JoinPath of the reference, walked. -/
set_option linter.unusedVariables false
namespace Go.Proofs.YtaghiefokmapmaaGreatDoor
open Go.RowKit
def accJ (l : List ByteArray) (k : Nat) : ByteArray := mk (joinB ((l.take k).map bs))
theorem joinB_snoc (a : List Bs) (p : Bs) : joinB (a ++ [p]) = joinB a ++ 47 :: p := by unfold joinB; simp
theorem accJ_zero (l : List ByteArray) : accJ l 0 = ⟨#[]⟩ := by simp [accJ, joinB, mk]
theorem accJ_succ {l : List ByteArray} {k : Nat} (h : k < l.length) : accJ l k ++ ⟨#[47]⟩ ++ l[k] = accJ l (k + 1) := by
  unfold accJ
  rw [← List.take_append_getElem h, List.map_append, List.map_singleton, joinB_snoc]
  have e : (⟨#[47]⟩ : ByteArray) = mk [47] := rfl
  rw [e, mk_append]
  conv => lhs; rhs; rw [← mk_bs l[k]]
  rw [mk_append, List.append_assoc]; rfl
theorem accJ_len {l : List ByteArray} {k : Nat} (hk : k ≤ l.length) : (accJ l k).size = 0 ↔ k = 0 := by
  unfold accJ
  rw [mk_size]
  cases k with
  | zero => simp [joinB]
  | succ k =>
    cases l with
    | nil => simp at hk
    | cons p r => simp [joinB]
theorem word_size {p : ByteArray} (h : wordV (bs p) = true) : p.size ≤ 8 := by
  unfold wordV at h
  rw [Bool.and_eq_true, Bool.and_eq_true, decide_eq_true_eq] at h
  have := h.1.1.2
  rw [size_bs] at this; exact this
theorem joinP_long {l : List ByteArray} (h : 3 < l.length) : joinP (l.map bs) = [] := by
  unfold joinP
  rw [if_neg]
  rw [partsV_iff]; simp; omega
theorem joinP_bad {l : List ByteArray} {k : Nat} (hk : k < l.length) (h : wordV (bs l[k]) = false) : joinP (l.map bs) = [] := by
  unfold joinP
  rw [if_neg]
  rw [partsV_iff]
  intro hh
  have := hh.2 (bs l[k]) (List.mem_map.2 ⟨_, List.getElem_mem hk, rfl⟩)
  rw [h] at this; cases this
theorem joinP_good {l : List ByteArray} (h3 : l.length ≤ 3) (h : ∀ j (hj : j < l.length), wordV (bs l[j]) = true) : partsV (l.map bs) = true := by
  rw [partsV_iff]
  refine ⟨by simpa using h3, fun p hp => ?_⟩
  obtain ⟨q, hq, rfl⟩ := List.mem_map.1 hp
  obtain ⟨i, hi, rfl⟩ := List.getElem_of_mem hq
  exact h i hi
theorem joinP_end {l : List ByteArray} (h3 : l.length ≤ 3) (h : ∀ j (hj : j < l.length), wordV (bs l[j]) = true) (hne : 0 < l.length) : mk (joinP (l.map bs)) = accJ l l.length := by
  unfold joinP accJ
  rw [joinP_good h3 h, if_pos rfl, if_neg, List.take_length]
  intro e; rw [List.map_eq_nil_iff] at e; subst e; simp at hne
set_option maxHeartbeats 2000000 in
set_option maxRecDepth 100000 in
theorem sJoinPath_any (A : Option Addr) (c : Nat) (l : List ByteArray) (w : World) (hs : Sl w encS 1 A l) (hl : l.length ≤ 16777216) (hf : ∀ p ∈ l, p.size ≤ 16777216) :
    Calls Tryz.prog 172 #[.slice A l.length c] w fun e w' => e = .returned (.string (mk (joinP (l.map bs)))) ∧ w = w' := by
  have HS := Lib.hid hs
  have HF := Lib.hid hf
  clear hs hf
  by_cases h3 : 3 < l.length
  · have E := Lib.hid (joinP_long h3)
    rw [E.out, mk_nil]
    have h3' : (3 : Int) < (l.length : Int) := by omega
    go_enter Tryz.func172, Tryz.ntmps172
    go_wp2
    go_loop [3, 4] (fun o i => ∃ k : Nat, k < l.length ∧ o = .string ⟨#[]⟩ ∧ i = .int .i64 k) (fun _ _ => 0)
    case atStart => exact ⟨0, by omega, rfl, rfl⟩
    case round =>
      obtain ⟨k, hk, rfl, rfl⟩ := hrel
      obtain ⟨b, o, rfl, hc⟩ := HS.out.getS hk
      have hz := HF.out _ (List.getElem_mem hk)
      generalize l[k] = p at *
      have hW := fun w => sWordValid_any p w hz
      cases hw : wordV (bs p)
      all_goals
        rw [hw] at hW
        have HW := Lib.hid hW
        clear hW hw
        go_wp2_with (go_at_call 175; refine (HW.out _).mono ?_; rintro e w' ⟨rfl, rfl⟩)
        go_ret
        exact ⟨rfl, rfl⟩
  · have h3b : ¬ (3 : Int) < (l.length : Int) := by omega
    have HB := Lib.hid (fun k (hk : k < l.length) h => @joinP_bad l k hk h)
    have HE := Lib.hid (@joinP_end l (by omega))
    generalize hJ : mk (joinP (l.map bs)) = J at *
    have HJ := Lib.hid hJ
    clear hJ
    go_enter Tryz.func172, Tryz.ntmps172
    go_wp2
    go_loop [3, 4] (fun o i => ∃ (k : Nat) (acc : ByteArray), k ≤ l.length ∧ i = .int .i64 k ∧ o = .string acc ∧ acc.size ≤ 9 * k ∧ Hid (acc = accJ l k) ∧ Hid (∀ j (h : j < l.length), j < k → wordV (bs l[j]) = true)) (fun _ i => l.length - (intOf i).toNat)
    case atStart => exact ⟨0, _, Nat.zero_le _, rfl, rfl, by simp [ByteArray.size], (accJ_zero l).symm, fun j h h2 => by omega⟩
    case round =>
      obtain ⟨k, acc, hk, rfl, rfl, hz, HA, HH⟩ := hrel
      by_cases hlt : k < l.length
      · have hst := accJ_succ hlt
        rw [← HA.out] at hst
        obtain ⟨b, o, rfl, hc⟩ := HS.out.getS hlt
        have hzp := HF.out _ (List.getElem_mem hlt)
        have HBk := Lib.hid (fun h => HB.out k hlt h)
        have HSTk := Lib.hid (fun (h : wordV (bs l[k]) = true) => show ∀ j (hj : j < l.length), j < k + 1 → wordV (bs l[j]) = true from fun j hj h2 => by
          by_cases e : j = k
          · subst e; exact h
          · exact HH.out j hj (by omega))
        generalize l[k] = p at *
        have hW := fun w => sWordValid_any p w hzp
        cases hw : wordV (bs p)
        · have HN := Lib.hid (show J = ⟨#[]⟩ by rw [← HJ.out, HBk.out hw]; rfl)
          rw [hw] at hW
          have HW := Lib.hid hW
          clear hW hw hst HSTk HBk
          go_wp2_with (go_at_call 175; refine (HW.out _).mono ?_; rintro e w' ⟨rfl, rfl⟩)
          go_ret
          rw [HN.out]
          exact ⟨rfl, rfl⟩
        · have HN := Lib.hid (HSTk.out hw)
          have hps := word_size hw
          rw [hw] at hW
          have HW := Lib.hid hW
          have HST := Lib.hid hst
          have hq1 : (acc ++ ⟨#[47]⟩).size ≤ 9 * k + 1 := by rw [ByteArray.size_append]; have : (⟨#[47]⟩ : ByteArray).size = 1 := rfl; omega
          have hq2 : (acc ++ ⟨#[47]⟩ ++ p).size ≤ 9 * (k + 1) := by rw [ByteArray.size_append]; omega
          clear hW hw hst HSTk HBk
          go_wp2_with (go_at_call 175; refine (HW.out _).mono ?_; rintro e w' ⟨rfl, rfl⟩)
          go_round
          case rel => exact ⟨k + 1, _, by omega, by go_num, rfl, hq2, HST.out, HN.out⟩
          case measure => simp [intOf]; omega
      · have e : k = l.length := by omega
        have hsz := (accJ_len (l := l) hk)
        rw [← HA.out] at hsz
        by_cases h0 : l.length = 0
        · have hnil : l = [] := List.length_eq_zero_iff.1 h0
          have hacc : acc = ⟨#[]⟩ := by rw [HA.out, e, h0, accJ_zero]
          subst hacc
          have HN := Lib.hid (show J = ⟨#[47]⟩ by rw [← HJ.out, hnil]; rfl)
          clear hsz e hnil
          go_wp2
          go_ret
          rw [HN.out]
          exact ⟨rfl, rfl⟩
        · obtain ⟨hne, hne2⟩ := ne_tl (s := acc) (by have := fun h => h0 (by have := hsz.1 h; omega); omega)
          have HN := Lib.hid (show J = acc by rw [HE.out (fun j hj => HH.out j hj (by omega)) (by omega), HA.out, e])
          clear hsz e
          go_wp2
          go_ret
          rw [HN.out]
          exact ⟨rfl, rfl⟩
end Go.Proofs.YtaghiefokmapmaaGreatDoor

/- Rows of structs: one element written anew; repaired pieces, walked. -/
set_option linter.unusedVariables false
namespace Go.Proofs.YtaghiefokmapmaaGreatDoor
open Go.RowKit

theorem setAll_cells {g : Nat} {E : TypeId} {m : Nat × Nat} : ∀ (us : List Value) (w : World) (j : Nat) (cs : Array Value), w.heap[g]? = some (.cells cs E (0, 0)) →
    ∃ cs' : Array Value, (setAll w g j us).heap[g]? = some (.cells cs' E (0, 0)) ∧ cs'.size = cs.size ∧ ∀ p, cs'[p]? = if j ≤ p ∧ p < j + us.length ∧ p < cs.size then us[p - j]? else cs[p]?
  | [], w, j, cs, h => ⟨cs, h, rfl, fun p => by rw [if_neg]; simp; omega⟩
  | u :: r, w, j, cs, h => by
    obtain ⟨cs', h1, h2, h3⟩ := setAll_cells (m := m) r (w.setCell ⟨g, j, none⟩ u) (j + 1) (cs.setIfInBounds j u) (heap_setCell_same w g j cs E u h)
    refine ⟨cs', h1, by rw [h2]; simp, fun p => ?_⟩
    rw [h3 p]
    simp only [Array.size_setIfInBounds, List.length_cons]
    by_cases hp : p = j
    · subst hp
      rw [if_neg (by omega)]
      by_cases hs : p < cs.size
      · rw [if_pos (by omega)]; simp [hs]
      · rw [if_neg (by omega), Array.getElem?_eq_none (by simp; omega), Array.getElem?_eq_none (by omega)]
    · rw [Array.getElem?_setIfInBounds_ne (by omega)]
      by_cases hh : j + 1 ≤ p ∧ p < j + 1 + r.length ∧ p < cs.size
      · rw [if_pos hh, if_pos (by omega)]
        have e : p - j = p - (j + 1) + 1 := by omega
        rw [e, List.getElem?_cons_succ]
      · rw [if_neg hh, if_neg (by omega)]
/-- Element i of an owned row written anew. -/
theorem Own.setEl {α : Type} {enc : α → List Value} {w : World} {base size : Nat} {E : TypeId} {g n cap : Nat} {l : List α} (h : Own w base E size enc (.slice (some ⟨g, 0, none⟩) n cap) l) (he : ∀ x, (enc x).length = size) (hsz : 0 < size) {i : Nat} (hi : i < l.length) (x : α) :
    Own (setAll w g (i * size) (enc x)) base E size enc (.slice (some ⟨g, 0, none⟩) n cap) (l.set i x) := by
  rcases h.2 with ⟨hv, hn⟩ | ⟨g', cap', cur, hv, hg, hh, hnc, hcm, hs, ht⟩
  · injection hv with e; cases e
  · injection hv with e1 e2 e3
    injection e1 with e1; injection e1 with e1
    subst e1 e2 e3
    obtain ⟨cs', h1, h2, h3⟩ := setAll_cells (m := (0, 0)) (enc x) w (i * size) cur hh
    refine ⟨flat_length he _, .inr ⟨g, cap, cs', by rw [List.length_set], hg, h1, by rw [List.length_set]; exact hnc, hcm, by rw [h2]; exact hs, ?_⟩⟩
    have hlen : (flat enc (l.set i x)).length = l.length * size := by rw [flat_length he, List.length_set]
    have hls : l.length * size ≤ cur.size := by rw [hs]; exact Nat.mul_le_mul_right _ hnc
    have hi2 : i * size + size ≤ l.length * size := by
      have := Nat.mul_le_mul_right size (show i + 1 ≤ l.length from hi)
      rwa [Nat.succ_mul] at this
    have h0 : (flat enc l).length = l.length * size := flat_length he l
    rw [List.length_set]
    apply List.ext_getElem?
    intro p
    by_cases hp : p < l.length * size
    · rw [List.getElem?_take_of_lt hp, Array.getElem?_toList, h3 p, he]
      have hq : p / size < l.length := Nat.div_lt_of_lt_mul (by rwa [Nat.mul_comm] at hp)
      have hdm : p / size * size + p % size = p := by rw [Nat.mul_comm]; exact Nat.div_add_mod p size
      have hms := Nat.mod_lt p hsz
      have hg2 := flat_get he (l.set i x) (p / size) (by rw [List.length_set]; exact hq) (p % size) hms
      rw [hdm] at hg2
      rw [hg2, List.getElem_set]
      by_cases hqi : i = p / size
      · subst hqi
        rw [if_pos rfl, if_pos (by omega)]
        congr 1; omega
      · rw [if_neg hqi, if_neg]
        · have hg3 := flat_get he l (p / size) hq (p % size) hms
          rw [hdm] at hg3
          rw [← hg3]
          have this : (cur.toList.take (l.length * size))[p]? = (flat enc l)[p]? := by rw [ht]
          rw [List.getElem?_take_of_lt hp, Array.getElem?_toList] at this
          exact this
        · intro hh
          apply hqi
          have a1 : i ≤ p / size := (Nat.le_div_iff_mul_le hsz).2 hh.1
          have a2 : p / size < i + 1 := Nat.div_lt_of_lt_mul (by rw [Nat.mul_comm, Nat.succ_mul]; exact hh.2.1)
          omega
    · rw [List.getElem?_eq_none (by simp; omega), List.getElem?_eq_none (by omega)]
theorem Own.free' {α : Type} {enc : α → List Value} {w : World} {base size : Nat} {E : TypeId} {g n cap : Nat} {l : List α} (h : Own w base E size enc (.slice (some ⟨g, 0, none⟩) n cap) l) (j : Nat) : w.frozen? ⟨g, j, none⟩ = false := by
  rcases h.2 with ⟨hv, hn⟩ | ⟨g', cap', cur, hv, hg, hh, hnc, hcm, hs, ht⟩
  · injection hv with e; cases e
  · injection hv with e1
    injection e1 with e1; injection e1 with e1
    subst e1
    exact frozen_of_row w g j cur E hh
/-- An owned row that is not empty: its head. -/
theorem Own.head {α : Type} {enc : α → List Value} {w : World} {base size : Nat} {E : TypeId} {A : Option Addr} {n c : Nat} {l : List α} (h : Own w base E size enc (.slice A n c) l) (hl : 0 < l.length) : ∃ g, A = some ⟨g, 0, none⟩ ∧ base ≤ g ∧ g < w.heap.size := by
  obtain ⟨A', c', e, _, _, hb⟩ := h.sl
  injection e with e1
  rcases hb with ⟨hz, _⟩ | ⟨g, hg, h1, h2⟩
  · subst hz; simp at hl
  · exact ⟨g, e1.trans hg, h1, h2⟩
theorem Own.apartW {α : Type} {enc : α → List Value} {w w' : World} {g base size : Nat} {E : TypeId} {v : Value} {l : List α} (h : Own w base E size enc v l) (ho : Only g w w') (hb : ∀ q, v.ownBlock = some q → q ≠ g) : Own w' base E size enc v l := by
  refine World.ownsRow.kept h (row := some g) ho ?_
  cases hv : v.ownBlock with
  | none => exact .inl rfl
  | some k => right; intro e; injection e with e; exact hb k hv e

/-! ### plain -/
theorem find_take {α : Type} (f : α → Bool) (l : List α) (j : Nat) (h : j < l.length) : (l.take (j + 1)).find? f = ((l.take j).find? f).or (if f l[j] then some l[j] else none) := by
  rw [List.take_succ_eq_append_getElem h, List.find?_append]
  congr 1
  cases h2 : f l[j] <;> simp [h2]
theorem goodCopy_take {p : Int} {copies : List Pc} {j : Nat} (h : j < copies.length) : goodCopy p (copies.take (j + 1)) = (goodCopy p (copies.take j)).or (if copies[j].1 == p && pieceR copies[j] then some copies[j] else none) :=
  find_take _ copies j h
theorem goodCopy_prefix {p : Int} {copies : List Pc} {j : Nat} {q : Pc} (h : goodCopy p (copies.take j) = some q) : goodCopy p copies = some q := by
  unfold goodCopy at *
  have e : copies = copies.take j ++ copies.drop j := (List.take_append_drop _ _).symm
  rw [e, List.find?_append, h]; rfl
theorem repair1_none {copies : List Pc} {p : Pc} (h : pieceR p = false) (hg : goodCopy p.1 copies = none) : repair1 copies p = (p, 0) := by unfold repair1; rw [if_neg (by simp [h]), hg]
theorem repair1_some {copies : List Pc} {p q : Pc} (h : pieceR p = false) (hg : goodCopy p.1 copies = some q) : repair1 copies p = (q, 1) := by unfold repair1; rw [if_neg (by simp [h]), hg]
theorem repairs_len (copies l : List Pc) : (repairs copies l).length = l.length := by simp [repairs]
theorem repairs_take {copies l : List Pc} {k : Nat} (h : k < l.length) : repairs copies (l.take (k + 1)) = repairs copies (l.take k) ++ [(repair1 copies l[k]).1] := by
  unfold repairs; rw [List.take_succ_eq_append_getElem h, List.map_append]; rfl
/-- The row while it is repaired: the first k are, the rest is not. -/
def halfRep (copies l : List Pc) (k : Nat) : List Pc := repairs copies (l.take k) ++ l.drop k
theorem halfRep_len (copies l : List Pc) (k : Nat) : (halfRep copies l k).length = l.length := by unfold halfRep; rw [List.length_append, repairs_len, List.length_take, List.length_drop]; omega
theorem halfRep_at {copies l : List Pc} {k : Nat} (h : k < l.length) : (halfRep copies l k)[k]'(by rw [halfRep_len]; exact h) = l[k] := by
  have hl : (repairs copies (l.take k)).length = k := by rw [repairs_len, List.length_take]; omega
  unfold halfRep
  rw [List.getElem_append_right (by omega), List.getElem_drop]
  congr 1; omega
theorem halfRep_succ {copies l : List Pc} {k : Nat} (h : k < l.length) : halfRep copies l (k + 1) = (halfRep copies l k).set k (repair1 copies l[k]).1 := by
  have hl : (repairs copies (l.take k)).length = k := by rw [repairs_len, List.length_take]; omega
  unfold halfRep
  rw [repairs_take h, List.set_append_right _ _ (by omega), hl, Nat.sub_self]
  have e : l.drop k = l[k] :: l.drop (k + 1) := List.drop_eq_getElem_cons h
  rw [e, List.set_cons_zero, List.append_assoc]; rfl
theorem halfRep_same {copies l : List Pc} {k : Nat} (h : k < l.length) (hr : (repair1 copies l[k]).1 = l[k]) : halfRep copies l (k + 1) = halfRep copies l k := by
  rw [halfRep_succ h, hr]
  apply List.ext_getElem (by simp)
  intro q h1 h2
  rw [List.getElem_set]
  split
  · rename_i e; subst e; exact (halfRep_at h).symm
  · rfl
theorem halfRep_done {copies l : List Pc} {k : Nat} (h : ¬ k < l.length) : halfRep copies l k = repairs copies l := by
  unfold halfRep; rw [List.take_of_length_le (by omega), List.drop_of_length_le (by omega), List.append_nil]
def RepR (l copies : List Pc) (w : World) (e : Ending) (w' : World) : Prop :=
  ∃ v, e = .returned (.tuple #[v, .int .i64 (many copies l)]) ∧ Own w' w.heap.size 90 2 encP v (repairs copies l) ∧ Below w.heap.size w w'

end Go.Proofs.YtaghiefokmapmaaGreatDoor

/- PathParts of the reference, walked. -/
set_option linter.unusedVariables false
namespace Go.Proofs.YtaghiefokmapmaaGreatDoor
open Go.RowKit
def scanS (acc : List Bs) (c : UInt8) : List Bs := if c = 47 then acc ++ [[]] else acc.set (acc.length - 1) (acc.getLastD [] ++ [c])
def scanL (s : Bs) : List Bs := s.foldl scanS []
theorem scanS_cons {L : List Bs} (p : Bs) (c : UInt8) (hL : L ≠ []) : scanS (p :: L) c = p :: scanS L c := by
  cases L with
  | nil => exact absurd rfl hL
  | cons q r =>
    unfold scanS
    split
    · rfl
    · simp [List.getLastD_eq_getLast?]
theorem splitS_snoc (c : UInt8) : ∀ a : Bs, splitS 47 (a ++ [c]) = scanS (splitS 47 a) c
  | [] => by
    rw [List.nil_append, splitS, splitS]
    unfold scanS
    split <;> simp [splitS]
  | x :: r => by
    have ih := splitS_snoc c r
    rw [List.cons_append, splitS, splitS]
    split
    · rw [ih, scanS_cons _ _ (splitS_ne 47 r)]
    · rw [ih]
      cases hs : splitS 47 r with
      | nil => exact absurd hs (splitS_ne 47 r)
      | cons p ps =>
        cases ps with
        | nil =>
          unfold scanS
          by_cases hc : c = 47 <;> simp [hc]
        | cons q t =>
          have hn : q :: t ≠ [] := by simp
          rw [scanS_cons p c hn]
          show (x :: p) :: scanS (q :: t) c = scanS ((x :: p) :: q :: t) c
          rw [scanS_cons (x :: p) c hn]
theorem scan_split : ∀ (r a : Bs), r.foldl scanS (splitS 47 a) = splitS 47 (a ++ r)
  | [], a => by rw [List.append_nil]; rfl
  | c :: r, a => by
    rw [List.foldl_cons, ← splitS_snoc, scan_split r, List.append_assoc]; rfl
theorem scanL_slash (r : Bs) : scanL (47 :: r) = splitS 47 r := by
  unfold scanL
  rw [List.foldl_cons]
  have e : scanS [] 47 = splitS 47 [] := by decide
  rw [e, scan_split]; rfl
theorem joinP_head (ps : List Bs) : joinP ps = [] ∨ (joinP ps).headD 0 = 47 := by
  unfold joinP
  split
  · split
    · right; rfl
    · rename_i h
      cases ps with
      | nil => exact absurd rfl h
      | cons p r => right; unfold joinB; rw [List.flatMap_cons]; rfl
  · left; rfl
/-- What the scan and the comparison answer. -/
theorem path_scan {s : Bs} (h0 : s ≠ []) (h1 : s ≠ [47]) : pathP s = if joinP (scanL s) = s then some (scanL s) else none := by
  unfold pathP
  rw [if_neg h1]
  cases s with
  | nil => exact absurd rfl h0
  | cons x r =>
    rw [List.headD_cons, List.tail_cons]
    by_cases hx : x = 47
    · subst hx
      rw [if_pos rfl, scanL_slash]
      cases hp : partsV (splitS 47 r)
      · rw [if_neg (by simp), if_neg]
        unfold joinP
        rw [hp]; simp
      · rw [if_pos rfl, if_pos]
        unfold joinP
        rw [hp, if_pos rfl, if_neg (splitS_ne _ _), joinB_split]
    · rw [if_neg hx, if_neg]
      intro e
      rcases joinP_head (scanL (x :: r)) with h | h
      · rw [h] at e; cases e
      · rw [e] at h; exact hx h
theorem path_nil : pathP [] = none := by decide
theorem scanL_take {s : Bs} {k : Nat} (h : k < s.length) : scanL (s.take (k + 1)) = scanS (scanL (s.take k)) s[k] := by
  unfold scanL
  rw [← List.take_append_getElem h, List.foldl_append]; rfl
theorem scanS_len (acc : List Bs) (c : UInt8) : (scanS acc c).length ≤ acc.length + 1 := by
  unfold scanS; split
  · simp
  · rw [List.length_set]; omega
def PathR (s : ByteArray) (w : World) (e : Ending) (w' : World) : Prop :=
  ∃ v, e = .returned (.tuple #[v, .bool (pathP (bs s)).isSome]) ∧ Own w' w.heap.size 9 1 encS v (((pathP (bs s)).getD []).map mk) ∧ Below w.heap.size w w'
def scB (s : ByteArray) (k : Nat) : List ByteArray := (scanL ((bs s).take k)).map mk
theorem scB_zero (s : ByteArray) : scB s 0 = [] := rfl
theorem scB_full (s : ByteArray) : (scB s s.size).map bs = scanL (bs s) := by
  unfold scB
  rw [List.take_of_length_le (by rw [size_bs]; omega), List.map_map]
  exact (List.map_congr_left fun p _ => rfl).trans (List.map_id _)
theorem scB_step {s : ByteArray} {k : Nat} (h : k < s.size) : scB s (k + 1) = (scanS (scanL ((bs s).take k)) s[k]).map mk := by
  unfold scB; rw [scanL_take (by rw [size_bs]; exact h)]; rfl
theorem scB_slash {s : ByteArray} {k : Nat} (h : k < s.size) (hc : s[k] = 47) : scB s (k + 1) = scB s k ++ [⟨#[]⟩] := by
  rw [scB_step h, hc]; unfold scanS scB; rw [if_pos rfl, List.map_append]; rfl
theorem scB_none {s : ByteArray} {k : Nat} (h : k < s.size) (hc : s[k] ≠ 47) (h0 : (scB s k).length = 0) : scB s (k + 1) = scB s k := by
  have e : scanL ((bs s).take k) = [] := by unfold scB at h0; rw [List.length_map] at h0; exact List.length_eq_zero_iff.1 h0
  rw [scB_step h]; unfold scanS scB; rw [if_neg hc, e]; rfl
theorem scB_some {s : ByteArray} {k : Nat} (h : k < s.size) (hc : s[k] ≠ 47) (y : ByteArray) (hy : (scB s k)[(scB s k).length - 1]? = some y) : scB s (k + 1) = (scB s k).set ((scB s k).length - 1) (y ++ s.extract k (k + 1)) := by
  rw [scB_step h]; unfold scanS; rw [if_neg hc, List.map_set]
  unfold scB at hy ⊢
  rw [List.length_map] at hy ⊢
  rw [List.getElem?_map, Option.map_eq_some_iff] at hy
  obtain ⟨z, hz, rfl⟩ := hy
  have e : (scanL ((bs s).take k)).getLastD [] = z := by rw [List.getLastD_eq_getLast?, List.getLast?_eq_getElem?, hz]; rfl
  rw [e, ← mk_append]
  congr 2
  apply ByteArray.ext
  apply Array.ext'
  simp [mk, ByteArray.data_extract]
  rw [List.drop_eq_getElem_cons (by rw [size_bs]; exact h)]; rfl
theorem scB_len (s : ByteArray) : ∀ k, k ≤ s.size → (scB s k).length ≤ k ∧ ∀ y ∈ scB s k, y.size ≤ k
  | 0, _ => ⟨Nat.le_refl _, fun y h => by cases h⟩
  | k + 1, h => by
    obtain ⟨h1, h2⟩ := scB_len s k (by omega)
    by_cases hc : s[k] = 47
    · rw [scB_slash (by omega) hc]
      refine ⟨by simp; omega, fun y hy => ?_⟩
      rcases List.mem_append.1 hy with h | h
      · have := h2 y h; omega
      · simp at h; subst h; simp [ByteArray.size]
    · by_cases h0 : (scB s k).length = 0
      · rw [scB_none (by omega) hc h0]
        exact ⟨by omega, fun y hy => by have := h2 y hy; omega⟩
      · have hlt : (scB s k).length - 1 < (scB s k).length := by omega
        rw [scB_some (by omega) hc _ (List.getElem?_eq_getElem hlt)]
        refine ⟨by rw [List.length_set]; omega, fun y hy => ?_⟩
        rcases List.mem_or_eq_of_mem_set hy with h | h
        · have := h2 y h; omega
        · subst h
          have h3 := h2 _ (List.getElem_mem hlt)
          rw [ByteArray.size_append, ByteArray.size_extract]
          omega
theorem scB_all (s : ByteArray) : scB s s.size = (scanL (bs s)).map mk := by
  unfold scB; rw [List.take_of_length_le (by rw [size_bs]; omega)]
theorem PathR.made {s : ByteArray} {w w1 : World} (hE : pathP (bs s) = none) (hb : Below w.heap.size w w1) : PathR s w (.returned (.tuple #[.slice (some ⟨w1.heap.size, 0, none⟩) 0 0, .bool false])) (w1.alloc madeS) := by
  unfold PathR; rw [hE]
  exact ⟨_, rfl, Own.made hb.size, hb.alloc hb.size _⟩
theorem PathR.yes {s : ByteArray} {w w1 : World} {v : Value} (hE : pathP (bs s) = some (scanL (bs s))) (ho : Own w1 w.heap.size 9 1 encS v (scB s s.size)) (hb : Below w.heap.size w w1) : PathR s w (.returned (.tuple #[v, .bool true])) w1 := by
  unfold PathR; rw [hE]
  rw [scB_all] at ho
  exact ⟨_, rfl, ho, hb⟩
theorem PathR.root {s : ByteArray} {w : World} (h : bs s = [47]) : PathR s w (.returned (.tuple #[.slice (some ⟨w.heap.size, 0, none⟩) 0 0, .bool true])) (w.alloc madeS) := by
  unfold PathR; rw [h]
  have e : pathP [47] = some [] := by decide
  rw [e]
  exact ⟨_, rfl, Own.made (Nat.le_refl _), (Below.refl _ _).alloc (Nat.le_refl _) _⟩
set_option maxHeartbeats 4000000 in
set_option maxRecDepth 100000 in
theorem sPathParts_any (s : ByteArray) (w : World) (hs : s.size ≤ 1048576) : Calls Tryz.prog 109 #[.string s] w (PathR s w) := by
  cases h1 : (s.toList == [47])
  case true =>
    have HE := Lib.hid (show bs s = [47] by rw [ByteArray.toList_eq] at h1; exact beq_iff_eq.1 h1)
    go_enter Tryz.func109, Tryz.ntmps109
    go_wp2
    go_ret2
    exact PathR.root HE.out
  case false =>
    have hne47 : bs s ≠ [47] := fun e => by rw [ByteArray.toList_eq] at h1; change (bs s == [47]) = false at h1; rw [e] at h1; cases h1
    have HSC := Lib.hid (fun h0 => path_scan (s := bs s) h0 hne47)
    have HSZ := Lib.hid (show s.size ≤ 1048576 from hs)
    clear hne47
    go_enter Tryz.func109, Tryz.ntmps109
    go_wp2_with fail
    go_loopw [4, 5] (fun v i wr => ∃ (k : Nat), k ≤ s.size ∧ i = .int .i64 k ∧ Hid (Own wr w.heap.size 9 1 encS v (scB s k)) ∧ Hid (Below w.heap.size w wr)) (fun _ i _ => s.size - (intOf i).toNat)
    case atStart => exact ⟨0, Nat.zero_le _, rfl, Own.made (Nat.le_refl _), (Below.refl _ _).alloc (Nat.le_refl _) _⟩
    case round =>
      obtain ⟨k, hk, rfl, HO, HBW⟩ := hrel
      obtain ⟨hL1, hL2⟩ := scB_len s k hk
      by_cases hlt : k < s.size
      · have hin : (k : Int) < (s.size : Int) := by omega
        by_cases hc : s[k] = 47
        · have HN := Lib.hid (scB_slash hlt hc)
          have hcn : ((s[k].toNat : Nat) : Int) = 47 := by rw [hc]; rfl
          have HL := Lib.hid (show (scB s k).length ≤ 16777216 by omega)
          clear hL2 hc hL1
          generalize scB s k = ls at *
          go_wp2_with (at_builtin; refine app_str (w0 := w) (y := ⟨#[]⟩) rfl rfl (by rfl) (by rfl) HO.out HBW.out HL.out ?_; intro v6 w6 hown6 hb6; have HO6 := Lib.hid hown6; have HB6 := Lib.hid hb6; clear hown6 hb6)
          go_roundw
          case rel => exact ⟨k + 1, by omega, by go_num, by rw [HN.out]; exact HO6.out, HB6.out⟩
          case measure => simp [intOf]; omega
        · have hcn : ¬ ((s[k].toNat : Nat) : Int) = 47 := fun e => hc (UInt8.toNat_inj.1 (show s[k].toNat = 47 by omega))
          by_cases h0 : (scB s k).length = 0
          · have HN := Lib.hid (scB_none hlt hc h0)
            clear hL2 hc hL1
            generalize scB s k = ls at *
            obtain ⟨X, d, rfl, _, _, _⟩ := HO.out.sl
            have h0' : ¬ (0 : Int) < (ls.length : Int) := by omega
            go_wp2
            go_roundw
            case rel => exact ⟨k + 1, by omega, by go_num, by rw [HN.out]; exact HO.out, HBW.out⟩
            case measure => simp [intOf]; omega
          · have hll : (scB s k).length - 1 < (scB s k).length := by omega
            have HN := Lib.hid (scB_some hlt hc _ (List.getElem?_eq_getElem hll))
            have hys := hL2 _ (List.getElem_mem hll)
            clear hL2 hc
            generalize scB s k = ls at *
            have hp1 : (1 : Int) ≤ (ls.length : Int) := by omega
            have hp2 : 0 < ls.length := by omega
            have hp3 : (0 : Int) < (ls.length : Int) := by omega
            obtain ⟨g, cap, rfl, hg, hcap, _, _⟩ := HO.out.row hp2
            obtain ⟨b3, o3, e, hc0⟩ := HO.out.sl'.getS hll
            injection e with e; injection e with e1 e2
            subst e1 e2
            simp only [Nat.zero_add] at hc0
            have hfz := HO.out.free' (ls.length - 1)
            have hxs : (s.extract k (k + 1)).size ≤ 1 := by rw [ByteArray.size_extract]; omega
            have hq := str_add (x := ls[ls.length - 1]) (y := s.extract k (k + 1)) (by omega) (by omega)
            have hset := HO.out.setEl (fun _ => rfl) (by omega) (i := ls.length - 1) (by omega) (ls[ls.length - 1] ++ s.extract k (k + 1))
            rw [← HN.out] at hset
            have hse : setAll wr g ((ls.length - 1) * 1) (encS (ls[ls.length - 1] ++ s.extract k (k + 1))) = wr.setCell ⟨g, ls.length - 1, none⟩ (.string (ls[ls.length - 1] ++ s.extract k (k + 1))) := by rw [Nat.mul_one]; rfl
            rw [hse] at hset
            have HSET := Lib.hid hset
            have HB6 := Lib.hid (HBW.out.setCell (p := ⟨g, ls.length - 1, none⟩) hg (.string (ls[ls.length - 1] ++ s.extract k (k + 1))))
            clear hset hse HN
            generalize ls[ls.length - 1] = y at *
            go_wp2_with fail
            go_region
            all_goals
              go_wp2
              go_roundw
              case rel => exact ⟨k + 1, by omega, by go_num, by first | exact HSET.out | exact HSET.out.drew, by first | exact HB6.out | exact HB6.out.drew⟩
              case measure => simp [intOf]; omega
      · obtain rfl : k = s.size := by omega
        by_cases h0 : s.size = 0
        · have hnil := nil_tl h0
          have HE := Lib.hid (show pathP (bs s) = none by rw [show bs s = [] from List.eq_nil_of_length_eq_zero (by rw [size_bs]; exact h0)]; exact path_nil)
          go_wp2
          go_ret2
          exact PathR.made HE.out HBW.out
        · obtain ⟨hne, hne2⟩ := ne_tl (s := s) (by omega)
          have hsc := HSC.out (fun e => h0 (by rw [← size_bs s, e]; rfl))
          have hJ := fun X d w h => sJoinPath_any X d (scB s s.size) w h (by omega) (fun p hp => by have := hL2 p hp; omega)
          rw [scB_full] at hJ
          obtain ⟨X, d, rfl, _, HSL, _⟩ := HO.out.sl
          have HS1 := Lib.hid HSL
          have HO1 := Lib.hid HO.out
          clear HO HSL
          generalize hln : (scB s s.size).length = n at *
          by_cases he : joinP (scanL (bs s)) = bs s
          · rw [if_pos he] at hsc
            have HE := Lib.hid hsc
            have heq : ((mk (joinP (scanL (bs s)))).toList == s.toList) = true := by rw [eq_tlx]; exact beq_iff_eq.2 he
            generalize mk (joinP (scanL (bs s))) = JJ at *
            have HJ := Lib.hid hJ
            clear hJ hsc he hL1 hL2
            go_wp2_with (go_at_call 172; refine (HJ.out _ _ _ HS1.out).mono ?_; rintro e w' ⟨rfl, rfl⟩)
            go_ret2
            exact PathR.yes HE.out HO1.out HBW.out
          · rw [if_neg he] at hsc
            have HE := Lib.hid hsc
            have heq : ((mk (joinP (scanL (bs s)))).toList == s.toList) = false := by rw [eq_tlx]; exact beq_eq_false_iff_ne.2 he
            generalize mk (joinP (scanL (bs s))) = JJ at *
            have HJ := Lib.hid hJ
            clear hJ hsc he hL1 hL2
            go_wp2_with (go_at_call 172; refine (HJ.out _ _ _ HS1.out).mono ?_; rintro e w' ⟨rfl, rfl⟩)
            go_ret2
            exact PathR.made HE.out HBW.out
end Go.Proofs.YtaghiefokmapmaaGreatDoor

/- strings.Cut at a byte. -/
set_option linter.unusedVariables false
namespace Go.Proofs.YtaghiefokmapmaaGreatDoor
open Go.RowKit
def headC (c : UInt8) (s : Bs) : Bs := s.takeWhile fun x => x != c
def cutC (c : UInt8) (s : Bs) : Option (Bs × Bs) := if (headC c s).length < s.length then some (headC c s, s.drop ((headC c s).length + 1)) else none
theorem headC_le (c : UInt8) (s : Bs) : (headC c s).length ≤ s.length := (List.takeWhile_sublist _).length_le
theorem headC_cons (c x : UInt8) (r : Bs) : headC c (x :: r) = if x = c then [] else x :: headC c r := by
  unfold headC; rw [List.takeWhile_cons]
  by_cases h : x = c <;> simp [h]
theorem headC_take (c : UInt8) : ∀ s : Bs, headC c s = s.take (headC c s).length
  | [] => rfl
  | x :: r => by
    rw [headC_cons]
    split
    · rfl
    · rw [List.length_cons, List.take_succ_cons, ← headC_take c r]
theorem headC_ne (c : UInt8) : ∀ (s : Bs) (j : Nat) (h : j < s.length), j < (headC c s).length → s[j] ≠ c
  | [], j, h, _ => by simp at h
  | x :: r, j, h, hj => by
    rw [headC_cons] at hj
    split at hj
    · simp at hj
    · rename_i hx
      cases j with
      | zero => simpa using hx
      | succ j => simpa using headC_ne c r j (by simpa using h) (by simpa using hj)
theorem headC_at (c : UInt8) : ∀ (s : Bs) (h : (headC c s).length < s.length), s[(headC c s).length] = c
  | [], h => by simp at h
  | x :: r, h => by
    by_cases hx : x = c
    · have e : headC c (x :: r) = [] := by rw [headC_cons, if_pos hx]
      simp only [e, List.length_nil, List.getElem_cons_zero]; exact hx
    · have e : headC c (x :: r) = x :: headC c r := by rw [headC_cons, if_neg hx]
      have h' : (headC c r).length < r.length := by rw [e] at h; simpa using h
      have := headC_at c r h'
      simp only [e, List.length_cons, List.getElem_cons_succ]; exact this
theorem idx_head (c : UInt8) : ∀ s : Bs, Lib.indexByte s c = if (headC c s).length < s.length then ((headC c s).length : Int) else -1
  | [] => rfl
  | x :: r => by
    unfold Lib.indexByte headC
    rw [List.takeWhile_cons]
    by_cases h : x = c
    · subst h; simp
    · have ih := idx_head c r
      have h1 : (x == c) = false := beq_eq_false_iff_ne.2 h
      have h2 : (x != c) = true := by simp [h]
      unfold headC at ih
      rw [h1, h2, ih]
      simp only [Bool.false_eq_true, if_false, if_true, List.length_cons, Nat.add_lt_add_iff_right]
      split
      · have e : ((((r.takeWhile fun x => x != c).length : Nat) : Int) == -1) = false := by rw [beq_eq_false_iff_ne]; omega
        rw [e]; simp
      · simp
theorem cut_at (c : UInt8) (s : Bs) : Lib.cut s [c] = match cutC c s with | some (a, b) => (a, b, true) | none => (s, [], false) := by
  unfold Lib.cut cutC
  rw [Lib.index_one, idx_head]
  split
  · rename_i h
    rw [if_pos (by omega)]
    simp only [Int.toNat_natCast, List.length_singleton]
    rw [← headC_take]
  · rw [if_neg (by omega)]
def cutV (c : UInt8) (s : ByteArray) : Value := match cutC c (bs s) with | some (a, b) => .tuple #[.string (mk a), .string (mk b), .bool true] | none => .tuple #[.string s, .string ⟨#[]⟩, .bool false]
theorem cutC_some {c : UInt8} {s a b : Bs} (h : cutC c s = some (a, b)) : s = a ++ c :: b ∧ a = headC c s := by
  unfold cutC at h
  split at h
  · rename_i hlt
    injection h with h; injection h with h1 h2
    have h3 := headC_at c s hlt
    refine ⟨?_, h1.symm⟩
    rw [← h1, ← h2]
    conv => lhs; rw [← List.take_append_drop (headC c s).length s, ← headC_take, List.drop_eq_getElem_cons hlt, h3]
  · cases h
theorem cutC_len {c : UInt8} {s : ByteArray} {a b : Bs} (h : cutC c (bs s) = some (a, b)) : a.length + b.length + 1 = s.size := by
  have h1 := (cutC_some h).1
  have h2 := size_bs s
  rw [h1, List.length_append, List.length_cons] at h2; omega
theorem Cut_any (s : ByteArray) (c : UInt8) (w : World) (hs : s.size ≤ 16777216) (hm : MaxL w) :
    Calls Tryz.prog 198 #[.string s, .string ⟨#[c]⟩] w fun e w' => e = .returned (cutV c s) ∧ Below w.heap.size w w' := by
  obtain ⟨m, hm⟩ := hm
  refine (Tryz.strings_Cut s ⟨#[c]⟩ m w (by omega) hm).mono fun e w' ⟨h1, n, h2⟩ => ?_
  have e2 : Lib.cut s.data.toList (⟨#[c]⟩ : ByteArray).data.toList = Lib.cut (bs s) [c] := rfl
  rw [e2, cut_at] at h1
  refine ⟨?_, by rw [h2]; exact Below_drewN (Below.refl _ _) n⟩
  rw [h1]
  unfold cutV
  cases cutC c (bs s) with
  | none =>
    rw [show (⟨(bs s).toArray⟩ : ByteArray) = s from mk_bs s]
  | some x => rfl
end Go.Proofs.YtaghiefokmapmaaGreatDoor

/- What a reader of folders has come to, in plain Lean. No program in sight. -/
set_option linter.unusedVariables false
namespace Go.Proofs.YtaghiefokmapmaaGreatDoor
--BEGIN
/-- 'acc' is read, 'rest' is left: so it is with each folder whose text is s. -/
def FC (s : Bs) (acc : List En) (rest : Bs) : Prop := ∀ l, entsV l = true → foldB l = s → ∃ m, l = acc ++ m ∧ rest = m.flatMap entT
theorem FC.start (s : Bs) : FC s [] (s.drop 1) := fun l _ h => ⟨l, rfl, by rw [← h]; rfl⟩
theorem headC_stop {c : UInt8} {a b : Bs} (h : ∀ x ∈ a, x ≠ c) : headC c (a ++ c :: b) = a := takeWhile_stop (fun x hx => by simpa using h x hx) (by simp)
theorem cutC_stop {c : UInt8} {a b : Bs} (h : ∀ x ∈ a, x ≠ c) : cutC c (a ++ c :: b) = some (a, b) := by
  unfold cutC
  rw [headC_stop h, if_pos (by simp), drop_past]
theorem ent_cut {e : En} (h : entOk e = true) (r : Bs) : cutC 59 (entT e ++ r) = some (tx e.1 ++ 61 :: hexT e.2, r) ∧ cutC 61 (tx e.1 ++ 61 :: hexT e.2) = some (tx e.1, hexT e.2) := by
  have h1 : ∀ x ∈ tx e.1, x ≠ 61 ∧ x ≠ 59 := fun x hx => by
    have := range_ne (word_range (word_chars (entOk_iff.1 h).1 x hx)); exact ⟨this.1, this.2.1⟩
  have h2 : ∀ x ∈ hexT e.2, x ≠ 59 := fun x hx => (range_ne (hex_range (hexT_chars _ x hx))).2.1
  refine ⟨?_, cutC_stop fun x hx => (h1 x hx).1⟩
  have e1 : entT e ++ r = (tx e.1 ++ 61 :: hexT e.2) ++ 59 :: r := by unfold entT; simp
  rw [e1]
  refine cutC_stop fun x hx => ?_
  rcases List.mem_append.1 hx with hx | hx
  · exact (h1 x hx).2
  · rcases List.mem_cons.1 hx with rfl | hx
    · decide
    · exact h2 x hx
theorem FC.head {s : Bs} {acc : List En} {rest : Bs} (h : FC s acc rest) (hne : rest ≠ []) {l : List En} (hv : entsV l = true) (hl : foldB l = s) : ∃ e m, l = acc ++ e :: m ∧ rest = entT e ++ m.flatMap entT ∧ entOk e = true := by
  obtain ⟨m, h1, h2⟩ := h l hv hl
  cases m with
  | nil => exact absurd h2 hne
  | cons e m => exact ⟨e, m, h1, by rw [h2, List.flatMap_cons], entsV_ok hv (by rw [h1]; simp)⟩
theorem FC.fail1 {s : Bs} {acc : List En} {rest : Bs} (h : FC s acc rest) (hne : rest ≠ []) (hc : cutC 59 rest = none) : readF s = none := readF_none fun l hv hl => by
  obtain ⟨e, m, _, h2, h3⟩ := h.head hne hv hl
  rw [h2, (ent_cut h3 _).1] at hc; cases hc
theorem FC.fail2 {s : Bs} {acc : List En} {rest p a : Bs} (h : FC s acc rest) (hne : rest ≠ []) (hc : cutC 59 rest = some (p, a)) (hd : cutC 61 p = none) : readF s = none := readF_none fun l hv hl => by
  obtain ⟨e, m, _, h2, h3⟩ := h.head hne hv hl
  rw [h2, (ent_cut h3 _).1] at hc
  injection hc with hc; injection hc with h4 h5
  rw [← h4, (ent_cut h3 []).2] at hd; cases hd
theorem FC.fail3 {s : Bs} {acc : List En} {rest : Bs} (h : FC s acc rest) (hne : rest ≠ []) (hc : 3 ≤ acc.length) : readF s = none := readF_none fun l hv hl => by
  obtain ⟨e, m, h1, _, _⟩ := h.head hne hv hl
  have := entsV_len hv
  rw [h1, List.length_append, List.length_cons] at this; omega
theorem FC.step {s : Bs} {acc : List En} {rest p a n d : Bs} (h : FC s acc rest) (hne : rest ≠ []) (hc : cutC 59 rest = some (p, a)) (hd : cutC 61 p = some (n, d)) : FC s (acc ++ [(mk n, readH d)]) a := fun l hv hl => by
  obtain ⟨e, m, h1, h2, h3⟩ := h.head hne hv hl
  rw [h2, (ent_cut h3 _).1] at hc
  injection hc with hc; injection hc with h4 h5
  rw [← h4, (ent_cut h3 []).2] at hd
  injection hd with hd; injection hd with h6 h7
  refine ⟨m, ?_, h5.symm⟩
  rw [← h6, ← h7, readH_hexT (entOk_iff.1 h3).2, mk_tx, h1]
  simp
theorem FC.done {s : Bs} {acc : List En} (h : FC s acc []) (hs : s ≠ []) : readF s = if foldT acc = s then some acc else none := by
  split
  · rename_i he
    have hv : entsV acc = true := by
      cases hv : entsV acc
      · unfold foldT at he; rw [hv] at he; exact absurd he.symm hs
      · rfl
    unfold foldT at he
    rw [hv, if_pos rfl] at he
    exact readF_iff.2 ⟨hv, he⟩
  · rename_i he
    refine readF_none fun l hv hl => ?_
    obtain ⟨m, h1, h2⟩ := h l hv hl
    have hm : m = [] := by
      cases m with
      | nil => rfl
      | cons e m => rw [List.flatMap_cons] at h2; exact absurd h2.symm (entT_ne _ _)
    subst hm
    rw [List.append_nil] at h1; subst h1
    apply he
    unfold foldT; rw [hv, if_pos rfl, hl]
theorem FC.sfail {s : Bs} {acc : List En} {rest : Bs} (h : FC s acc rest) (hne : rest ≠ []) (hc : ¬ (headC 61 rest).length + (headC 59 (rest.drop (headC 61 rest).length)).length < rest.length) : readF s = none := readF_none fun l hv hl => by
  obtain ⟨e, m, _, h2, h3⟩ := h.head hne hv hl
  apply hc
  have h1 : ∀ x ∈ tx e.1, x ≠ 61 := fun x hx => (range_ne (word_range (word_chars (entOk_iff.1 h3).1 x hx))).1
  have h5 : ∀ x ∈ 61 :: hexT e.2, x ≠ 59 := fun x hx => by
    rcases List.mem_cons.1 hx with rfl | hx
    · decide
    · exact (range_ne (hex_range (hexT_chars _ x hx))).2.1
  have e1 : rest = tx e.1 ++ 61 :: (hexT e.2 ++ 59 :: m.flatMap entT) := by rw [h2]; unfold entT; simp
  have e2 : headC 61 rest = tx e.1 := by rw [e1]; exact headC_stop h1
  have e3 : rest.drop (tx e.1).length = (61 :: hexT e.2) ++ 59 :: m.flatMap entT := by rw [e1, List.drop_left]; rfl
  rw [e2, e3, headC_stop h5, e1]
  simp
theorem FC.sstep {s : Bs} {acc : List En} {rest : Bs} (h : FC s acc rest) (hne : rest ≠ []) :
    FC s (acc ++ [(mk (rest.take (headC 61 rest).length), readH ((rest.drop ((headC 61 rest).length + 1)).take ((headC 59 (rest.drop (headC 61 rest).length)).length - 1)))]) (rest.drop ((headC 61 rest).length + (headC 59 (rest.drop (headC 61 rest).length)).length + 1)) := fun l hv hl => by
  obtain ⟨e, m, h1', h2, h3⟩ := h.head hne hv hl
  have h1 : ∀ x ∈ tx e.1, x ≠ 61 := fun x hx => (range_ne (word_range (word_chars (entOk_iff.1 h3).1 x hx))).1
  have h5 : ∀ x ∈ 61 :: hexT e.2, x ≠ 59 := fun x hx => by
    rcases List.mem_cons.1 hx with rfl | hx
    · decide
    · exact (range_ne (hex_range (hexT_chars _ x hx))).2.1
  have e1 : rest = tx e.1 ++ 61 :: (hexT e.2 ++ 59 :: m.flatMap entT) := by rw [h2]; unfold entT; simp
  have e2 : headC 61 rest = tx e.1 := by rw [e1]; exact headC_stop h1
  have e3 : rest.drop (tx e.1).length = (61 :: hexT e.2) ++ 59 :: m.flatMap entT := by rw [e1, List.drop_left]; rfl
  have e4 : rest.drop ((tx e.1).length + 1) = hexT e.2 ++ 59 :: m.flatMap entT := by rw [← List.drop_drop, e3]; rfl
  have e5 : rest.drop ((tx e.1).length + (61 :: hexT e.2).length + 1) = m.flatMap entT := by
    rw [Nat.add_assoc, ← List.drop_drop, e3, drop_past]
  refine ⟨m, ?_, ?_⟩
  · rw [e2, e3, headC_stop h5, e4]
    have e6 : rest.take (tx e.1).length = tx e.1 := by rw [e1]; exact List.take_left' rfl
    rw [e6, List.length_cons, Nat.add_sub_cancel, List.take_left' rfl, readH_hexT (entOk_iff.1 h3).2, mk_tx, h1']
    simp
  · rw [e2, e3, headC_stop h5, e5]
--END
end Go.Proofs.YtaghiefokmapmaaGreatDoor

/- Entries: the type's facts, slices.Clone, append of one. -/
set_option linter.unusedVariables false
namespace Go.Proofs.YtaghiefokmapmaaGreatDoor
open Go.RowKit
theorem en_info : (Tryz.prog.info? 160).map (fun i => (i.zero, i.size, i.bytes)) = some (some (.agg #[.string ⟨#[]⟩, .int .i64 0]), 2, 24) := by kernel_rfl
theorem oneE : ∀ y, ∀ u ∈ encE y, u.oneCell' = true := by intro y u hu; simp [encE] at hu; rcases hu with rfl | rfl <;> rfl
section
variable {ops : Array Oper} {rest : List Oper} {o : Oper} {a : Act} {Q : Exit → Act → World → Prop} {w0 wr : World} {v : Value}
theorem app_enN {l m : List En} {A : Option Addr} {c : Nat} {s x : Operand} (hgd : o.guard = none) (ho : o.op = .call { callee := .builtin .append, args := #[s, x], argTypes := #[116, 116] })
    (hown : Own wr w0.heap.size 160 2 encE v l) (hb : Below w0.heap.size w0 wr) (hn : l.length + m.length ≤ 33554432) (hsl : Sl wr encE 2 A m) (hcz : A = none → c = 0)
    (hs : a.eval s = v) (hx : a.eval x = .slice A m.length c)
    (h : ∀ v' w', Own w' w0.heap.size 160 2 encE v' (l ++ m) → Below w0.heap.size w0 w' → Grew v wr w' → wpList Tryz.prog ops Q rest (a.put o.dst v') w') : wpList Tryz.prog ops Q (o :: rest) a wr := by
  obtain ⟨i0, hi0, hz0, hz1, hz2⟩ := info_parts en_info
  exact wpList_appN Tryz.underlying116 hi0 hz0 hz1 hz2 rfl (by decide) (by decide) hgd s x ho hown hb (Nat.le_refl _) hb.size hn hsl hcz (fun _ => rfl) oneE hs hx h
theorem app_en {base : Nat} {l : List En} {y : En} {s x : Operand} (hgd : o.guard = none) (ho : o.op = .call { callee := .builtin .append, args := #[s, x], argTypes := #[116, 116] })
    (hs : a.eval s = v) (hx : a.eval x = .slice (some ⟨wr.heap.size, 0, none⟩) 1 1)
    (hown : Own wr base 160 2 encE v l) (hb : Below w0.heap.size w0 wr) (hB : w0.heap.size ≤ base) (hbase : base ≤ wr.heap.size) (hn : l.length ≤ 16777216)
    (h : ∀ v' w', Own w' base 160 2 encE v' (l ++ [y]) → Below w0.heap.size w0 w' → wpList Tryz.prog ops Q rest (a.put o.dst v') w') : wpList Tryz.prog ops Q (o :: rest) a (wr.alloc (.cells #[.string y.1, .int .i64 y.2] 160)) := by
  obtain ⟨i0, hi0, hz0, hz1, hz2⟩ := info_parts en_info
  exact wpList_app1 Tryz.underlying116 hi0 hz0 hz1 hz2 rfl (by decide) (by decide) hgd s x ho hs hx hown hb hB hbase hn y _ rfl rfl (oneE y) h
end
set_option maxHeartbeats 2000000 in
set_option maxRecDepth 100000 in
theorem CloneEn_any (A : Option Addr) (c : Nat) (l : List En) (w : World) (hs : Sl w encE 2 A l) (hcz : A = none → c = 0) (hl : l.length ≤ 16777216) :
    Calls Tryz.prog 190 #[.slice A l.length c] w (OwnRes 160 2 encE l w) := by
  have HS := Lib.hid hs
  have HC := Lib.hid hcz
  clear hs hcz
  have hnil := fun (W : World) (A : Option Addr) (n c : Nat) => Lib.run_eql_slice_nil (P := Tryz.prog) W 116 160 A n c 0 0 Tryz.underlying116
  cases A with
  | none =>
    have hm : l = [] := by
      cases l with
      | nil => rfl
      | cons y r => obtain ⟨b, o, e, _⟩ := HS.out (by simp); cases e
    subst hm
    go_enter Tryz.func190, Tryz.ntmps190
    go_wp2
    go_ret
    exact ⟨_, rfl, Own.nil, Below.refl _ _⟩
  | some ad =>
    go_enter Tryz.func190, Tryz.ntmps190
    go_wp2_with (at_builtin; refine app_enN rfl rfl (Own.made (Nat.le_refl _)) ((Below.refl _ _).alloc (Nat.le_refl _) _) (by simp; omega) (HS.out.alloc _) HC.out (by rfl) (by rfl) ?_; intro v1 w2 hown2 hb2 hg2; have HW2 := Lib.hid hown2; have HB2 := Lib.hid hb2; clear hown2 hb2 hg2)
    go_ret
    exact ⟨_, rfl, by have h := HW2.out; rwa [List.nil_append] at h, HB2.out⟩
end Go.Proofs.YtaghiefokmapmaaGreatDoor

/- Where a name stands: cmp.Compare of texts, slices.BinarySearchFunc, findEntry, printNamed, walked. -/
set_option linter.unusedVariables false
namespace Go.Proofs.YtaghiefokmapmaaGreatDoor
open Go.RowKit

def FitE (l : List En) : Prop := ∀ p ∈ l, p.1.size ≤ 16777216
def cmpS (a b : ByteArray) : Int := if lessB (tx a) (tx b) then -1 else if lessB (tx b) (tx a) then 1 else 0
theorem less_tl (a b : ByteArray) : Op.bytesLess a.toList b.toList = lessB (tx a) (tx b) := by rw [ByteArray.toList_eq, ByteArray.toList_eq]
theorem eq_tl (a b : ByteArray) : (a.toList == b.toList) = (tx a == tx b) := by rw [ByteArray.toList_eq, ByteArray.toList_eq]
theorem less_ne {a b : ByteArray} (h : lessB (tx a) (tx b) = true) : (tx a == tx b) = false := by
  rw [beq_eq_false_iff_ne]; intro e; rw [e, lessB_irrefl] at h; cases h
set_option maxHeartbeats 2000000 in
set_option maxRecDepth 100000 in
theorem isNaNS_any (a : ByteArray) (w : World) : Calls Tryz.prog 238 #[.string a] w fun e w' => e = .returned (.bool false) ∧ w = w' := by
  go_enter Tryz.func238, Tryz.ntmps238
  go_wp2
  go_ret
  exact ⟨ret_bool (by simp), rfl⟩
set_option maxHeartbeats 2000000 in
set_option maxRecDepth 100000 in
theorem CompareS_any (a b : ByteArray) (w : World) : Calls Tryz.prog 218 #[.string a, .string b] w fun e w' => e = .returned (.int .i64 (cmpS a b)) ∧ w = w' := by
  cases h1 : lessB (tx a) (tx b)
  · cases h2 : lessB (tx b) (tx a)
    · have E : Hid (cmpS a b = 0) := by show _ = _; unfold cmpS; rw [h1, h2]; rfl
      have l1 : Op.bytesLess a.toList b.toList = false := by rw [less_tl]; exact h1
      have l2 : (a.toList == b.toList) = true := by rw [eq_tl]; exact beq_iff_eq.2 (lessB_tri h1 h2)
      clear h1 h2
      go_enter Tryz.func218, Tryz.ntmps218
      go_wp2_with (go_at_call 238; refine (isNaNS_any _ _).mono ?_; rintro e w' ⟨rfl, rfl⟩)
      go_ret
      exact ⟨ret_int E.out.symm, rfl⟩
    · have E : Hid (cmpS a b = 1) := by show _ = _; unfold cmpS; rw [h1, h2]; rfl
      have l1 : Op.bytesLess a.toList b.toList = false := by rw [less_tl]; exact h1
      have l2 : (a.toList == b.toList) = false := by rw [eq_tl, beq_eq_false_iff_ne]; intro e; rw [e, lessB_irrefl] at h2; cases h2
      clear h1 h2
      go_enter Tryz.func218, Tryz.ntmps218
      go_wp2_with (go_at_call 238; refine (isNaNS_any _ _).mono ?_; rintro e w' ⟨rfl, rfl⟩)
      go_ret
      exact ⟨ret_int E.out.symm, rfl⟩
  · have E : Hid (cmpS a b = -1) := by show _ = _; unfold cmpS; rw [h1]; rfl
    have l1 : Op.bytesLess a.toList b.toList = true := by rw [less_tl]; exact h1
    clear h1
    go_enter Tryz.func218, Tryz.ntmps218
    go_wp2_with (go_at_call 238; refine (isNaNS_any _ _).mono ?_; rintro e w' ⟨rfl, rfl⟩)
    go_ret
    exact ⟨ret_int E.out.symm, rfl⟩
set_option maxHeartbeats 2000000 in
set_option maxRecDepth 100000 in
theorem feCmp_any (a : Int) (x t : ByteArray) (w : World) : Calls Tryz.prog 217 #[.agg #[.string t, .int .i64 a], .string x] w fun e w' => e = .returned (.int .i64 (cmpS t x)) ∧ Below w.heap.size w w' := by
  have HB := Lib.hid ((Below.refl w.heap.size w).alloc (Nat.le_refl _) (.cells #[.string t, .int .i64 a] 160))
  generalize hc : cmpS t x = c at *
  have HC := Lib.hid (fun w => hc ▸ CompareS_any t x w)
  clear hc
  go_enter Tryz.func217, Tryz.ntmps217
  go_wp2_with (go_at_call 218; refine (HC.out _).mono ?_; rintro e w' ⟨rfl, rfl⟩)
  go_ret
  exact ⟨rfl, HB.out⟩
def FeRes (l : List En) (x : ByteArray) (w : World) (e : Ending) (w' : World) : Prop := e = .returned (.tuple #[.int .i64 (posE l (tx x) : Nat), .bool (hereE l (tx x))]) ∧ Below w.heap.size w w'
theorem ret_twoE {a b : Int} {c d : Bool} (h1 : a = b) (h2 : c = d) : Ending.returned (.tuple #[.int .i64 a, .bool c]) = .returned (.tuple #[.int .i64 b, .bool d]) := by rw [h1, h2]
set_option maxHeartbeats 4000000 in
set_option maxRecDepth 100000 in
theorem BSearchE_any (A : Option Addr) (c : Nat) (l : List En) (x : ByteArray) (w : World) (hs : Sl w encE 2 A l) (hl : l.length ≤ 16777216) (hso : SortE l) :
    Calls Tryz.prog 216 #[.slice A l.length c, .string x, .func (.func 217) #[] #[]] w (FeRes l x w) := by
  have HS := Lib.hid hs
  have HSO := Lib.hid hso
  clear hs hso
  go_enter Tryz.func216, Tryz.ntmps216
  go_wp2_with fail
  go_loopw [9, 10] (fun vi vj wr => ∃ lo hi : Nat, vi = .int .i64 lo ∧ vj = .int .i64 hi ∧ lo ≤ hi ∧ hi ≤ l.length ∧ Hid (∀ t (h : t < l.length), t < lo → lessB (tx l[t].1) (tx x) = true) ∧ Hid (∀ t (h : t < l.length), hi ≤ t → lessB (tx l[t].1) (tx x) = false) ∧ Hid (Below w.heap.size w wr)) (fun vi vj _ => (intOf vj).toNat - (intOf vi).toNat)
  case atStart => exact ⟨0, l.length, rfl, rfl, Nat.zero_le _, Nat.le_refl _, (fun t h h2 => by omega), (fun t h h2 => by omega), Below.refl _ _⟩
  case round =>
    obtain ⟨lo, hi, rfl, rfl, hle, hhi, H1, H2, HB⟩ := hrel
    by_cases hlt : lo < hi
    · obtain ⟨m, hm⟩ : ∃ m, m = (lo + hi) / 2 := ⟨_, rfl⟩
      have hm1 : lo ≤ m := by omega
      have hm2 : m < hi := by omega
      have hml : m < l.length := by omega
      have hmi : ((lo : Int) + (hi : Int)) / 2 = (m : Int) := by omega
      obtain ⟨b, o, rfl, hc0, hc1⟩ := (HS.out.below HB.out).getE hml
      have HP := Lib.hid (List.pairwise_iff_getElem.1 HSO.out)
      have HQ1 := Lib.hid (fun (hx : lessB (tx l[m].1) (tx x) = true) (t : Nat) (h : t < l.length) (ht : t < m + 1) => show lessB (tx l[t].1) (tx x) = true by
        by_cases e : t = m
        · subst e; exact hx
        · exact lessB_trans (HP.out t m h hml (by omega)) hx)
      have HQ2 := Lib.hid (fun (hx : lessB (tx l[m].1) (tx x) = false) (t : Nat) (h : t < l.length) (ht : m ≤ t) => show lessB (tx l[t].1) (tx x) = false by
        by_cases e : m = t
        · subst e; exact hx
        · have h1 := HP.out m t hml h (by omega)
          cases h2 : lessB (tx l[t].1) (tx x)
          · rfl
          · rw [lessB_trans h1 h2] at hx; cases hx)
      generalize l[m] = p at *
      obtain ⟨t, a⟩ := p
      simp only at *
      clear hm HP
      have hC := fun w => feCmp_any a x t w
      cases hax : lessB (tx t) (tx x)
      · have HN := Lib.hid (HQ2.out hax)
        have hcm : ¬ cmpS t x < 0 := by unfold cmpS; rw [hax]; simp only [Bool.false_eq_true, if_false]; split <;> omega
        generalize cmpS t x = cv at *
        have HC := Lib.hid hC
        clear hC HQ1 HQ2 hax
        go_wp2_with ((first | go_at_call 217 | go_at_fn 217); refine (HC.out _).mono ?_; rintro e w2 ⟨rfl, hb2⟩; have HB2 := Lib.hid (Below_then HB.out hb2 (Nat.le_refl _)); clear hb2)
        go_roundw
        case rel => exact ⟨lo, m, rfl, rfl, by omega, by omega, H1.out, HN.out, HB2.out⟩
        case measure => simp [intOf]; omega
      · have HN := Lib.hid (HQ1.out hax)
        have hcm : cmpS t x = -1 := by unfold cmpS; rw [hax]; rfl
        rw [hcm] at hC
        have HC := Lib.hid hC
        clear hC hcm HQ1 HQ2 hax
        go_wp2_with ((first | go_at_call 217 | go_at_fn 217); refine (HC.out _).mono ?_; rintro e w2 ⟨rfl, hb2⟩; have HB2 := Lib.hid (Below_then HB.out hb2 (Nat.le_refl _)); clear hb2)
        go_roundw
        case rel => exact ⟨m + 1, hi, by go_num, rfl, by omega, hhi, HN.out, H2.out, HB2.out⟩
        case measure => simp [intOf]; omega
    · obtain rfl : hi = lo := by omega
      have HE := Lib.hid (posE_of l (tx x) hi hhi H1.out (fun h => H2.out hi h (Nat.le_refl _)))
      by_cases hn : hi < l.length
      · obtain ⟨b, o, rfl, hc0, hc1⟩ := (HS.out.below HB.out).getE hn
        have hh : hereE l (tx x) = (tx l[hi].1 == tx x) := by unfold hereE; rw [HE.out, getD_en hn, decide_eq_true hn, Bool.true_and]
        have hnl := H2.out hi hn (Nat.le_refl _)
        generalize l[hi] = p at *
        obtain ⟨t, a⟩ := p
        simp only at *
        have hC := fun w => feCmp_any a x t w
        cases hgx : lessB (tx x) (tx t)
        · have HH := Lib.hid (show hereE l (tx x) = true by rw [hh]; exact beq_iff_eq.2 (lessB_tri hnl hgx))
          have hcm : cmpS t x = 0 := by unfold cmpS; rw [hnl, hgx]; rfl
          rw [hcm] at hC
          have HC := Lib.hid hC
          clear hC hcm hh hgx hnl
          go_wp2_with ((first | go_at_call 217 | go_at_fn 217); refine (HC.out _).mono ?_; rintro e w2 ⟨rfl, hb2⟩; have HB2 := Lib.hid (Below_then HB.out hb2 (Nat.le_refl _)); clear hb2)
          go_ret2
          exact ⟨ret_twoE (by rw [HE.out]) (by rw [HH.out]), HB2.out⟩
        · have HH := Lib.hid (show hereE l (tx x) = false by rw [hh, beq_eq_false_iff_ne]; intro e; rw [e, lessB_irrefl] at hgx; cases hgx)
          have hcm : cmpS t x = 1 := by unfold cmpS; rw [hnl, hgx]; rfl
          rw [hcm] at hC
          have HC := Lib.hid hC
          clear hC hcm hh hgx hnl
          go_wp2_with ((first | go_at_call 217 | go_at_fn 217); refine (HC.out _).mono ?_; rintro e w2 ⟨rfl, hb2⟩; have HB2 := Lib.hid (Below_then HB.out hb2 (Nat.le_refl _)); clear hb2)
          go_ret2
          exact ⟨ret_twoE (by rw [HE.out]) (by rw [HH.out]), HB2.out⟩
      · have HH := Lib.hid (show hereE l (tx x) = false by unfold hereE; rw [HE.out, decide_eq_false hn]; rfl)
        go_wp2
        go_ret2
        exact ⟨ret_twoE (by rw [HE.out]) (by rw [HH.out]), HB.out⟩
set_option maxHeartbeats 4000000 in
set_option maxRecDepth 100000 in
theorem findEntry_any (A : Option Addr) (c : Nat) (l : List En) (x : ByteArray) (w : World) (hs : Sl w encE 2 A l) (hl : l.length ≤ 16777216) (hso : SortE l) :
    Calls Tryz.prog 191 #[.slice A l.length c, .string x] w (FeRes l x w) := by
  have HX := Lib.hid (fun w h => BSearchE_any A c l x w h hl hso)
  have HS := Lib.hid hs
  clear hs hso
  unfold FeRes at *
  go_enter Tryz.func191, Tryz.ntmps191
  go_wp2_with fail
  refine (HX.out _ HS.out).mono ?_
  rintro e w1 ⟨rfl, hb⟩
  have HB := Lib.hid hb
  clear hb
  go_wp2
  go_ret2
  exact ⟨rfl, HB.out⟩
def PnRes (l : List En) (x : ByteArray) (w : World) (e : Ending) (w' : World) : Prop := e = .returned (.tuple #[.int .i64 ((getE l (tx x)).getD (-1)), .bool (getE l (tx x)).isSome]) ∧ Below w.heap.size w w'
set_option maxHeartbeats 4000000 in
set_option maxRecDepth 100000 in
theorem printNamed_any (A : Option Addr) (c : Nat) (l : List En) (x : ByteArray) (w : World) (hs : Sl w encE 2 A l) (hl : l.length ≤ 16777216) (hso : SortE l) :
    Calls Tryz.prog 176 #[.slice A l.length c, .string x] w (PnRes l x w) := by
  have hX := fun w h => findEntry_any A c l x w h hl hso
  have HS := Lib.hid hs
  have hg := getE_here hso (n := tx x)
  clear hs
  unfold FeRes at hX
  unfold PnRes
  rw [hg]
  cases hh : hereE l (tx x)
  · rw [hh] at hX
    have HX := Lib.hid hX
    clear hX hg hso hh
    go_enter Tryz.func176, Tryz.ntmps176
    go_wp2_with fail
    refine (HX.out _ HS.out).mono ?_
    rintro e w1 ⟨rfl, hb⟩
    have HB := Lib.hid hb
    clear hb
    go_wp2
    go_ret2
    exact ⟨rfl, HB.out⟩
  · have hlt : posE l (tx x) < l.length := (hereE_iff.1 hh).1
    rw [hh] at hX
    rw [getD_en hlt]
    have HX := Lib.hid hX
    have HG := Lib.hid (fun (w : World) (h : Sl w encE 2 A l) => h.getE hlt)
    generalize l[posE l (tx x)] = q at *
    obtain ⟨t, a⟩ := q
    simp only at *
    generalize posE l (tx x) = B at *
    obtain ⟨b, o, rfl, _, _⟩ := HG.out w HS.out
    clear hX hg hso hh
    go_enter Tryz.func176, Tryz.ntmps176
    go_wp2_with fail
    refine (HX.out _ HS.out).mono ?_
    rintro e w1 ⟨rfl, hb⟩
    have HB := Lib.hid hb
    obtain ⟨b', o', e', hc0, hc1⟩ := HG.out _ (HS.out.below hb)
    have hbb : b' = b ∧ o' = o := by injection e' with e'; injection e' with e1 e2; exact ⟨e1.symm, e2.symm⟩
    obtain ⟨rfl, rfl⟩ := hbb
    clear hb e'
    go_wp2
    go_ret2
    exact ⟨rfl, HB.out⟩
end Go.Proofs.YtaghiefokmapmaaGreatDoor

/- Trees: levels, roots, proofs. -/
set_option linter.unusedVariables false
namespace Go.Proofs.YtaghiefokmapmaaGreatDoor
open Go.RowKit
theorem new_cell1 (w : World) (u : Value) (E : TypeId) : (w.alloc (.cells #[u] E)).drew.cell? ⟨w.heap.size, 0, none⟩ = some u := by
  show (w.alloc (.cells #[u] E)).cell? ⟨w.heap.size, 0, none⟩ = some u
  rw [cell_of_row _ _ 0 _ E (0, 0) (heap_alloc_new w _)]; rfl
theorem lvlUp_two {l : List Int} {k : Nat} (h : k + 1 < l.length) : lvlUp (l.drop k) = prPair l[k] l[k + 1] :: lvlUp (l.drop (k + 2)) := by
  rw [List.drop_eq_getElem_cons (by omega), List.drop_eq_getElem_cons (by omega)]; rfl
theorem lvlUp_one {l : List Int} {k : Nat} (h : k < l.length) (h2 : ¬ k + 1 < l.length) : lvlUp (l.drop k) = [l[k]] := by
  rw [List.drop_eq_getElem_cons (by omega), List.drop_of_length_le (by omega)]; rfl
theorem lvlUp_none {l : List Int} {k : Nat} (h : ¬ k < l.length) : lvlUp (l.drop k) = [] := by
  rw [List.drop_of_length_le (by omega)]; rfl
theorem lvlUp_drop_end {l : List Int} {k : Nat} (h : k < l.length) (h2 : ¬ k + 1 < l.length) : lvlUp (l.drop (k + 2)) = [] := by
  rw [List.drop_of_length_le (by omega)]; rfl

end Go.Proofs.YtaghiefokmapmaaGreatDoor

/- Trees: valid leaves, the root, and the same of texts. -/
set_option linter.unusedVariables false
namespace Go.Proofs.YtaghiefokmapmaaGreatDoor
open Go.RowKit

theorem lvlUp_length : ∀ (n : Nat) (l : List Int), l.length ≤ n → (lvlUp l).length = (l.length + 1) / 2
  | 0, l, h => by have : l = [] := List.eq_nil_of_length_eq_zero (by omega); subst this; rfl
  | n + 1, l, h => by
    match l, h with
    | [], _ => rfl
    | [a], _ => simp [lvlUp]
    | a :: b :: r, h =>
      have := lvlUp_length n r (by simp at h; omega)
      simp only [lvlUp, List.length_cons, this]; omega
theorem lvlUp_len (l : List Int) : (lvlUp l).length = (l.length + 1) / 2 := lvlUp_length _ l (Nat.le_refl _)
theorem lvlUp_pv : ∀ (n : Nat) (l : List Int), l.length ≤ n → l.all pv = true → (lvlUp l).all pv = true
  | 0, l, h, _ => by have : l = [] := List.eq_nil_of_length_eq_zero (by omega); subst this; rfl
  | n + 1, l, h, ha => by
    match l, h, ha with
    | [], _, _ => rfl
    | [a], _, ha => exact ha
    | a :: b :: r, h, ha =>
      simp only [List.all_cons, Bool.and_eq_true] at ha
      simp only [lvlUp, List.all_cons, Bool.and_eq_true]
      exact ⟨prPair_pv ha.1 ha.2.1, lvlUp_pv n r (by simp at h; omega) ha.2.2⟩
theorem topF_step {f : Nat} {l : List Int} (h : 1 < l.length) : topF (f + 1) l = topF f (lvlUp l) := by
  rw [topF, if_pos h]
theorem topF_one {f : Nat} {l : List Int} (h : l.length = 1) : topF f l = l.headD 0 := by
  cases f with
  | zero => rfl
  | succ f => rw [topF, if_neg (by omega)]
theorem treeRoot_bad {l : List Int} (h : leavesV l = false) : treeRoot l = -1 := by unfold treeRoot; simp [h]
theorem treeRoot_ok {l : List Int} (h : leavesV l = true) : treeRoot l = topF 5 l := by unfold treeRoot; simp [h]
theorem leavesV_iff {l : List Int} : leavesV l = true ↔ 1 ≤ l.length ∧ l.length ≤ 16 ∧ l.all pv = true := by
  unfold leavesV; rw [Bool.and_eq_true, decide_eq_true_eq, and_assoc]
theorem leavesV_len {l : List Int} (h : ¬ (1 ≤ l.length ∧ l.length ≤ 16)) : leavesV l = false := by
  cases hl : leavesV l with
  | false => rfl
  | true => exact absurd ⟨(leavesV_iff.1 hl).1, (leavesV_iff.1 hl).2.1⟩ h
theorem leavesV_all {l : List Int} (h : l.all pv = false) : leavesV l = false := by
  cases hl : leavesV l with
  | false => rfl
  | true => rw [(leavesV_iff.1 hl).2.2] at h; cases h

def lenOf : Value → Nat | .slice _ n _ => n | _ => 0
def Level (l : List Int) (v : Value) (wr : World) : Prop := ∃ (A : Option Addr) (c f : Nat) (m : List Int), v = .slice A m.length c ∧ Sl wr encI 1 A m ∧ 1 ≤ m.length ∧ m.length ≤ 16 ∧ m.length ≤ 2 ^ f ∧ topF 5 l = topF f m

end Go.Proofs.YtaghiefokmapmaaGreatDoor

/- Trees in plain Lean: proofs, roots of proofs; that they meet. -/
set_option linter.unusedVariables false
namespace Go.Proofs.YtaghiefokmapmaaGreatDoor

/-- The root to which a proof leads. -/
def rootF : List Int → Int → Nat → Nat → Int
  | [], p, _, m => if 1 < m then -1 else p
  | x :: r, p, n, m =>
    if m = 1 then -1
    else if m ≤ n ^^^ 1 then (if x = -1 then rootF r p (n / 2) ((m + 1) / 2) else -1)
    else if pv x then rootF r (if n % 2 = 0 then prPair p x else prPair x p) (n / 2) ((m + 1) / 2)
    else -1
def inTree (p n m : Int) : Bool := pv p && decide (1 ≤ m ∧ m ≤ 16) && decide (0 ≤ n ∧ n < m)
def proofRoot (p n m : Int) (l : List Int) : Int := if inTree p n m then rootF l p n.toNat m.toNat else -1

theorem xor1 (n : Nat) : n ^^^ 1 = n + 1 - n % 2 * 2 := by
  have h2 : (n ^^^ 1) / 2 = n / 2 := by
    have := Nat.xor_div_two (a := n) (b := 1)
    simpa using this
  have h := Nat.xor_mod_two_pow (a := n) (b := 1) (n := 1)
  have h3 : n % 2 = 0 ∨ n % 2 = 1 := by omega
  have e0 : (0 ^^^ 1 % 2 : Nat) = 1 := rfl
  have e1 : (1 ^^^ 1 % 2 : Nat) = 0 := rfl
  simp only [Nat.pow_one] at h
  rcases h3 with h3 | h3
  · rw [h3, e0] at h; omega
  · rw [h3, e1] at h; omega
theorem xor1_even {n : Nat} (h : n % 2 = 0) : n ^^^ 1 = n + 1 := by rw [xor1]; omega
theorem xor1_odd {n : Nat} (h : n % 2 = 1) : n ^^^ 1 = n - 1 := by rw [xor1]; omega

theorem proofF_done {f : Nat} {m : List Int} {n : Nat} (h : m.length = 1) : proofF f m n = [] := by
  cases f with
  | zero => rfl
  | succ f => rw [proofF, if_neg (by omega)]
theorem proofF_step {f : Nat} {m : List Int} {n : Nat} (h : 1 < m.length) : proofF (f + 1) m n = (if n ^^^ 1 < m.length then m.getD (n ^^^ 1) 0 else -1) :: proofF f (lvlUp m) (n / 2) := by
  rw [proofF, if_pos h]
theorem proofF_len (f : Nat) : ∀ (m : List Int) (n : Nat), (proofF f m n).length ≤ f := by
  induction f with
  | zero => intro m n; simp [proofF]
  | succ f ih =>
    intro m n; rw [proofF]; split
    · simp; exact ih _ _
    · simp
theorem treeProof_bad {l : List Int} {n : Int} (h : leavesV l = false ∨ n < 0 ∨ (l.length : Int) ≤ n) : treeProof l n = [] := by
  unfold treeProof; rw [if_neg]; rintro ⟨h1, h2, h3⟩
  rcases h with h | h | h
  · rw [h] at h1; cases h1
  · omega
  · omega
theorem treeProof_ok {l : List Int} {n : Int} (h : leavesV l = true) (h0 : 0 ≤ n) (h1 : n < l.length) : treeProof l n = proofF 5 l n.toNat := by
  unfold treeProof; rw [if_pos ⟨h, h0, h1⟩]
theorem treeProof_len (l : List Int) (n : Int) : (treeProof l n).length ≤ 5 := by
  unfold treeProof; split
  · exact proofF_len _ _ _
  · simp

theorem lvlUp_at : ∀ (k : Nat) (l : List Int) (d : Int), (lvlUp l).getD k d = if 2 * k + 1 < l.length then prPair (l.getD (2 * k) d) (l.getD (2 * k + 1) d) else l.getD (2 * k) d
  | 0, [], d => rfl
  | 0, [a], d => rfl
  | 0, a :: b :: r, d => by simp [lvlUp]
  | k + 1, [], d => by simp [lvlUp]
  | k + 1, [a], d => by simp [lvlUp]
  | k + 1, a :: b :: r, d => by
    have ih := lvlUp_at k r d
    show (prPair a b :: lvlUp r).getD (k + 1) d = _
    have e : 2 * (k + 1) = 2 * k + 1 + 1 := by omega
    rw [List.getD_cons_succ, ih, e]
    simp only [List.length_cons, List.getD_cons_succ]
    have e2 : 2 * k + 1 + 1 + 1 < r.length + 1 + 1 ↔ 2 * k + 1 < r.length := by omega
    simp only [e2]
theorem getD_pv {l : List Int} (h : l.all pv = true) {k : Nat} (hk : k < l.length) (d : Int) : pv (l.getD k d) = true := by
  rw [List.getD_eq_getElem?_getD, List.getElem?_eq_getElem hk]
  exact List.all_eq_true.1 h _ (by simp)

/-- A proof leads to the root. -/
theorem root_of_proof (f : Nat) : ∀ (l : List Int) (n : Nat), l.all pv = true → n < l.length → l.length ≤ 2 ^ f → rootF (proofF f l n) (l.getD n 0) n l.length = topF f l := by
  induction f with
  | zero =>
    intro l n hp hn hl
    have h1 : l.length = 1 := by simp at hl; omega
    obtain ⟨x, rfl⟩ : ∃ x, l = [x] := by
      match l, h1 with
      | [x], _ => exact ⟨x, rfl⟩
    have : n = 0 := by simp at hn; omega
    subst this
    simp [proofF, rootF, topF]
  | succ f ih =>
    intro l n hp hn hl
    by_cases h1 : 1 < l.length
    · rw [proofF_step h1, topF_step h1]
      have hlen := lvlUp_len l
      have hup := lvlUp_pv _ l (Nat.le_refl _) hp
      have hih := ih (lvlUp l) (n / 2) hup (by omega) (by rw [hlen]; simp only [Nat.pow_succ] at hl; omega)
      have hat := lvlUp_at (n / 2) l 0
      rw [rootF, if_neg (by omega)]
      by_cases hb : n ^^^ 1 < l.length
      · rw [if_neg (by omega), if_pos hb, if_pos (getD_pv hp hb 0), ← hih]
        rw [hlen]
        congr 1
        rw [hat]
        by_cases he : n % 2 = 0
        · rw [if_pos he, xor1_even he] at *
          have e : 2 * (n / 2) = n := by omega
          rw [e, if_pos hb]
        · have ho : n % 2 = 1 := by omega
          rw [if_neg he, xor1_odd ho] at *
          have e : 2 * (n / 2) = n - 1 := by omega
          have e2 : n - 1 + 1 = n := by omega
          rw [e, e2, if_pos hn]
      · rw [if_pos (by omega), if_neg hb, if_pos rfl, ← hih, hlen]
        congr 1
        rw [hat]
        have he : n % 2 = 0 := by
          by_cases he : n % 2 = 0
          · exact he
          · exfalso; rw [xor1_odd (by omega)] at hb; omega
        rw [xor1_even he] at hb
        have e : 2 * (n / 2) = n := by omega
        rw [e, if_neg hb]
    · have h2 : l.length = 1 := by omega
      rw [proofF_done h2, topF_one h2, rootF, if_neg (by omega)]
      have : n = 0 := by omega
      subst this
      cases l <;> rfl
theorem topF_pv (f : Nat) : ∀ l : List Int, l.all pv = true → 1 ≤ l.length → pv (topF f l) = true := by
  induction f with
  | zero => intro l hp hl; rw [topF]; cases l with
    | nil => simp at hl
    | cons a r => simp only [List.all_cons, Bool.and_eq_true] at hp; exact hp.1
  | succ f ih =>
    intro l hp hl
    rw [topF]
    split
    · exact ih _ (lvlUp_pv _ l (Nat.le_refl _) hp) (by rw [lvlUp_len]; omega)
    · cases l with
      | nil => simp at hl
      | cons a r => simp only [List.all_cons, Bool.and_eq_true] at hp; exact hp.1
theorem treeRoot_pv {l : List Int} (h : leavesV l = true) : pv (treeRoot l) = true := by
  obtain ⟨h1, h2, h3⟩ := leavesV_iff.1 h
  rw [treeRoot_ok h]; exact topF_pv 5 l h3 h1
theorem treeRoot_bd (l : List Int) : -1 ≤ treeRoot l ∧ treeRoot l ≤ 16777212 := by
  cases h : leavesV l
  · rw [treeRoot_bad h]; omega
  · have := pv_iff.1 (treeRoot_pv h); omega
theorem treeRoot_neg {l : List Int} (h : treeRoot l < 0) : leavesV l = false := by
  cases hl : leavesV l
  · rfl
  · have := pv_iff.1 (treeRoot_pv hl); omega
theorem treeRoot_nonneg {l : List Int} (h : ¬ treeRoot l < 0) : leavesV l = true := by
  cases hl : leavesV l
  · rw [treeRoot_bad hl] at h; omega
  · rfl
/-- The proof of a leaf leads to the root. -/
theorem proofRoot_tree {l : List Int} {n : Int} (h : leavesV l = true) (h0 : 0 ≤ n) (h1 : n < l.length) : proofRoot (l.getD n.toNat 0) n l.length (treeProof l n) = treeRoot l := by
  obtain ⟨hl1, hl2, hp⟩ := leavesV_iff.1 h
  have hin : inTree (l.getD n.toNat 0) n l.length = true := by
    unfold inTree
    rw [getD_pv hp (by omega), Bool.true_and, Bool.and_eq_true]
    exact ⟨decide_eq_true (by omega), decide_eq_true (by omega)⟩
  unfold proofRoot
  rw [if_pos hin, treeProof_ok h h0 h1, treeRoot_ok h]
  have := root_of_proof 5 l n.toNat hp (by omega) (by omega)
  simpa using this
theorem rootF_bd : ∀ (l : List Int) (p : Int) (n m : Nat), -1 ≤ p ∧ p ≤ 16777212 → -1 ≤ rootF l p n m ∧ rootF l p n m ≤ 16777212
  | [], p, n, m, h => by rw [rootF]; split <;> omega
  | x :: r, p, n, m, h => by
    rw [rootF]
    split
    · omega
    · split
      · split
        · exact rootF_bd r p _ _ h
        · omega
      · split
        · refine rootF_bd r _ _ _ ?_
          split <;> exact prPair_bd _ _
        · omega
theorem proofRoot_bd (p n m : Int) (l : List Int) : -1 ≤ proofRoot p n m l ∧ proofRoot p n m l ≤ 16777212 := by
  unfold proofRoot; split
  · rename_i h
    have hp : pv p = true := by unfold inTree at h; simp only [Bool.and_eq_true] at h; exact h.1.1
    have := pv_iff.1 hp
    exact rootF_bd _ _ _ _ (by omega)
  · omega
end Go.Proofs.YtaghiefokmapmaaGreatDoor

/- Trees: proofs, walked. -/
set_option linter.unusedVariables false
namespace Go.Proofs.YtaghiefokmapmaaGreatDoor
open Go.RowKit

theorem i64_xor_nat (a b : Nat) (ha : a < 9223372036854775808) (hb : b < 9223372036854775808) : bits .xor .i64 (a : Int) (b : Int) = ((a ^^^ b : Nat) : Int) := by
  show IntKind.i64.wrap ((BitVec.ofInt 64 (a : Int) ^^^ BitVec.ofInt 64 (b : Int)).toNat : Int) = _
  rw [BitVec.toNat_xor, ofInt_i64 a ha, ofInt_i64 b hb, IntKind.wrap_i64]
  have := Nat.xor_lt_two_pow (n := 63) (x := a) (y := b) (by simpa using ha) (by simpa using hb)
  omega
theorem xor1_int (N : Nat) (h : N ≤ 1000) : bits .xor .i64 (N : Int) 1 = ((N ^^^ 1 : Nat) : Int) := i64_xor_nat N 1 (by omega) (by omega)

/-- One level of a tree on the way of a proof: what was written so far, what is to come. -/
def ProofAt (l : List Int) (n : Nat) (acc m : List Int) (N : Nat) : Prop := ∃ f, m.length ≤ 2 ^ f ∧ proofF 5 l n = acc ++ proofF f m N
theorem ProofAt.start {l : List Int} {n : Nat} (h : l.length ≤ 16) : ProofAt l n [] l n := ⟨5, by omega, rfl⟩
theorem ProofAt.len {l : List Int} {n : Nat} {acc m : List Int} {N : Nat} (h : ProofAt l n acc m N) : acc.length ≤ 5 := by
  obtain ⟨f, _, e⟩ := h
  have := proofF_len 5 l n
  rw [e, List.length_append] at this; omega
theorem ProofAt.step {l : List Int} {n : Nat} {acc m : List Int} {N : Nat} (h : ProofAt l n acc m N) (h1 : 1 < m.length) (x : Int) (hx : x = if N ^^^ 1 < m.length then m.getD (N ^^^ 1) 0 else -1) : ProofAt l n (acc ++ [x]) (lvlUp m) (N / 2) := by
  obtain ⟨f, hf, e⟩ := h
  cases f with
  | zero => simp at hf; omega
  | succ f =>
    refine ⟨f, ?_, ?_⟩
    · rw [lvlUp_len]; simp only [Nat.pow_succ] at hf; omega
    · rw [e, proofF_step h1, ← hx]; simp
theorem ProofAt.done {l : List Int} {n : Nat} {acc m : List Int} {N : Nat} (h : ProofAt l n acc m N) (h1 : m.length = 1) : proofF 5 l n = acc := by
  obtain ⟨f, hf, e⟩ := h
  rw [e, proofF_done h1, List.append_nil]
theorem getD_of_lt {m : List Int} {k : Nat} (h : k < m.length) : m.getD k 0 = m[k] := by rw [List.getD_eq_getElem?_getD, List.getElem?_eq_getElem h]; rfl
/-- A level that is read: no part of what is written. -/
def LvlIn (w0 wr : World) (v : Value) (m : List Int) (A : Option Addr) : Prop := Sl wr encI 1 A m ∧ Apart A v

end Go.Proofs.YtaghiefokmapmaaGreatDoor

/- Roots of proofs, walked. -/
set_option linter.unusedVariables false
namespace Go.Proofs.YtaghiefokmapmaaGreatDoor
open Go.RowKit

theorem rootF_one {x p : Int} {r : List Int} {N : Nat} : rootF (x :: r) p N 1 = -1 := by rw [rootF, if_pos rfl]
theorem rootF_alone {p : Int} {r : List Int} {N M : Nat} (h1 : M ≠ 1) (h2 : M ≤ N ^^^ 1) : rootF (-1 :: r) p N M = rootF r p (N / 2) ((M + 1) / 2) := by rw [rootF, if_neg h1, if_pos h2, if_pos rfl]
theorem rootF_alone_bad {x p : Int} {r : List Int} {N M : Nat} (h1 : M ≠ 1) (h2 : M ≤ N ^^^ 1) (hx : x ≠ -1) : rootF (x :: r) p N M = -1 := by rw [rootF, if_neg h1, if_pos h2, if_neg hx]
theorem rootF_bad {x p : Int} {r : List Int} {N M : Nat} (h1 : M ≠ 1) (h2 : ¬ M ≤ N ^^^ 1) (hx : pv x = false) : rootF (x :: r) p N M = -1 := by rw [rootF, if_neg h1, if_neg h2, if_neg (by rw [hx]; simp)]
theorem rootF_left {x p : Int} {r : List Int} {N M : Nat} (h1 : M ≠ 1) (h2 : ¬ M ≤ N ^^^ 1) (hx : pv x = true) (h : N % 2 = 0) : rootF (x :: r) p N M = rootF r (prPair p x) (N / 2) ((M + 1) / 2) := by rw [rootF, if_neg h1, if_neg h2, if_pos hx, if_pos h]
theorem rootF_right {x p : Int} {r : List Int} {N M : Nat} (h1 : M ≠ 1) (h2 : ¬ M ≤ N ^^^ 1) (hx : pv x = true) (h : ¬ N % 2 = 0) : rootF (x :: r) p N M = rootF r (prPair x p) (N / 2) ((M + 1) / 2) := by rw [rootF, if_neg h1, if_neg h2, if_pos hx, if_neg h]
theorem rootF_end {p : Int} {N M : Nat} : rootF [] p N M = if 1 < M then -1 else p := rfl
theorem inTree_iff {p n m : Int} : inTree p n m = true ↔ pv p = true ∧ (1 ≤ m ∧ m ≤ 16) ∧ (0 ≤ n ∧ n < m) := by
  unfold inTree; simp only [Bool.and_eq_true, decide_eq_true_eq, and_assoc]
theorem proofRoot_out {p n m : Int} {l : List Int} (h : inTree p n m = false) : proofRoot p n m l = -1 := by unfold proofRoot; rw [h]; rfl
theorem inTree_bad {p n m : Int} (h : ¬ (pv p = true ∧ (1 ≤ m ∧ m ≤ 16) ∧ (0 ≤ n ∧ n < m))) : inTree p n m = false := by
  cases hh : inTree p n m
  · rfl
  · exact absurd (inTree_iff.1 hh) h
/-- How a proof is read: what is left to be reckoned. -/
def RootAt (l : List Int) (R : Int) (k : Nat) (p : Int) (N M : Nat) : Prop := R = rootF (l.drop k) p N M
theorem RootAt.cons {l : List Int} {R p : Int} {k N M : Nat} (h : RootAt l R k p N M) (hk : k < l.length) : R = rootF (l[k] :: l.drop (k + 1)) p N M := by
  unfold RootAt at h; rw [h, List.drop_eq_getElem_cons hk]
theorem RootAt.nil {l : List Int} {R p : Int} {k N M : Nat} (h : RootAt l R k p N M) (hk : ¬ k < l.length) : R = if 1 < M then -1 else p := by
  unfold RootAt at h; rw [h, List.drop_of_length_le (by omega)]; rfl

theorem inI_pv {x : Int} (h : inI x (-1) 16777212 = true) (hx : x ≠ -1) : pv x = true := by
  simp only [inI, decide_eq_true_eq] at h; exact pv_iff.2 (by omega)
theorem inI_bad {x : Int} (h : inI x (-1) 16777212 = false) : pv x = false ∧ x ≠ -1 := by
  simp only [inI, decide_eq_false_iff_not] at h
  exact ⟨pv_false.2 (by omega), by omega⟩
theorem alone_iff {N M : Nat} (hN : N < M) : M ≤ N ^^^ 1 ↔ N % 2 = 0 ∧ N + 1 = M := by
  by_cases h : N % 2 = 0
  · rw [xor1_even h]; omega
  · rw [xor1_odd (by omega)]; omega
end Go.Proofs.YtaghiefokmapmaaGreatDoor

/- StoreValid, BundlePrint, walked. -/
set_option linter.unusedVariables false
namespace Go.Proofs.YtaghiefokmapmaaGreatDoor
open Go.RowKit

theorem storeAt_eq {l : List Pc} {k : Nat} (hk : k < l.length) : storeAt l k = ((textV (bs l[k].2) && (prOf (bs l[k].2) == l[k].1)) && (k == 0 || decide ((l.getD (k - 1) pc0).1 < l[k].1))) := by
  unfold storeAt pieceOk; rw [getD_pc hk]
theorem storeAt_txt {l : List Pc} {k : Nat} (hk : k < l.length) (h : textV (bs l[k].2) = false) : storeAt l k = false := by rw [storeAt_eq hk, h]; rfl
theorem storeAt_pr {l : List Pc} {k : Nat} (hk : k < l.length) (h : ¬ prOf (bs l[k].2) = l[k].1) : storeAt l k = false := by
  rw [storeAt_eq hk, (show (prOf (bs l[k].2) == l[k].1) = false by simpa using h), Bool.and_false]; rfl
theorem storeAt_asc {l : List Pc} {k : Nat} (hk : k < l.length) (h0 : k ≠ 0) (h : ¬ (l.getD (k - 1) pc0).1 < l[k].1) : storeAt l k = false := by
  rw [storeAt_eq hk, decide_eq_false h, (show (k == 0) = false by simpa using h0), Bool.or_false, Bool.and_false]
theorem storeAt_ok {l : List Pc} {k : Nat} (hk : k < l.length) (h1 : textV (bs l[k].2) = true) (h2 : prOf (bs l[k].2) = l[k].1) (h3 : k = 0 ∨ (l.getD (k - 1) pc0).1 < l[k].1) : storeAt l k = true := by
  rw [storeAt_eq hk, h1, (show (prOf (bs l[k].2) == l[k].1) = true by simpa using h2)]
  rcases h3 with h3 | h3
  · subst h3; rfl
  · rw [decide_eq_true h3, Bool.or_true]; rfl
theorem cell_allocP {u : Value} {w : World} {x : Obj} {a : Addr} (hc : w.cell? a = some u) : (w.alloc x).cell? a = some u :=
  (World.cell?_alloc_lt w x a (World.block_lt_of_cell? w _ hc)).trans hc
/-- The cell of the piece before. -/
theorem prev_cell {w : World} {b o : Nat} {l : List Pc} {k : Nat} (h : Sl w encP 2 (some ⟨b, o, none⟩) l) (hk : k < l.length) (h0 : k ≠ 0) : w.cell? ⟨b, o + (k - 1) * 2, none⟩ = some (.int .i64 (l.getD (k - 1) pc0).1) := by
  obtain ⟨b', o', e, h', _⟩ := h.getP (k := k - 1) (by omega)
  injection e with e; injection e with e1 e2
  rw [e1, e2, getD_pc (by omega)]; exact h'
set_option maxHeartbeats 4000000 in
set_option maxRecDepth 100000 in
theorem iStoreValid_any (A : Option Addr) (c : Nat) (l : List Pc) (w : World) (hs : Sl w encP 2 A l) (hl : l.length ≤ 16777216) (hf : FitP l) :
    Calls Tryz.prog 58 #[.slice A l.length c] w fun e w' => e = .returned (.bool (storeV l)) ∧ Below w.heap.size w w' := by
  have HS := Lib.hid hs
  have HF := Lib.hid hf
  clear hs hf
  by_cases h40 : l.length ≤ 40
  case neg =>
    have E := Lib.hid (storeV_long h40)
    go_enter Tryz.func58, Tryz.ntmps58
    go_wp2
    go_ret
    exact ⟨ret_bool E.out.symm, Below.refl _ _⟩
  go_enter Tryz.func58, Tryz.ntmps58
  go_wp2
  go_loopw [10] (fun i wr => ∃ (k : Nat), k ≤ l.length ∧ i = .int .i64 k ∧ Hid (StoreUpto l k) ∧ Hid (Below w.heap.size w wr)) (fun i _ => l.length - (intOf i).toNat)
  case atStart => exact ⟨0, Nat.zero_le _, rfl, StoreUpto.zero l, Below.refl _ _⟩
  case round =>
    obtain ⟨k, hk, rfl, hh, HB⟩ := hrel
    by_cases hlt : k < l.length
    · have hsk := HS.out.below HB.out
      obtain ⟨b, o, rfl, hc0, hc1⟩ := hsk.getP hlt
      have hfk := HF.out.at hlt
      have hpv := @prev_cell _ _ _ _ k hsk hlt
      have H1 := Lib.hid (fun h => storeV_bad hlt (storeAt_txt hlt h))
      have H2 := Lib.hid (fun h => storeV_bad hlt (storeAt_pr hlt h))
      have H3 := Lib.hid (fun h0 h => storeV_bad hlt (storeAt_asc hlt h0 h))
      have H4 := Lib.hid (fun h1 h2 h3 => hh.out.succ (storeAt_ok hlt h1 h2 h3))
      have HB2 := Lib.hid (HB.out.alloc HB.out.size (.cells #[.int .i64 l[k].1, .string l[k].2] 90))
      have hx0 := far_cell (new_cell (w := wr) (cs := #[.int .i64 l[k].1, .string l[k].2]) (E := 90) (k := 0) rfl)
      have hx1 := far_cell (new_cell (w := wr) (cs := #[.int .i64 l[k].1, .string l[k].2]) (E := 90) (k := 1) rfl)
      clear hsk
      generalize (l.getD (k - 1) pc0).1 = z at *
      generalize l[k] = p at *
      obtain ⟨a, t⟩ := p
      simp only at *
      have hTV := fun w => iTextValid_any t w hfk
      cases h1 : textV (bs t)
      · have HE := Lib.hid (H1.out h1)
        rw [h1] at hTV
        have HTV := Lib.hid hTV
        clear hTV h1 H1 H2 H3 H4 hpv
        go_wp2
        refine wp_region_far (by kernel_rfl) (by kernel_rfl) ?_
        repeat (go_big_quiet_step ((go_at_call 120; exact far_same (HTV.out _))))
        refine wpQuiet_nil ?_
        intro _ hwF
        obtain ⟨pF, hwF⟩ := hwF
        subst hwF
        have HB5 := Lib.hid (Below_then HB2.out (far_below _ pF) (Nat.le_refl _))
        generalize far _ pF = wF at *
        go_wp2
        go_ret
        exact ⟨ret_bool HE.out.symm, HB5.out⟩
      · rw [h1] at hTV
        have HTV := Lib.hid hTV
        have hPO := fun w => iPrintOf_any t w hfk
        generalize hq : prOf (bs t) = q at *
        have HPO := Lib.hid hPO
        clear hTV hPO
        by_cases h2 : q = a
        · subst h2
          have hq2 : (q != q) = false := by simp
          by_cases h0 : k = 0
          · have HN := Lib.hid (H4.out h1 rfl (.inl h0))
            clear H1 H2 H3 H4 hpv
            have hk0 : decide (0 < k) = false := decide_eq_false (by omega)
            clear h0
            go_wp2
            refine wp_region_far (by kernel_rfl) (by kernel_rfl) ?_
            repeat (go_big_quiet_step ((first | (go_at_call 120; exact far_same (HTV.out _)) | (go_at_call 121; exact far_same (HPO.out _)))))
            refine wpQuiet_nil ?_
            intro _ hwF
            obtain ⟨pF, hwF⟩ := hwF
            subst hwF
            have HB5 := Lib.hid (Below_then HB2.out (far_below _ pF) (Nat.le_refl _))
            generalize far _ pF = wF at *
            go_wp2
            refine wp_region_far (by kernel_rfl) (by kernel_rfl) ?_
            repeat (go_big_quiet_step (fail))
            refine wpQuiet_nil ?_
            intro _ hwF
            obtain ⟨pF, hwF⟩ := hwF
            subst hwF
            have HB6 := Lib.hid (Below_then HB5.out (far_below _ pF) (Nat.le_refl _))
            generalize far _ pF = wG at *
            go_wp2
            go_roundw
            case rel => exact ⟨k + 1, by omega, by go_num, HN.out, HB6.out⟩
            case measure => simp [intOf]; omega
          · have hp1 := far_cell (cell_allocP (x := (.cells #[.int .i64 q, .string t] 90)) (hpv h0))
            have hk1 : 0 < k := by omega
            have hk2 : IntKind.i64.wrap ((k : Int) - 1) = (k : Int) - 1 := IntWalk.i64_in _ (by omega)
            have hk3 : (0 : Int) ≤ (k : Int) - 1 := by omega
            have hk4 : (k : Int) - 1 < (l.length : Int) := by omega
            have hk5 : ((k : Int) - 1).toNat = k - 1 := by omega
            by_cases h3 : z < q
            · have HN := Lib.hid (H4.out h1 rfl (.inr h3))
              clear H1 H2 H3 H4 hpv
              go_wp2
              refine wp_region_far (by kernel_rfl) (by kernel_rfl) ?_
              repeat (go_big_quiet_step ((first | (go_at_call 120; exact far_same (HTV.out _)) | (go_at_call 121; exact far_same (HPO.out _)))))
              refine wpQuiet_nil ?_
              intro _ hwF
              obtain ⟨pF, hwF⟩ := hwF
              subst hwF
              have HB5 := Lib.hid (Below_then HB2.out (far_below _ pF) (Nat.le_refl _))
              have hy0 := far_cell (hx0 pF)
              have hy1 := far_cell (hp1 pF)
              clear hx0 hx1 hp1
              generalize far _ pF = wF at *
              go_wp2
              refine wp_region_far (by kernel_rfl) (by kernel_rfl) ?_
              repeat (go_big_quiet_step (fail))
              refine wpQuiet_nil ?_
              intro _ hwF
              obtain ⟨pF, hwF⟩ := hwF
              subst hwF
              have HB6 := Lib.hid (Below_then HB5.out (far_below _ pF) (Nat.le_refl _))
              clear hy0 hy1
              generalize far _ pF = wG at *
              go_wp2
              go_roundw
              case rel => exact ⟨k + 1, by omega, by go_num, HN.out, HB6.out⟩
              case measure => simp [intOf]; omega
            · have HE := Lib.hid (H3.out h0 h3)
              clear H1 H2 H3 H4 hpv
              go_wp2
              refine wp_region_far (by kernel_rfl) (by kernel_rfl) ?_
              repeat (go_big_quiet_step ((first | (go_at_call 120; exact far_same (HTV.out _)) | (go_at_call 121; exact far_same (HPO.out _)))))
              refine wpQuiet_nil ?_
              intro _ hwF
              obtain ⟨pF, hwF⟩ := hwF
              subst hwF
              have HB5 := Lib.hid (Below_then HB2.out (far_below _ pF) (Nat.le_refl _))
              have hy0 := far_cell (hx0 pF)
              have hy1 := far_cell (hp1 pF)
              clear hx0 hx1 hp1
              generalize far _ pF = wF at *
              go_wp2
              refine wp_region_far (by kernel_rfl) (by kernel_rfl) ?_
              repeat (go_big_quiet_step (fail))
              refine wpQuiet_nil ?_
              intro _ hwF
              obtain ⟨pF, hwF⟩ := hwF
              subst hwF
              have HB6 := Lib.hid (Below_then HB5.out (far_below _ pF) (Nat.le_refl _))
              clear hy0 hy1
              generalize far _ pF = wG at *
              go_wp2
              go_ret
              exact ⟨ret_bool HE.out.symm, HB6.out⟩
        · have HE := Lib.hid (H2.out h2)
          have hq2 : (a != q) = true := by simpa using fun e => h2 e.symm
          clear H1 H2 H3 H4 hpv
          go_wp2
          refine wp_region_far (by kernel_rfl) (by kernel_rfl) ?_
          repeat (go_big_quiet_step ((first | (go_at_call 120; exact far_same (HTV.out _)) | (go_at_call 121; exact far_same (HPO.out _)))))
          refine wpQuiet_nil ?_
          intro _ hwF
          obtain ⟨pF, hwF⟩ := hwF
          subst hwF
          have HB5 := Lib.hid (Below_then HB2.out (far_below _ pF) (Nat.le_refl _))
          generalize far _ pF = wF at *
          go_wp2
          go_ret
          exact ⟨ret_bool HE.out.symm, HB5.out⟩
    · have HE := Lib.hid (hh.out.done hlt h40)
      go_wp2
      go_ret
      exact ⟨ret_bool HE.out.symm, HB.out⟩
set_option maxHeartbeats 8000000 in
set_option maxRecDepth 100000 in
theorem sStoreValid_any (A : Option Addr) (c : Nat) (l : List Pc) (w : World) (hs : Sl w encP 2 A l) (hl : l.length ≤ 16777216) (hf : FitP l) :
    Calls Tryz.prog 69 #[.slice A l.length c] w fun e w' => e = .returned (.bool (storeV l)) ∧ Below w.heap.size w w' := by
  have HS := Lib.hid hs
  have HF := Lib.hid hf
  clear hs hf
  go_enter Tryz.func69, Tryz.ntmps69
  go_wp2
  go_loopw [3] (fun i wr => ∃ (k : Nat), k ≤ l.length ∧ i = .int .i64 k ∧ Hid (StoreUpto l k) ∧ Hid (Below w.heap.size w wr)) (fun i _ => l.length - (intOf i).toNat)
  case atStart => exact ⟨0, Nat.zero_le _, rfl, StoreUpto.zero l, Below.refl _ _⟩
  case round =>
    obtain ⟨k, hk, rfl, hh, HB⟩ := hrel
    by_cases hlt : k < l.length
    · have hsk := HS.out.below HB.out
      obtain ⟨b, o, rfl, hc0, hc1⟩ := hsk.getP hlt
      have hfk := HF.out.at hlt
      have hpv := @prev_cell _ _ _ _ k hsk hlt
      have H1 := Lib.hid (fun h => storeV_bad hlt (storeAt_txt hlt h))
      have H2 := Lib.hid (fun h => storeV_bad hlt (storeAt_pr hlt h))
      have H3 := Lib.hid (fun h0 h => storeV_bad hlt (storeAt_asc hlt h0 h))
      have H4 := Lib.hid (fun h1 h2 h3 => hh.out.succ (storeAt_ok hlt h1 h2 h3))
      have hx0 := far_cell hc0
      have hx1 := far_cell hc1
      clear hsk hc0 hc1
      generalize (l.getD (k - 1) pc0).1 = z at *
      generalize l[k] = p at *
      obtain ⟨a, t⟩ := p
      simp only at *
      have hTV := fun w => sTextValid_any t w hfk
      cases h1 : textV (bs t)
      · have HE := Lib.hid (H1.out h1)
        rw [h1] at hTV
        have HTV := Lib.hid hTV
        clear hTV h1 H1 H2 H3 H4 hpv
        go_wp2
        refine wp_region_far (by kernel_rfl) (by kernel_rfl) ?_
        repeat (go_big_quiet_step ((go_at_call 133; exact far_same (HTV.out _))))
        refine wpQuiet_nil ?_
        intro _ hwF
        obtain ⟨pF, hwF⟩ := hwF
        subst hwF
        have HB5 := Lib.hid (Below_then HB.out (far_below _ pF) (Nat.le_refl _))
        generalize far _ pF = wF at *
        go_wp2
        go_ret
        exact ⟨ret_bool HE.out.symm, HB5.out⟩
      · rw [h1] at hTV
        have HTV := Lib.hid hTV
        have hPO := fun w => sPrintOf_any t w hfk
        generalize hq : prOf (bs t) = q at *
        have HPO := Lib.hid hPO
        clear hTV hPO
        by_cases h2 : q = a
        · subst h2
          by_cases h0 : k = 0
          · have HN := Lib.hid (H4.out h1 rfl (.inl h0))
            clear H1 H2 H3 H4 hpv
            have hk0 : decide (0 < k) = false := decide_eq_false (by omega)
            clear h0
            go_wp2
            refine wp_region_far (by kernel_rfl) (by kernel_rfl) ?_
            repeat (go_big_quiet_step ((first | (go_at_call 133; exact far_same (HTV.out _)) | (go_at_call 134; exact far_same (HPO.out _)))))
            refine wpQuiet_nil ?_
            intro _ hwF
            obtain ⟨pF, hwF⟩ := hwF
            subst hwF
            have HB5 := Lib.hid (Below_then HB.out (far_below _ pF) (Nat.le_refl _))
            generalize far _ pF = wF at *
            go_wp2
            go_roundw
            case rel => exact ⟨k + 1, by omega, by go_num, HN.out, HB5.out⟩
            case measure => simp [intOf]; omega
          · have hp1 := far_cell (hpv h0)
            have hk1 : 0 < k := by omega
            have hk2 : IntKind.i64.wrap ((k : Int) - 1) = (k : Int) - 1 := IntWalk.i64_in _ (by omega)
            have hk3 : (0 : Int) ≤ (k : Int) - 1 := by omega
            have hk4 : (k : Int) - 1 < (l.length : Int) := by omega
            have hk5 : ((k : Int) - 1).toNat = k - 1 := by omega
            by_cases h3 : z < q
            · have HN := Lib.hid (H4.out h1 rfl (.inr h3))
              clear H1 H2 H3 H4 hpv
              go_wp2
              refine wp_region_far (by kernel_rfl) (by kernel_rfl) ?_
              repeat (go_big_quiet_step ((first | (go_at_call 133; exact far_same (HTV.out _)) | (go_at_call 134; exact far_same (HPO.out _)))))
              refine wpQuiet_nil ?_
              intro _ hwF
              obtain ⟨pF, hwF⟩ := hwF
              subst hwF
              have HB5 := Lib.hid (Below_then HB.out (far_below _ pF) (Nat.le_refl _))
              clear hx0 hx1 hp1
              generalize far _ pF = wF at *
              go_wp2
              go_roundw
              case rel => exact ⟨k + 1, by omega, by go_num, HN.out, HB5.out⟩
              case measure => simp [intOf]; omega
            · have HE := Lib.hid (H3.out h0 h3)
              clear H1 H2 H3 H4 hpv
              go_wp2
              refine wp_region_far (by kernel_rfl) (by kernel_rfl) ?_
              repeat (go_big_quiet_step ((first | (go_at_call 133; exact far_same (HTV.out _)) | (go_at_call 134; exact far_same (HPO.out _)))))
              refine wpQuiet_nil ?_
              intro _ hwF
              obtain ⟨pF, hwF⟩ := hwF
              subst hwF
              have HB5 := Lib.hid (Below_then HB.out (far_below _ pF) (Nat.le_refl _))
              clear hx0 hx1 hp1
              generalize far _ pF = wF at *
              go_wp2
              go_ret
              exact ⟨ret_bool HE.out.symm, HB5.out⟩
        · have HE := Lib.hid (H2.out h2)
          have hq2 : (q != a) = true := by simpa using h2
          clear H1 H2 H3 H4 hpv
          go_wp2
          refine wp_region_far (by kernel_rfl) (by kernel_rfl) ?_
          repeat (go_big_quiet_step ((first | (go_at_call 133; exact far_same (HTV.out _)) | (go_at_call 134; exact far_same (HPO.out _)))))
          refine wpQuiet_nil ?_
          intro _ hwF
          obtain ⟨pF, hwF⟩ := hwF
          subst hwF
          have HB5 := Lib.hid (Below_then HB.out (far_below _ pF) (Nat.le_refl _))
          generalize far _ pF = wF at *
          go_wp2
          go_ret
          exact ⟨ret_bool HE.out.symm, HB5.out⟩
    · have HD := Lib.hid (fun h40 => hh.out.done hlt h40)
      have HL := Lib.hid (@storeV_long l)
      by_cases h40 : l.length ≤ 40
      · have HE := Lib.hid (HD.out h40)
        go_wp2
        go_ret
        exact ⟨ret_bool (by rw [HE.out]; simp; omega), HB.out⟩
      · have HE := Lib.hid (HL.out h40)
        go_wp2
        go_ret
        exact ⟨ret_bool (by rw [HE.out]; simp; omega), HB.out⟩
def bundF (l : List Pc) : Int := l.foldl (fun n p => prPair n p.1) 13
def bundP (l : List Pc) : Int := if storeV l then bundF l else -1
theorem bundF_take {l : List Pc} {k : Nat} (h : k < l.length) : bundF (l.take (k + 1)) = prPair (bundF (l.take k)) l[k].1 := by
  unfold bundF; rw [List.take_succ_eq_append_getElem h, List.foldl_append]; rfl
end Go.Proofs.YtaghiefokmapmaaGreatDoor

/- EntriesValid and FolderText, walked. -/
set_option linter.unusedVariables false
namespace Go.Proofs.YtaghiefokmapmaaGreatDoor
open Go.RowKit
theorem entAt_eq {l : List En} {k : Nat} (hk : k < l.length) : entAt l k = ((wordV (bs l[k].1) && pv l[k].2) && (k == 0 || lessB (bs (l.getD (k - 1) en0).1) (bs l[k].1))) := by
  unfold entAt entOk; rw [getD_en hk]
theorem entAt_word {l : List En} {k : Nat} (hk : k < l.length) (h : wordV (bs l[k].1) = false) : entAt l k = false := by rw [entAt_eq hk, h]; rfl
theorem entAt_pv {l : List En} {k : Nat} (hk : k < l.length) (h : pv l[k].2 = false) : entAt l k = false := by rw [entAt_eq hk, h, Bool.and_false]; rfl
theorem entAt_asc {l : List En} {k : Nat} (hk : k < l.length) (h0 : k ≠ 0) (h : lessB (bs (l.getD (k - 1) en0).1) (bs l[k].1) = false) : entAt l k = false := by
  rw [entAt_eq hk, h, beq_eq_false_iff_ne.2 h0, Bool.or_false, Bool.and_false]
theorem entAt_ok {l : List En} {k : Nat} (hk : k < l.length) (h1 : wordV (bs l[k].1) = true) (h2 : pv l[k].2 = true) (h3 : k = 0 ∨ lessB (bs (l.getD (k - 1) en0).1) (bs l[k].1) = true) : entAt l k = true := by
  rw [entAt_eq hk, h1, h2]
  rcases h3 with h3 | h3
  · subst h3; rfl
  · rw [h3, Bool.or_true]; rfl
theorem FitE.at {l : List En} (h : FitE l) {k : Nat} (hk : k < l.length) : l[k].1.size ≤ 16777216 := h _ (by simp)
theorem prev_cellE {w : World} {b o : Nat} {l : List En} {k : Nat} (h : Sl w encE 2 (some ⟨b, o, none⟩) l) (hk : k < l.length) (h0 : k ≠ 0) : w.cell? ⟨b, o + (k - 1) * 2, none⟩ = some (.string (l.getD (k - 1) en0).1) := by
  obtain ⟨b', o', e, h', _⟩ := h.getE (k := k - 1) (by omega)
  injection e with e; injection e with e1 e2
  rw [e1, e2, getD_en (by omega)]; exact h'
theorem less_t {a b : ByteArray} {x : Bool} (h : lessB (bs a) (bs b) = x) : Op.bytesLess a.toList b.toList = x := by rw [less_tl]; exact h
set_option maxHeartbeats 4000000 in
set_option maxRecDepth 100000 in
theorem iEntriesValid_any (A : Option Addr) (c : Nat) (l : List En) (w : World) (hs : Sl w encE 2 A l) (hl : l.length ≤ 16777216) (hf : FitE l) :
    Calls Tryz.prog 189 #[.slice A l.length c] w fun e w' => e = .returned (.bool (entsV l)) ∧ Below w.heap.size w w' := by
  have HS := Lib.hid hs
  have HF := Lib.hid hf
  clear hs hf
  by_cases h40 : l.length ≤ 3
  case neg =>
    have E := Lib.hid (entsV_long h40)
    go_enter Tryz.func189, Tryz.ntmps189
    go_wp2
    go_ret
    exact ⟨ret_bool E.out.symm, Below.refl _ _⟩
  go_enter Tryz.func189, Tryz.ntmps189
  go_wp2
  go_loopw [10] (fun i wr => ∃ (k : Nat), k ≤ l.length ∧ i = .int .i64 k ∧ Hid (EntUpto l k) ∧ Hid (Below w.heap.size w wr)) (fun i _ => l.length - (intOf i).toNat)
  case atStart => exact ⟨0, Nat.zero_le _, rfl, EntUpto.zero l, Below.refl _ _⟩
  case round =>
    obtain ⟨k, hk, rfl, hh, HB⟩ := hrel
    by_cases hlt : k < l.length
    · have hsk := HS.out.below HB.out
      obtain ⟨b, o, rfl, hc0, hc1⟩ := hsk.getE hlt
      have hfk := HF.out.at hlt
      have hpv := @prev_cellE _ _ _ _ k hsk hlt
      have H1 := Lib.hid (fun h => entsV_bad hlt (entAt_word hlt h))
      have H2 := Lib.hid (fun h => entsV_bad hlt (entAt_pv hlt h))
      have H3 := Lib.hid (fun h0 h => entsV_bad hlt (entAt_asc hlt h0 h))
      have H4 := Lib.hid (fun h1 h2 h3 => hh.out.succ (entAt_ok hlt h1 h2 h3))
      have HB2 := Lib.hid (HB.out.alloc HB.out.size (.cells #[.string l[k].1, .int .i64 l[k].2] 160))
      have hx0 := new_cell (w := wr) (cs := #[.string l[k].1, .int .i64 l[k].2]) (E := 160) (k := 0) rfl
      have hx1 := new_cell (w := wr) (cs := #[.string l[k].1, .int .i64 l[k].2]) (E := 160) (k := 1) rfl
      clear hsk
      generalize (l.getD (k - 1) en0).1 = z at *
      generalize l[k] = p at *
      obtain ⟨t, a⟩ := p
      simp only at *
      have hTV := fun w => iWordValid_any t w hfk
      have hPV := fun w => iprintValid_any a w
      cases h1 : wordV (bs t)
      · have HE := Lib.hid (H1.out h1)
        rw [h1] at hTV
        have HTV := Lib.hid hTV
        clear hTV hPV h1 H1 H2 H3 H4 hpv hx0 hx1
        go_wp2_with (go_at_call 102; refine (HTV.out _).mono ?_; rintro e w' ⟨rfl, rfl⟩)
        go_ret
        exact ⟨ret_bool HE.out.symm, HB2.out⟩
      · rw [h1] at hTV
        have HTV := Lib.hid hTV
        clear hTV
        cases h2 : pv a
        · have HE := Lib.hid (H2.out h2)
          rw [h2] at hPV
          have HPV := Lib.hid hPV
          clear hPV h1 h2 H1 H2 H3 H4 hpv hx0 hx1
          go_wp2_with (first | (go_at_call 102; refine (HTV.out _).mono ?_; rintro e w' ⟨rfl, rfl⟩) | (go_at_call 130; refine (HPV.out _).mono ?_; rintro e w' ⟨rfl, rfl⟩))
          go_ret
          exact ⟨ret_bool HE.out.symm, HB2.out⟩
        · rw [h2] at hPV
          have HPV := Lib.hid hPV
          clear hPV
          replace hx0 := far_cell hx0
          by_cases h0 : k = 0
          · have HN := Lib.hid (H4.out h1 h2 (.inl h0))
            clear h1 h2 H1 H2 H3 H4 hpv hx1
            have hk0 : decide (0 < k) = false := decide_eq_false (by omega)
            clear h0
            go_wp2_with (first | (go_at_call 102; refine (HTV.out _).mono ?_; rintro e w' ⟨rfl, rfl⟩) | (go_at_call 130; refine (HPV.out _).mono ?_; rintro e w' ⟨rfl, rfl⟩))
            refine wp_region_far (by kernel_rfl) (by kernel_rfl) ?_
            repeat (go_big_quiet_step (fail))
            refine wpQuiet_nil ?_
            intro _ hwF
            obtain ⟨pF, hwF⟩ := hwF
            subst hwF
            have HB6 := Lib.hid (Below_then HB2.out (far_below _ pF) (Nat.le_refl _))
            generalize far _ pF = wG at *
            go_wp2
            go_roundw
            case rel => exact ⟨k + 1, by omega, by go_num, HN.out, HB6.out⟩
            case measure => simp [intOf]; omega
          · have hp1 := far_cell (cell_allocP (x := (.cells #[.string t, .int .i64 a] 160)) (hpv h0))
            have hk1 : 0 < k := by omega
            have hk2 : IntKind.i64.wrap ((k : Int) - 1) = (k : Int) - 1 := IntWalk.i64_in _ (by omega)
            have hk3 : (0 : Int) ≤ (k : Int) - 1 := by omega
            have hk4 : (k : Int) - 1 < (l.length : Int) := by omega
            have hk5 : ((k : Int) - 1).toNat = k - 1 := by omega
            cases h3 : lessB (bs z) (bs t)
            · have HE := Lib.hid (H3.out h0 h3)
              have h3' := less_t h3
              clear h1 h2 h3 H1 H2 H3 H4 hpv hx1
              go_wp2_with (first | (go_at_call 102; refine (HTV.out _).mono ?_; rintro e w' ⟨rfl, rfl⟩) | (go_at_call 130; refine (HPV.out _).mono ?_; rintro e w' ⟨rfl, rfl⟩))
              refine wp_region_far (by kernel_rfl) (by kernel_rfl) ?_
              repeat (go_big_quiet_step (fail))
              refine wpQuiet_nil ?_
              intro _ hwF
              obtain ⟨pF, hwF⟩ := hwF
              subst hwF
              have HB6 := Lib.hid (Below_then HB2.out (far_below _ pF) (Nat.le_refl _))
              clear hx0 hp1
              generalize far _ pF = wG at *
              go_wp2
              go_ret
              exact ⟨ret_bool HE.out.symm, HB6.out⟩
            · have HN := Lib.hid (H4.out h1 h2 (.inr h3))
              have h3' := less_t h3
              clear h1 h2 h3 H1 H2 H3 H4 hpv hx1
              go_wp2_with (first | (go_at_call 102; refine (HTV.out _).mono ?_; rintro e w' ⟨rfl, rfl⟩) | (go_at_call 130; refine (HPV.out _).mono ?_; rintro e w' ⟨rfl, rfl⟩))
              refine wp_region_far (by kernel_rfl) (by kernel_rfl) ?_
              repeat (go_big_quiet_step (fail))
              refine wpQuiet_nil ?_
              intro _ hwF
              obtain ⟨pF, hwF⟩ := hwF
              subst hwF
              have HB6 := Lib.hid (Below_then HB2.out (far_below _ pF) (Nat.le_refl _))
              clear hx0 hp1
              generalize far _ pF = wG at *
              go_wp2
              go_roundw
              case rel => exact ⟨k + 1, by omega, by go_num, HN.out, HB6.out⟩
              case measure => simp [intOf]; omega
    · have HE := Lib.hid (hh.out.done hlt h40)
      go_wp2
      go_ret
      exact ⟨ret_bool HE.out.symm, HB.out⟩
set_option maxHeartbeats 8000000 in
set_option maxRecDepth 100000 in
theorem sEntriesValid_any (A : Option Addr) (c : Nat) (l : List En) (w : World) (hs : Sl w encE 2 A l) (hl : l.length ≤ 16777216) (hf : FitE l) :
    Calls Tryz.prog 197 #[.slice A l.length c] w fun e w' => e = .returned (.bool (entsV l)) ∧ Below w.heap.size w w' := by
  have HS := Lib.hid hs
  have HF := Lib.hid hf
  clear hs hf
  go_enter Tryz.func197, Tryz.ntmps197
  go_wp2
  go_loopw [3] (fun i wr => ∃ (k : Nat), k ≤ l.length ∧ i = .int .i64 k ∧ Hid (EntUpto l k) ∧ Hid (Below w.heap.size w wr)) (fun i _ => l.length - (intOf i).toNat)
  case atStart => exact ⟨0, Nat.zero_le _, rfl, EntUpto.zero l, Below.refl _ _⟩
  case round =>
    obtain ⟨k, hk, rfl, hh, HB⟩ := hrel
    by_cases hlt : k < l.length
    · have hsk := HS.out.below HB.out
      obtain ⟨b, o, rfl, hc0, hc1⟩ := hsk.getE hlt
      have hfk := HF.out.at hlt
      have hpv := @prev_cellE _ _ _ _ k hsk hlt
      have H1 := Lib.hid (fun h => entsV_bad hlt (entAt_word hlt h))
      have H2 := Lib.hid (fun h => entsV_bad hlt (entAt_pv hlt h))
      have H3 := Lib.hid (fun h0 h => entsV_bad hlt (entAt_asc hlt h0 h))
      have H4 := Lib.hid (fun h1 h2 h3 => hh.out.succ (entAt_ok hlt h1 h2 h3))
      have hx0 := far_cell hc0
      have hx1 := far_cell hc1
      clear hsk hc0 hc1
      generalize (l.getD (k - 1) en0).1 = z at *
      generalize l[k] = p at *
      obtain ⟨t, a⟩ := p
      simp only at *
      have hTV := fun w => sWordValid_any t w hfk
      have hPV : ∀ w, Calls Tryz.prog 83 #[.int .i64 a, .int .i64 0, .int .i64 16777212] w fun e w' => e = .returned (.bool (pv a)) ∧ w = w' := fun w => sl1In_any a 0 16777212 w
      cases h1 : wordV (bs t)
      · have HE := Lib.hid (H1.out h1)
        rw [h1] at hTV
        have HTV := Lib.hid hTV
        clear hTV hPV h1 H1 H2 H3 H4 hpv
        go_wp2
        refine wp_region_far (by kernel_rfl) (by kernel_rfl) ?_
        repeat (go_big_quiet_step ((go_at_call 175; exact far_same (HTV.out _))))
        refine wpQuiet_nil ?_
        intro _ hwF
        obtain ⟨pF, hwF⟩ := hwF
        subst hwF
        have HB5 := Lib.hid (Below_then HB.out (far_below _ pF) (Nat.le_refl _))
        generalize far _ pF = wF at *
        go_wp2
        go_ret
        exact ⟨ret_bool HE.out.symm, HB5.out⟩
      · rw [h1] at hTV
        have HTV := Lib.hid hTV
        clear hTV
        cases h2 : pv a
        · have HE := Lib.hid (H2.out h2)
          rw [h2] at hPV
          have HPV := Lib.hid hPV
          clear hPV h1 h2 H1 H2 H3 H4 hpv
          go_wp2
          refine wp_region_far (by kernel_rfl) (by kernel_rfl) ?_
          repeat (go_big_quiet_step ((first | (go_at_call 175; exact far_same (HTV.out _)) | (go_at_call 83; exact far_same (HPV.out _)))))
          refine wpQuiet_nil ?_
          intro _ hwF
          obtain ⟨pF, hwF⟩ := hwF
          subst hwF
          have HB5 := Lib.hid (Below_then HB.out (far_below _ pF) (Nat.le_refl _))
          generalize far _ pF = wF at *
          go_wp2
          go_ret
          exact ⟨ret_bool HE.out.symm, HB5.out⟩
        · rw [h2] at hPV
          have HPV := Lib.hid hPV
          clear hPV
          by_cases h0 : k = 0
          · have HN := Lib.hid (H4.out h1 h2 (.inl h0))
            clear h1 h2 H1 H2 H3 H4 hpv
            have hk0 : decide (0 < k) = false := decide_eq_false (by omega)
            clear h0
            go_wp2
            refine wp_region_far (by kernel_rfl) (by kernel_rfl) ?_
            repeat (go_big_quiet_step ((first | (go_at_call 175; exact far_same (HTV.out _)) | (go_at_call 83; exact far_same (HPV.out _)))))
            refine wpQuiet_nil ?_
            intro _ hwF
            obtain ⟨pF, hwF⟩ := hwF
            subst hwF
            have HB5 := Lib.hid (Below_then HB.out (far_below _ pF) (Nat.le_refl _))
            generalize far _ pF = wF at *
            go_wp2
            go_roundw
            case rel => exact ⟨k + 1, by omega, by go_num, HN.out, HB5.out⟩
            case measure => simp [intOf]; omega
          · have hp1 := far_cell (hpv h0)
            have hk1 : 0 < k := by omega
            have hk2 : IntKind.i64.wrap ((k : Int) - 1) = (k : Int) - 1 := IntWalk.i64_in _ (by omega)
            have hk3 : (0 : Int) ≤ (k : Int) - 1 := by omega
            have hk4 : (k : Int) - 1 < (l.length : Int) := by omega
            have hk5 : ((k : Int) - 1).toNat = k - 1 := by omega
            cases h3 : lessB (bs z) (bs t)
            · have HE := Lib.hid (H3.out h0 h3)
              cases h4 : lessB (bs t) (bs z)
              · have e4 := less_t h4
                have e5 : (t.toList == z.toList) = true := by rw [eq_tl]; exact beq_iff_eq.2 (lessB_tri h4 h3)
                clear h1 h2 h3 h4 H1 H2 H3 H4 hpv
                go_wp2
                refine wp_region_far (by kernel_rfl) (by kernel_rfl) ?_
                repeat (go_big_quiet_step ((first | (go_at_call 175; exact far_same (HTV.out _)) | (go_at_call 83; exact far_same (HPV.out _)))))
                refine wpQuiet_nil ?_
                intro _ hwF
                obtain ⟨pF, hwF⟩ := hwF
                subst hwF
                have HB5 := Lib.hid (Below_then HB.out (far_below _ pF) (Nat.le_refl _))
                clear hx0 hx1 hp1
                generalize far _ pF = wF at *
                go_wp2
                go_ret
                exact ⟨ret_bool HE.out.symm, HB5.out⟩
              · have e4 := less_t h4
                clear h1 h2 h3 h4 H1 H2 H3 H4 hpv
                go_wp2
                refine wp_region_far (by kernel_rfl) (by kernel_rfl) ?_
                repeat (go_big_quiet_step ((first | (go_at_call 175; exact far_same (HTV.out _)) | (go_at_call 83; exact far_same (HPV.out _)))))
                refine wpQuiet_nil ?_
                intro _ hwF
                obtain ⟨pF, hwF⟩ := hwF
                subst hwF
                have HB5 := Lib.hid (Below_then HB.out (far_below _ pF) (Nat.le_refl _))
                clear hx0 hx1 hp1
                generalize far _ pF = wF at *
                go_wp2
                go_ret
                exact ⟨ret_bool HE.out.symm, HB5.out⟩
            · have HN := Lib.hid (H4.out h1 h2 (.inr h3))
              have e4 := less_t (lessB_asymm h3)
              have e5 : (t.toList == z.toList) = false := by rw [eq_tl, beq_eq_false_iff_ne]; intro e; have h3' : lessB (tx z) (tx t) = true := h3; rw [e, lessB_irrefl] at h3'; cases h3'
              clear h1 h2 h3 H1 H2 H3 H4 hpv
              go_wp2
              refine wp_region_far (by kernel_rfl) (by kernel_rfl) ?_
              repeat (go_big_quiet_step ((first | (go_at_call 175; exact far_same (HTV.out _)) | (go_at_call 83; exact far_same (HPV.out _)))))
              refine wpQuiet_nil ?_
              intro _ hwF
              obtain ⟨pF, hwF⟩ := hwF
              subst hwF
              have HB5 := Lib.hid (Below_then HB.out (far_below _ pF) (Nat.le_refl _))
              clear hx0 hx1 hp1
              generalize far _ pF = wF at *
              go_wp2
              go_roundw
              case rel => exact ⟨k + 1, by omega, by go_num, HN.out, HB5.out⟩
              case measure => simp [intOf]; omega
    · have HD := Lib.hid (fun h40 => hh.out.done hlt h40)
      have HL := Lib.hid (@entsV_long l)
      by_cases h40 : l.length ≤ 3
      · have HE := Lib.hid (HD.out h40)
        go_wp2
        go_ret
        exact ⟨ret_bool (by rw [HE.out]; simp; omega), HB.out⟩
      · have HE := Lib.hid (HL.out h40)
        go_wp2
        go_ret
        exact ⟨ret_bool (by rw [HE.out]; simp; omega), HB.out⟩
end Go.Proofs.YtaghiefokmapmaaGreatDoor

/- 'copy' of elements of more than one cell, as run equations; a row written whole. -/
set_option linter.unusedVariables false
namespace Go.Proofs.YtaghiefokmapmaaGreatDoor
open Go.RowKit

theorem run_copy_rowK {P : Program} (w : World) (dT sT ty elem : TypeId) (g o dLen dCap : Nat) (a : Addr) (sLen sCap : Nat) (cur : Array Value) (t : TypeId) (cs : List Value) (k m : Nat)
    (hu : P.underlying dT = some (.slice elem)) (hs : (P.info? elem).map (·.size) = some k) (hm : Nat.min sLen dLen = m)
    (hg : w.heap[g]? = some (.cells cur t (0, 0))) (hn : cs.length = m * k)
    (hsrc : ∀ j v, cs[j]? = some v → w.cell? (a.add j) = some v) (hfit : o + cs.length ≤ cur.size) (h1 : ∀ v ∈ cs, v.oneCell' = true) :
    (Builtin.copy_ #[dT, sT] ty #[.slice (some ⟨g, o, none⟩) dLen dCap, .slice (some a) sLen sCap]).run P w =
      .ok (goInt m) (w.setRow g (cur.toList.take o ++ cs ++ cur.toList.drop (o + cs.length)).toArray) := by
  have hl := run_loadCells_list (P := P) w a cs hsrc
  have hst := run_storeCells_at P g o t cs 0 cur w hg (by simpa using hfit) h1
  rw [hn] at hl
  cases hq : P.info? elem with
  | none => simp [hq] at hs
  | some i =>
    have hi : i.size = k := by simpa [hq] using hs
    simp [Builtin.copy_, run_underlying hu, Builtin.lenOf, Builtin.firstCells, sizeOf, typeInfo, hq, hi, hm, hl, hst]
end Go.Proofs.YtaghiefokmapmaaGreatDoor

/- slices.Insert of one piece into a row of the call's own, walked. -/
set_option linter.unusedVariables false
namespace Go.Proofs.YtaghiefokmapmaaGreatDoor
open Go.RowKit

def InsRes (base : Nat) (l : List Pc) (w : World) (e : Ending) (w' : World) : Prop := ∃ v', e = .returned v' ∧ Own w' base 90 2 encP v' l ∧ Below base w w'
theorem ins_end (l : List Pc) (x : Pc) : l ++ [x] = l.take l.length ++ x :: l.drop l.length := by simp
theorem flat_take {α : Type} {enc : α → List Value} {k : Nat} (he : ∀ x, (enc x).length = k) (l : List α) (i : Nat) (hi : i ≤ l.length) : flat enc (l.take i) = (flat enc l).take (i * k) ∧ flat enc (l.drop i) = (flat enc l).drop (i * k) := by
  have e : flat enc l = flat enc (l.take i) ++ flat enc (l.drop i) := by rw [← flat_append, List.take_append_drop]
  have hlen : (flat enc (l.take i)).length = i * k := by rw [flat_length he, List.length_take]; congr 1; omega
  rw [e]
  exact ⟨(List.take_left' hlen).symm, (List.drop_left' hlen).symm⟩
/-- A row into which two cells were laid: first what stands behind moves, then the cells come in. -/
theorem ins_row {α : Type} {L C X S N1 N2 : List α} {a b : Nat} (hC : L.take b = C) (hb : b + 2 ≤ L.length) (hab : a ≤ b) (hX : X.length = 2) (hS : S = C.drop a)
    (h1 : N1 = L.take (a + 2) ++ S ++ L.drop (a + 2 + S.length)) (h2 : N2 = N1.take a ++ X ++ N1.drop (a + X.length)) :
    N1.length = L.length ∧ N2.length = L.length ∧ N2.take (b + 2) = C.take a ++ X ++ C.drop a := by
  have hCl : C.length = b := by rw [← hC, List.length_take]; omega
  have hSl : S.length = b - a := by rw [hS, List.length_drop, hCl]
  have hL2 : (L.take (a + 2)).length = a + 2 := by rw [List.length_take]; omega
  have e1 : N1.take a = C.take a := by
    rw [h1, List.append_assoc, List.take_append_of_le_length (by omega), List.take_take, ← hC, List.take_take]
    congr 1; omega
  have e2 : N1.drop (a + 2) = S ++ L.drop (a + 2 + S.length) := by
    rw [h1, List.append_assoc]; exact List.drop_left' hL2
  have l1 : N1.length = L.length := by rw [h1]; simp; omega
  have eN : N2 = (C.take a ++ X ++ C.drop a) ++ L.drop (a + 2 + S.length) := by
    rw [h2, hX, e1, e2, ← hS]; simp
  have hl : (C.take a ++ X ++ C.drop a).length = b + 2 := by simp [hX, hCl]; omega
  refine ⟨l1, ?_, ?_⟩
  · rw [eN, List.length_append, hl]; simp; omega
  · rw [eN]; exact List.take_left' hl
theorem one_sl {w : World} {vb : Nat} {x : Pc} (hv : w.heap[vb]? = some (.cells #[.int .i64 x.1, .string x.2] 90 (0, 0))) : Sl w encP 2 (some ⟨vb, 0, none⟩) [x] := by
  intro _
  refine ⟨vb, 0, rfl, fun j u hu => ?_⟩
  rw [cell_of_row _ _ _ _ _ (0, 0) hv]
  simpa [flat, encP] using hu
set_option maxHeartbeats 4000000 in
set_option maxRecDepth 100000 in
theorem Insert_end (base : Nat) (v : Value) (l : List Pc) (x : Pc) (w : World) (vb : Nat) (hbase : base ≤ w.heap.size) (hown : Own w base 90 2 encP v l)
    (hv : w.heap[vb]? = some (.cells #[.int .i64 x.1, .string x.2] 90 (0, 0))) (hl : l.length ≤ 16777216) :
    Calls Tryz.prog 179 #[v, .int .i64 l.length, .slice (some ⟨vb, 0, none⟩) 1 1] w (InsRes base (l ++ [x]) w) := by
  obtain ⟨i0, hi0, hz0, hz1, hz2⟩ := info_parts pc_info
  have hsx := one_sl hv
  have HBR := Lib.hid (Below.refl base w)
  have hcz := hown
  obtain ⟨A, c, rfl, hle, hs, hA⟩ := hown.sl
  have HO := Lib.hid hcz
  have HCZ := Lib.hid hcz.cz
  have HSX := Lib.hid hsx
  clear hcz hsx hown hs hv
  have hcm : c ≤ 9223372036854775807 := by
    rcases HO.out.2 with ⟨hv, hn⟩ | ⟨g, cap, cur, hv, hg, hh, hnc, hcm, hsz, ht⟩
    · injection hv with _ _ e; omega
    · injection hv with _ _ e; unfold maxLen at hcm; omega
  unfold InsRes
  rcases hA with ⟨hl0, rfl⟩ | ⟨g, rfl, hg, hgw⟩
  · subst hl0
    obtain rfl := HCZ.out rfl
    go_enter Tryz.func179, Tryz.ntmps179
    go_wp2_with (at_builtin; refine wpList_appN (w0 := w) (B := base) (base := base) (m := [x]) Tryz.underlying28 hi0 hz0 hz1 hz2 rfl (by decide) (by decide) rfl _ _ rfl HO.out HBR.out (Nat.le_refl _) hbase (by simp) HSX.out (by intro h; cases h) (fun _ => rfl) oneP rfl rfl ?_; intro v' w' hown' hb' _; have HO2 := Lib.hid hown'; have HB2 := Lib.hid hb'; clear hown' hb')
    go_ret
    exact ⟨_, rfl, HO2.out, HB2.out⟩
  · go_enter Tryz.func179, Tryz.ntmps179
    go_wp2_with (at_builtin; refine wpList_appN (w0 := w) (B := base) (base := base) (m := [x]) Tryz.underlying28 hi0 hz0 hz1 hz2 rfl (by decide) (by decide) rfl _ _ rfl HO.out HBR.out (Nat.le_refl _) hbase (by simp; omega) HSX.out (by intro h; cases h) (fun _ => rfl) oneP rfl rfl ?_; intro v' w' hown' hb' _; have HO2 := Lib.hid hown'; have HB2 := Lib.hid hb'; clear hown' hb')
    all_goals
      go_ret
      exact ⟨_, rfl, HO2.out, HB2.out⟩
set_option maxHeartbeats 4000000 in
set_option maxRecDepth 100000 in
theorem Insert_room (base : Nat) (l : List Pc) (x : Pc) (i : Nat) (w : World) (vb g cap : Nat) (cur : Array Value) (hbase : base ≤ w.heap.size)
    (hg : base ≤ g) (hh : w.heap[g]? = some (.cells cur 90 (0, 0))) (hcm : cap ≤ maxLen) (hsz : cur.size = cap * 2) (ht : cur.toList.take (l.length * 2) = flat encP l) (hroom : l.length + 1 ≤ cap)
    (hv : w.heap[vb]? = some (.cells #[.int .i64 x.1, .string x.2] 90 (0, 0))) (hne : vb ≠ g) (hi : i < l.length) (hl : l.length ≤ 16777216) :
    Calls Tryz.prog 179 #[.slice (some ⟨g, 0, none⟩) l.length cap, .int .i64 i, .slice (some ⟨vb, 0, none⟩) 1 1] w (InsRes base (l.take i ++ x :: l.drop i) w) := by
  obtain ⟨i0, hi0, hz0, hz1, hz2⟩ := info_parts pc_info
  have hsz' : ∀ w, (Go.sizeOf 90).run Tryz.prog w = .ok 2 w := fun w => by simp [sizeOf, typeInfo, hi0, hz1]
  have hsa : w.shape? vb = some (90, 2) := by simp [World.shape?, hv]
  have hsb : w.shape? g = some (90, cur.size) := by simp [World.shape?, hh]
  have hfa : w.frozen? ⟨vb, 0, none⟩ = false := by simp [World.frozen?, hv]
  have hfe : w.frozen? ⟨vb, 2, none⟩ = false := by simp [World.frozen?, hv]
  have hov : ∀ o lb cb, (callFunc 205 #[.slice (some ⟨vb, 0, none⟩) 1 1, .slice (some ⟨g, o, none⟩) lb cb]).run Tryz.prog w = .ok (.value (.bool false)) w := fun o lb cb => by
    rw [run_callFunc_extern Tryz.func205 (by kernel_rfl) (by kernel_rfl) (by kernel_rfl) (e := Extern.SlicesOverlaps.overlaps #[28, 28] #[4]) (by kernel_rfl),
      Lib.run_overlaps_apart w 28 4 90 Tryz.underlying28 2 hsz' ⟨vb, 0, none⟩ ⟨g, o, none⟩ 1 1 lb cb hne 90 90 2 cur.size hsa hsb (by omega) hfa hfe]
    rfl
  obtain ⟨C, hC⟩ : ∃ C, C = flat encP l := ⟨_, rfl⟩
  have hCl : C.length = l.length * 2 := by rw [hC]; exact flat_length (enc := encP) (size := 2) (fun _ => rfl) l
  have hflat := flat_take (enc := encP) (k := 2) (fun _ => rfl) l i (by omega)
  rw [← hC] at ht hflat
  have hLl : cur.toList.length = cap * 2 := by rw [Array.length_toList]; exact hsz
  obtain ⟨S, hS⟩ : ∃ S, S = C.drop (i * 2) := ⟨_, rfl⟩
  have hSl : S.length = (l.length - i) * 2 := by rw [hS, List.length_drop, hCl]; omega
  obtain ⟨N1, hN1⟩ : ∃ N, N = cur.toList.take (i * 2 + 2) ++ S ++ cur.toList.drop (i * 2 + 2 + S.length) := ⟨_, rfl⟩
  obtain ⟨N2, hN2⟩ : ∃ N, N = N1.take (i * 2) ++ encP x ++ N1.drop (i * 2 + (encP x).length) := ⟨_, rfl⟩
  obtain ⟨l1, l2, tk⟩ := ins_row (a := i * 2) (b := l.length * 2) ht (by omega) (by omega) (X := encP x) rfl hS hN1 hN2
  have hz3 : (Tryz.prog.info? 90).map (·.size) = some 2 := by rw [hi0]; simp [hz1]
  have hcell : ∀ j u, C[j]? = some u → w.cell? ⟨g, j, none⟩ = some u := fun j u hu => by
    rw [cell_of_row _ _ _ _ _ (0, 0) hh, ← Array.getElem?_toList]
    rw [← ht, List.getElem?_take] at hu
    split at hu
    · exact hu
    · cases hu
  have hcp1 : ∀ ty dl sl dc sc, dl = l.length - i → sl = l.length + 1 - i → (Builtin.copy_ #[28, 28] ty #[.slice (some ⟨g, (i + 1) * 2, none⟩) dl dc, .slice (some ⟨g, i * 2, none⟩) sl sc]).run Tryz.prog w.drew = .ok (goInt ((l.length - i : Nat) : Int)) (w.drew.setRow g N1.toArray) := fun ty dl sl dc sc e1 e2 => by
    subst e1 e2
    have := run_copy_rowK (P := Tryz.prog) w.drew 28 28 ty 90 g ((i + 1) * 2) (l.length - i) dc ⟨g, i * 2, none⟩ (l.length + 1 - i) sc cur 90 S 2 (l.length - i) Tryz.underlying28 hz3 (by simp only [Nat.min_def]; split <;> omega) hh hSl
      (fun j u hu => by
        rw [Addr.add_lit]
        rw [hS, List.getElem?_drop] at hu
        exact hcell _ u hu)
      (by omega) (fun u hu => by
        rw [hS, hC] at hu
        unfold flat at hu
        obtain ⟨y, _, hy⟩ := List.mem_flatMap.1 (List.mem_of_mem_drop hu)
        exact oneP y u hy)
    rw [hN1, show i * 2 + 2 = (i + 1) * 2 by omega]
    exact this
  have hcp2 : ∀ ty dl dc, 0 < dl → (Builtin.copy_ #[28, 28] ty #[.slice (some ⟨g, i * 2, none⟩) dl dc, .slice (some ⟨vb, 0, none⟩) 1 1]).run Tryz.prog (w.drew.setRow g N1.toArray) = .ok (goInt 1) ((w.drew.setRow g N1.toArray).setRow g N2.toArray) := fun ty dl dc e1 => by
    have := run_copy_rowK (P := Tryz.prog) (w.drew.setRow g N1.toArray) 28 28 ty 90 g (i * 2) dl dc ⟨vb, 0, none⟩ 1 1 N1.toArray 90 (encP x) 2 1 Tryz.underlying28 hz3 (by simp only [Nat.min_def]; split <;> omega) (setRow_heap w.drew g _ _ _ _ hh) rfl
      (fun j u hu => by
        rw [Addr.add_lit, cell_of_row _ _ _ _ _ (0, 0) ((setRow_other w.drew g vb _ hne).trans hv)]
        simpa [encP] using hu)
      (by simp [encP, l1]; omega) (fun u hu => oneP x u hu)
    rw [hN2]
    exact this
  have hfin : Own ((w.drew.setRow g N1.toArray).setRow g N2.toArray) base 90 2 encP (.slice (some ⟨g, 0, none⟩) (l.length + 1) cap) (l.take i ++ x :: l.drop i) := by
    have hll : (l.take i ++ x :: l.drop i).length = l.length + 1 := by simp; omega
    refine ⟨flat_length (enc := encP) (size := 2) (fun _ => rfl) _, .inr ⟨g, cap, N2.toArray, by rw [hll], hg, setRow_heap _ g _ _ _ _ (setRow_heap w.drew g _ _ _ _ hh), by rw [hll]; exact hroom, hcm, by simp [l2, hLl], ?_⟩⟩
    have e : flat encP (l.take i ++ x :: l.drop i) = flat encP (l.take i) ++ (encP x ++ flat encP (l.drop i)) := by rw [flat_append]; rfl
    rw [e, hflat.1, hflat.2, hll, show (l.length + 1) * 2 = l.length * 2 + 2 by omega]
    show N2.take _ = _
    rw [tk, List.append_assoc]
  have mixed : Tryz.prog.follows .mixedOrders = true := by kernel_rfl
  have HFIN := Lib.hid hfin
  have HBEL := Lib.hid (below_setRow (below_setRow ((Below.refl base w).drew) hg N1.toArray) hg N2.toArray)
  have HC1 := Lib.hid (fun ty => hcp1 ty _ _ (cap - (i + 1)) (cap - i) rfl rfl)
  have HC2 := Lib.hid (fun ty => hcp2 ty (l.length + 1 - i) (cap - i) (by omega))
  clear hfin hcp1 hcp2 hcell tk l2 hN2 l1 hN1 hSl hS hLl hflat hCl hC hsz' hz3
  unfold maxLen at hcm
  unfold InsRes
  clear hh hv ht hsa hsb hfa hfe
  have hz2' : ¬ ((i : Int) = (l.length : Int)) := by omega
  have hin : i ≤ l.length := by omega
  have hb2 : ¬ (cap = i + 1) := by omega
  have hb4 : ¬ (cap = i) := by omega
  have hw1 : IntKind.i64.wrap ((i : Int) + 1) = (i : Int) + 1 := by rw [IntKind.wrap_i64]; omega
  have htn : ((i : Int) + 1).toNat = i + 1 := by omega
  have hb1 : (0 : Int) ≤ (i : Int) + 1 := by omega
  have hb3 : (i : Int) ≤ (l.length : Int) + 1 := by omega
  go_enter Tryz.func179, Tryz.ntmps179
  go_wp2_with (simp only [hov])
  go_region_law_o (refine step_copy_runI rfl _ _ 28 28 rfl (.slice (some ⟨g, (i + 1) * 2, none⟩) (l.length - i) (cap - (i + 1))) (.slice (some ⟨g, i * 2, none⟩) (l.length + 1 - i) (cap - i)) (by simp [Act.eval, Act.put]) (by simp [Act.eval, Act.put]) (HC1.out _) ?_)
  have hc2 := HC2.out
  go_wp2
  go_ret
  exact ⟨_, rfl, HFIN.out, HBEL.out⟩
theorem grow_row {α : Type} {R P X S N1 N2 : List α} {a : Nat} (hP : R.take a = P) (hPl : P.length = a) (hX : X.length = 2) (hb : a + 2 + S.length ≤ R.length)
    (h1 : N1 = R.take a ++ X ++ R.drop (a + X.length)) (h2 : N2 = N1.take (a + 2) ++ S ++ N1.drop (a + 2 + S.length)) :
    N1.length = R.length ∧ N2.length = R.length ∧ N2.take (a + 2 + S.length) = P ++ X ++ S := by
  rw [hX, hP] at h1
  have l1 : N1.length = R.length := by rw [h1]; simp [hPl, hX]; omega
  have e1 : N1.take (a + 2) = P ++ X := by rw [h1]; exact List.take_left' (by simp [hPl, hX])
  have hl : (P ++ X ++ S).length = a + 2 + S.length := by simp [hPl, hX]; omega
  refine ⟨l1, ?_, ?_⟩
  · rw [h2, e1, List.length_append, hl, List.length_drop, l1]; omega
  · rw [h2, e1]; exact List.take_left' hl
set_option maxHeartbeats 4000000 in
set_option maxRecDepth 100000 in
theorem Insert_grow (base : Nat) (l : List Pc) (x : Pc) (i : Nat) (w : World) (vb g cap : Nat) (cur : Array Value) (hbase : base ≤ w.heap.size)
    (hg : base ≤ g) (hh : w.heap[g]? = some (.cells cur 90 (0, 0))) (hle : l.length ≤ cap) (ht : cur.toList.take (l.length * 2) = flat encP l) (hroom : cap < l.length + 1)
    (hv : w.heap[vb]? = some (.cells #[.int .i64 x.1, .string x.2] 90 (0, 0))) (hi : i < l.length) (hl : l.length ≤ 16777216) :
    Calls Tryz.prog 179 #[.slice (some ⟨g, 0, none⟩) l.length cap, .int .i64 i, .slice (some ⟨vb, 0, none⟩) 1 1] w (InsRes base (l.take i ++ x :: l.drop i) w) := by
  obtain ⟨i0, hi0, hz0, hz1, hz2⟩ := info_parts pc_info
  have hgw : g < w.heap.size := (Array.getElem?_eq_some_iff.1 hh).1
  have hvw : vb < w.heap.size := (Array.getElem?_eq_some_iff.1 hv).1
  obtain ⟨C, hC⟩ : ∃ C, C = flat encP l := ⟨_, rfl⟩
  have hCl : C.length = l.length * 2 := by rw [hC]; exact flat_length (enc := encP) (size := 2) (fun _ => rfl) l
  have hflat := flat_take (enc := encP) (k := 2) (fun _ => rfl) l i (by omega)
  rw [← hC] at ht hflat
  obtain ⟨S, hS⟩ : ∃ S, S = C.drop (i * 2) := ⟨_, rfl⟩
  have hSl : S.length = (l.length - i) * 2 := by rw [hS, List.length_drop, hCl]; omega
  have hPl : (C.take (i * 2)).length = i * 2 := by rw [List.length_take, hCl]; omega
  have hz3 : (Tryz.prog.info? 90).map (·.size) = some 2 := by rw [hi0]; simp [hz1]
  have hcell : ∀ j u, C[j]? = some u → w.cell? ⟨g, j, none⟩ = some u := fun j u hu => by
    rw [cell_of_row _ _ _ _ _ (0, 0) hh, ← Array.getElem?_toList]
    rw [← ht, List.getElem?_take] at hu
    split at hu
    · exact hu
    · cases hu
  have hold : (Builtin.firstCells i0.size i (.slice (some ⟨g, 0, none⟩) i cap)).run Tryz.prog w.drew = .ok (C.take (i * 2)).toArray w.drew := by
    rw [hz1]
    exact run_firstCells_some w.drew 2 i ⟨g, 0, none⟩ i cap (C.take (i * 2)) hPl (fun j u hu => by
      rw [Addr.add_lit, Nat.zero_add]
      rw [List.getElem?_take] at hu
      split at hu
      · exact hcell j u hu
      · cases hu)
  have hik : i + (l.length + 1 - i) = l.length + 1 := by omega
  have hkk : (l.length : Int) + 1 - (i : Int) = ((l.length + 1 - i : Nat) : Int) := by omega
  obtain ⟨G, hG⟩ : ∃ G, G = grownCap w (l.length + 1) cap 90 := ⟨_, rfl⟩
  have hGn : l.length + 1 ≤ G := by rw [hG]; exact grownCap_ge w _ _ _
  have hG63 : G ≤ maxLen := by rw [hG]; exact grownCap_le_maxLen w (l.length + 1) cap 90 (by unfold maxLen; omega)
  obtain ⟨R, hR⟩ : ∃ R : Array Value, R = (C.take (i * 2)).toArray ++ Builtin.zeroCells (Value.agg #[.int .i64 0, .string ⟨#[]⟩]).cells (l.length + 1 - i) ++ Builtin.zeroCells (Value.agg #[.int .i64 0, .string ⟨#[]⟩]).cells (G - (l.length + 1)) := ⟨_, rfl⟩
  have hRl : R.size = G * 2 := by
    rw [hR]
    simp only [Array.size_append, List.size_toArray, hPl]
    have hz : ∀ k, (Builtin.zeroCells (Value.agg #[.int .i64 0, .string ⟨#[]⟩]).cells k).size = k * 2 := fun k => by simp [Builtin.zeroCells, Value.cells]
    rw [hz, hz]; omega
  have hRll : R.toList.length = G * 2 := by rw [Array.length_toList]; exact hRl
  have hRt : R.toList.take (i * 2) = C.take (i * 2) := by
    rw [hR]; simp only [Array.toList_append, List.append_assoc]
    exact List.take_left' hPl
  have hrz : ∀ ty, (Builtin.append_ #[28, 3] ty #[.slice (some ⟨g, 0, none⟩) i cap, .int .i64 ((l.length : Int) + 1 - (i : Int))]).run Tryz.prog w =
      .ok (.slice (some ⟨w.heap.size, 0, none⟩) (l.length + 1) G) (w.alloc (.cells R 90)).drew := fun ty => by
    have h := Lib.run_append_grow_zeros (P := Tryz.prog) w 28 3 ty 90 i0 _ .i64 .i64 Tryz.underlying28 Tryz.underlying3 hi0 hz0 (some ⟨g, 0, none⟩) i cap (C.take (i * 2)) hold (l.length + 1 - i) (by omega) (by omega) (by omega) (by omega) (by rw [hz2]; omega) (by rw [hz2, hik]; exact growslice_fits hroom (by omega))
    rw [hik, ← hG, ← hR] at h
    rw [hkk]
    exact h
  obtain ⟨N1, hN1⟩ : ∃ N, N = R.toList.take (i * 2) ++ encP x ++ R.toList.drop (i * 2 + (encP x).length) := ⟨_, rfl⟩
  obtain ⟨N2, hN2⟩ : ∃ N, N = N1.take (i * 2 + 2) ++ S ++ N1.drop (i * 2 + 2 + S.length) := ⟨_, rfl⟩
  obtain ⟨l1, l2, tk⟩ := grow_row (a := i * 2) (X := encP x) hRt hPl rfl (by rw [hRll, hSl]; omega) hN1 hN2
  rw [hRll] at l1 l2
  have hrow0 : (w.alloc (.cells R 90)).drew.heap[w.heap.size]? = some (.cells R 90 (0, 0)) := heap_alloc_new w _
  have hold0 : ∀ k, k < w.heap.size → (w.alloc (.cells R 90)).drew.heap[k]? = w.heap[k]? := fun k hk => by
    show (w.heap.push _)[k]? = _
    rw [Array.getElem?_push, if_neg (by omega)]
  have hcpA : ∀ ty, (Builtin.copy_ #[28, 28] ty #[.slice (some ⟨w.heap.size, i * 2, none⟩) (l.length + 1 - i) (G - i), .slice (some ⟨vb, 0, none⟩) 1 1]).run Tryz.prog (w.alloc (.cells R 90)).drew = .ok (goInt 1) ((w.alloc (.cells R 90)).drew.setRow w.heap.size N1.toArray) := fun ty => by
    have := run_copy_rowK (P := Tryz.prog) (w.alloc (.cells R 90)).drew 28 28 ty 90 w.heap.size (i * 2) (l.length + 1 - i) (G - i) ⟨vb, 0, none⟩ 1 1 R 90 (encP x) 2 1 Tryz.underlying28 hz3 (by simp only [Nat.min_def]; split <;> omega) hrow0 rfl
      (fun j u hu => by
        rw [Addr.add_lit, cell_of_row _ _ _ _ _ (0, 0) ((hold0 vb hvw).trans hv)]
        simpa [encP] using hu)
      (by rw [hRl]; simp [encP]; omega) (fun u hu => oneP x u hu)
    rw [hN1]
    exact this
  have hrow1 : ((w.alloc (.cells R 90)).drew.setRow w.heap.size N1.toArray).drew.heap[w.heap.size]? = some (.cells N1.toArray 90 (0, 0)) := setRow_heap _ _ _ _ _ _ hrow0
  have hcpB : ∀ ty, (Builtin.copy_ #[28, 28] ty #[.slice (some ⟨w.heap.size, (i + 1) * 2, none⟩) (l.length - i) (G - (i + 1)), .slice (some ⟨g, i * 2, none⟩) (l.length - i) (cap - i)]).run Tryz.prog ((w.alloc (.cells R 90)).drew.setRow w.heap.size N1.toArray).drew = .ok (goInt ((l.length - i : Nat) : Int)) (((w.alloc (.cells R 90)).drew.setRow w.heap.size N1.toArray).drew.setRow w.heap.size N2.toArray) := fun ty => by
    have := run_copy_rowK (P := Tryz.prog) ((w.alloc (.cells R 90)).drew.setRow w.heap.size N1.toArray).drew 28 28 ty 90 w.heap.size ((i + 1) * 2) (l.length - i) (G - (i + 1)) ⟨g, i * 2, none⟩ (l.length - i) (cap - i) N1.toArray 90 S 2 (l.length - i) Tryz.underlying28 hz3 (by simp) hrow1 hSl
      (fun j u hu => by
        rw [Addr.add_lit, cell_of_row _ _ _ _ _ (0, 0) (show ((w.alloc (.cells R 90)).drew.setRow w.heap.size N1.toArray).drew.heap[g]? = some (.cells cur 90 (0, 0)) from (setRow_other (w.alloc (.cells R 90)).drew w.heap.size g _ (by omega)).trans ((hold0 g hgw).trans hh)), ← Array.getElem?_toList]
        rw [hS, List.getElem?_drop, ← ht, List.getElem?_take] at hu
        split at hu
        · exact hu
        · cases hu)
      (by simp [l1]; omega) (fun u hu => by
        rw [hS, hC] at hu
        unfold flat at hu
        obtain ⟨y, _, hy⟩ := List.mem_flatMap.1 (List.mem_of_mem_drop hu)
        exact oneP y u hy)
    rw [hN2, show i * 2 + 2 = (i + 1) * 2 by omega]
    exact this
  have hfin : Own (((w.alloc (.cells R 90)).drew.setRow w.heap.size N1.toArray).drew.setRow w.heap.size N2.toArray) base 90 2 encP (.slice (some ⟨w.heap.size, 0, none⟩) (l.length + 1) G) (l.take i ++ x :: l.drop i) := by
    have hll : (l.take i ++ x :: l.drop i).length = l.length + 1 := by simp; omega
    refine ⟨flat_length (enc := encP) (size := 2) (fun _ => rfl) _, .inr ⟨w.heap.size, G, N2.toArray, by rw [hll], hbase, setRow_heap _ _ _ _ _ _ hrow1, by rw [hll]; exact hGn, hG63, by simp [l2], ?_⟩⟩
    have e : flat encP (l.take i ++ x :: l.drop i) = flat encP (l.take i) ++ (encP x ++ flat encP (l.drop i)) := by rw [flat_append]; rfl
    rw [e, hflat.1, hflat.2, hll, show (l.length + 1) * 2 = i * 2 + 2 + S.length by rw [hSl]; omega]
    show N2.take _ = _
    rw [tk, List.append_assoc, hS]
  have hbel : Below base w (((w.alloc (.cells R 90)).drew.setRow w.heap.size N1.toArray).drew.setRow w.heap.size N2.toArray) :=
    below_setRow (below_setRow (((Below.refl base w).alloc hbase _).drew) hbase N1.toArray).drew hbase N2.toArray
  have mixed : Tryz.prog.follows .mixedOrders = true := by kernel_rfl
  have HFIN := Lib.hid hfin
  have HBEL := Lib.hid hbel
  have HCA := Lib.hid hcpA
  have HCB := Lib.hid hcpB
  have HRZ := Lib.hid hrz
  unfold maxLen at hG63
  unfold InsRes
  clear hfin hbel hcpA hcpB hrz hcell tk l2 hN2 l1 hN1 hSl hS hflat hCl hC hz3 hold hrow0 hold0 hrow1 hR hRl hRll hRt hh hv ht hkk hik hPl hG
  have hz2' : ¬ ((i : Int) = (l.length : Int)) := by omega
  have hz4 : (cap : Int) < (l.length : Int) + 1 := by omega
  have hin : i ≤ l.length := by omega
  have hb2 : ¬ (G = i + 1) := by omega
  have hb4 : ¬ (G = i) := by omega
  have hb5 : ¬ (cap = i) := by omega
  have hw1 : IntKind.i64.wrap ((i : Int) + 1) = (i : Int) + 1 := by rw [IntKind.wrap_i64]; omega
  have hw2 : IntKind.i64.wrap ((l.length : Int) + 1 - (i : Int)) = (l.length : Int) + 1 - (i : Int) := by rw [IntKind.wrap_i64]; omega
  have htn : ((i : Int) + 1).toNat = i + 1 := by omega
  have hb1 : (0 : Int) ≤ (i : Int) + 1 := by omega
  have hca := HCA.out
  go_enter Tryz.func179, Tryz.ntmps179
  go_wp2_with (at_builtin; refine Lib.wpList_append_run _ rfl _ _ _ _ rfl _ _ rfl rfl _ _ (HRZ.out _) ?_)
  go_region_law_o (refine step_copy_runI rfl _ _ 28 28 rfl (.slice (some ⟨w.heap.size, (i + 1) * 2, none⟩) (l.length - i) (G - (i + 1))) (.slice (some ⟨g, i * 2, none⟩) (l.length - i) (cap - i)) (by simp [Act.eval, Act.put]) (by simp [Act.eval, Act.put]) (HCB.out _) ?_)
  go_wp2
  go_ret
  exact ⟨_, rfl, HFIN.out, HBEL.out⟩
end Go.Proofs.YtaghiefokmapmaaGreatDoor

/- Where a print stands: cmp.Compare, slices.BinarySearchFunc, findPiece, walked. -/
set_option linter.unusedVariables false
namespace Go.Proofs.YtaghiefokmapmaaGreatDoor
open Go.RowKit

def cmp3 (a b : Int) : Int := if a < b then -1 else if b < a then 1 else 0
set_option maxHeartbeats 2000000 in
set_option maxRecDepth 100000 in
theorem isNaN_any (a : Int) (w : World) : Calls Tryz.prog 224 #[.int .i64 a] w fun e w' => e = .returned (.bool false) ∧ w = w' := by
  go_enter Tryz.func224, Tryz.ntmps224
  go_wp2
  go_ret
  exact ⟨ret_bool (by simp), rfl⟩
set_option maxHeartbeats 2000000 in
set_option maxRecDepth 100000 in
theorem Compare_any (a b : Int) (w : World) : Calls Tryz.prog 204 #[.int .i64 a, .int .i64 b] w fun e w' => e = .returned (.int .i64 (cmp3 a b)) ∧ w = w' := by
  by_cases h1 : a < b
  · have E : Hid (cmp3 a b = -1) := by show _ = _; unfold cmp3; rw [if_pos h1]
    go_enter Tryz.func204, Tryz.ntmps204
    go_wp2_with (go_at_call 224; refine (isNaN_any _ _).mono ?_; rintro e w' ⟨rfl, rfl⟩)
    go_ret
    exact ⟨ret_int E.out.symm, rfl⟩
  · by_cases h2 : b < a
    · have E : Hid (cmp3 a b = 1) := by show _ = _; unfold cmp3; rw [if_neg h1, if_pos h2]
      go_enter Tryz.func204, Tryz.ntmps204
      go_wp2_with (go_at_call 224; refine (isNaN_any _ _).mono ?_; rintro e w' ⟨rfl, rfl⟩)
      go_ret
      exact ⟨ret_int E.out.symm, rfl⟩
    · have E : Hid (cmp3 a b = 0) := by show _ = _; unfold cmp3; rw [if_neg h1, if_neg h2]
      go_enter Tryz.func204, Tryz.ntmps204
      go_wp2_with (go_at_call 224; refine (isNaN_any _ _).mono ?_; rintro e w' ⟨rfl, rfl⟩)
      go_ret
      exact ⟨ret_int E.out.symm, rfl⟩
set_option maxHeartbeats 2000000 in
set_option maxRecDepth 100000 in
theorem fpCmp_any (a x : Int) (t : ByteArray) (w : World) : Calls Tryz.prog 203 #[.agg #[.int .i64 a, .string t], .int .i64 x] w fun e w' => e = .returned (.int .i64 (cmp3 a x)) ∧ Below w.heap.size w w' := by
  have HB := Lib.hid ((Below.refl w.heap.size w).alloc (Nat.le_refl _) (.cells #[.int .i64 a, .string t] 90))
  generalize hc : cmp3 a x = c at *
  have HC := Lib.hid (fun w => hc ▸ Compare_any a x w)
  clear hc
  go_enter Tryz.func203, Tryz.ntmps203
  go_wp2_with (go_at_call 204; refine (HC.out _).mono ?_; rintro e w' ⟨rfl, rfl⟩)
  go_ret
  exact ⟨rfl, HB.out⟩
def FpRes (l : List Pc) (x : Int) (w : World) (e : Ending) (w' : World) : Prop := e = .returned (.tuple #[.int .i64 (below l x : Nat), .bool (hereP l x)]) ∧ Below w.heap.size w w'
theorem ret_two {a b : Int} {c d : Bool} (h1 : a = b) (h2 : c = d) : Ending.returned (.tuple #[.int .i64 a, .bool c]) = .returned (.tuple #[.int .i64 b, .bool d]) := by rw [h1, h2]
set_option maxHeartbeats 4000000 in
set_option maxRecDepth 100000 in
theorem BSearch_any (A : Option Addr) (c : Nat) (l : List Pc) (x : Int) (w : World) (hs : Sl w encP 2 A l) (hl : l.length ≤ 16777216) (hso : Sorted l) :
    Calls Tryz.prog 202 #[.slice A l.length c, .int .i64 x, .func (.func 203) #[] #[]] w (FpRes l x w) := by
  have HS := Lib.hid hs
  have HSO := Lib.hid hso
  clear hs hso
  go_enter Tryz.func202, Tryz.ntmps202
  go_wp2_with fail
  go_loopw [9, 10] (fun vi vj wr => ∃ lo hi : Nat, vi = .int .i64 lo ∧ vj = .int .i64 hi ∧ lo ≤ hi ∧ hi ≤ l.length ∧ Hid (∀ t (h : t < l.length), t < lo → l[t].1 < x) ∧ Hid (∀ t (h : t < l.length), hi ≤ t → x ≤ l[t].1) ∧ Hid (Below w.heap.size w wr)) (fun vi vj _ => (intOf vj).toNat - (intOf vi).toNat)
  case atStart => exact ⟨0, l.length, rfl, rfl, Nat.zero_le _, Nat.le_refl _, (fun t h h2 => by omega), (fun t h h2 => by omega), Below.refl _ _⟩
  case round =>
    obtain ⟨lo, hi, rfl, rfl, hle, hhi, H1, H2, HB⟩ := hrel
    by_cases hlt : lo < hi
    · obtain ⟨m, hm⟩ : ∃ m, m = (lo + hi) / 2 := ⟨_, rfl⟩
      have hm1 : lo ≤ m := by omega
      have hm2 : m < hi := by omega
      have hml : m < l.length := by omega
      have hmi : ((lo : Int) + (hi : Int)) / 2 = (m : Int) := by omega
      obtain ⟨b, o, rfl, hc0, hc1⟩ := (HS.out.below HB.out).getP hml
      have HP := Lib.hid (List.pairwise_iff_getElem.1 HSO.out)
      have HQ1 := Lib.hid (fun (hx : l[m].1 < x) (t : Nat) (h : t < l.length) (ht : t < m + 1) => show l[t].1 < x by
        by_cases e : t = m
        · subst e; exact hx
        · have := HP.out t m h hml (by omega); omega)
      have HQ2 := Lib.hid (fun (hx : ¬ l[m].1 < x) (t : Nat) (h : t < l.length) (ht : m ≤ t) => show x ≤ l[t].1 by
        by_cases e : m = t
        · subst e; omega
        · have := HP.out m t hml h (by omega); omega)
      generalize l[m] = p at *
      obtain ⟨a, t⟩ := p
      simp only at *
      clear hm HP
      by_cases hax : a < x
      · have HN := Lib.hid (HQ1.out hax)
        have hcm : cmp3 a x = -1 := by unfold cmp3; rw [if_pos hax]
        have hC := fun w => fpCmp_any a x t w
        rw [hcm] at hC
        have HC := Lib.hid hC
        clear hC hcm HQ1 HQ2
        go_wp2_with ((first | go_at_call 203 | go_at_fn 203); refine (HC.out _).mono ?_; rintro e w2 ⟨rfl, hb2⟩; have HB2 := Lib.hid (Below_then HB.out hb2 (Nat.le_refl _)); clear hb2)
        go_roundw
        case rel => exact ⟨m + 1, hi, by go_num, rfl, by omega, hhi, HN.out, H2.out, HB2.out⟩
        case measure => simp [intOf]; omega
      · have HN := Lib.hid (HQ2.out hax)
        have hcm : ¬ cmp3 a x < 0 := by unfold cmp3; rw [if_neg hax]; split <;> omega
        have hC := fun w => fpCmp_any a x t w
        generalize cmp3 a x = cv at *
        have HC := Lib.hid hC
        clear hC HQ1 HQ2
        go_wp2_with ((first | go_at_call 203 | go_at_fn 203); refine (HC.out _).mono ?_; rintro e w2 ⟨rfl, hb2⟩; have HB2 := Lib.hid (Below_then HB.out hb2 (Nat.le_refl _)); clear hb2)
        go_roundw
        case rel => exact ⟨lo, m, rfl, rfl, by omega, by omega, H1.out, HN.out, HB2.out⟩
        case measure => simp [intOf]; omega
    · obtain rfl : hi = lo := by omega
      have HE := Lib.hid (below_of l x hi hhi H1.out (fun h => Int.not_lt.2 (H2.out hi h (Nat.le_refl _))))
      by_cases hn : hi < l.length
      · obtain ⟨b, o, rfl, hc0, hc1⟩ := (HS.out.below HB.out).getP hn
        have hh : hereP l x = decide (l[hi].1 = x) := by unfold hereP; rw [HE.out, getD_pc hn, decide_eq_true hn, Bool.true_and]
        have hnl := Int.not_lt.2 (H2.out hi hn (Nat.le_refl _))
        generalize l[hi] = p at *
        obtain ⟨a, t⟩ := p
        simp only at *
        by_cases hax : a = x
        · have HH := Lib.hid (show hereP l x = true by rw [hh]; exact decide_eq_true hax)
          have hcm : cmp3 a x = 0 := by unfold cmp3; rw [if_neg hnl, if_neg (by omega)]
          have hC := fun w => fpCmp_any a x t w
          rw [hcm] at hC
          have HC := Lib.hid hC
          clear hC hcm hh hax
          go_wp2_with ((first | go_at_call 203 | go_at_fn 203); refine (HC.out _).mono ?_; rintro e w2 ⟨rfl, hb2⟩; have HB2 := Lib.hid (Below_then HB.out hb2 (Nat.le_refl _)); clear hb2)
          go_ret2
          exact ⟨ret_two (by rw [HE.out]) (by rw [HH.out]), HB2.out⟩
        · have HH := Lib.hid (show hereP l x = false by rw [hh]; exact decide_eq_false hax)
          have hcm : (cmp3 a x == 0) = false := by unfold cmp3; rw [if_neg hnl, if_pos (by omega)]; rfl
          have hC := fun w => fpCmp_any a x t w
          generalize cmp3 a x = cv at *
          have HC := Lib.hid hC
          clear hC hh hax
          go_wp2_with ((first | go_at_call 203 | go_at_fn 203); refine (HC.out _).mono ?_; rintro e w2 ⟨rfl, hb2⟩; have HB2 := Lib.hid (Below_then HB.out hb2 (Nat.le_refl _)); clear hb2)
          go_ret2
          exact ⟨ret_two (by rw [HE.out]) (by rw [HH.out]), HB2.out⟩
      · have HH := Lib.hid (show hereP l x = false by unfold hereP; rw [HE.out, decide_eq_false hn]; rfl)
        go_wp2
        go_ret2
        exact ⟨ret_two (by rw [HE.out]) (by rw [HH.out]), HB.out⟩
set_option maxHeartbeats 4000000 in
set_option maxRecDepth 100000 in
theorem findPiece_any (A : Option Addr) (c : Nat) (l : List Pc) (x : Int) (w : World) (hs : Sl w encP 2 A l) (hl : l.length ≤ 16777216) (hso : Sorted l) :
    Calls Tryz.prog 178 #[.slice A l.length c, .int .i64 x] w (FpRes l x w) := by
  have HX := Lib.hid (fun w h => BSearch_any A c l x w h hl hso)
  have HS := Lib.hid hs
  clear hs hso
  unfold FpRes at *
  go_enter Tryz.func178, Tryz.ntmps178
  go_wp2_with fail
  refine (HX.out _ HS.out).mono ?_
  rintro e w1 ⟨rfl, hb⟩
  have HB := Lib.hid hb
  clear hb
  go_wp2
  go_ret2
  exact ⟨rfl, HB.out⟩
end Go.Proofs.YtaghiefokmapmaaGreatDoor
