/- Written by merge.py: Rh, Rp, Dm, Heap2, Tr, Tr2, Tp, Tr3, Pr, Dr2, Dr3, Sto, Ap2, Co, In, Bs, Pt, Inv, Ap3. -/
import Derived.RegionTactic
import Derived.Deep.RegionLaw
import Derived.Laws.AppendOwnNone
import Derived.Laws.CopyRow
import Derived.Laws.IdiomCopy
import Derived.Lib.AppendZerosOnto
import Derived.Lib.Overlaps
import Derived.Shelf.Spec.SlicesInsert
import Derived.Laws.CopyOwn
import Derived.Shelf.Abstract
import Derived.Test.YtaghiefokmapmaaDoorMgBundleLines2
/- ReadHex, walked. -/
set_option linter.unusedVariables false
namespace Go.Proofs.YtaghiefokmapmaaDoor
open Go.RowKit
theorem hexV_dig {c : UInt8} (h1 : 48 ≤ (c.toNat : Int)) (h2 : (c.toNat : Int) ≤ 57) : hexV c = some (c.toNat - 48) := by
  unfold hexV digitC; rw [inI_true ⟨h1, h2⟩]; rfl
theorem hexV_let {c : UInt8} (h1 : 97 ≤ (c.toNat : Int)) (h2 : (c.toNat : Int) ≤ 102) : hexV c = some (c.toNat - 87) := by
  unfold hexV digitC; rw [inI_false (by omega), inI_true ⟨h1, h2⟩]; rfl
theorem hexV_no {c : UInt8} (h1 : ¬ (48 ≤ (c.toNat : Int) ∧ (c.toNat : Int) ≤ 57)) (h2 : ¬ (97 ≤ (c.toNat : Int) ∧ (c.toNat : Int) ≤ 102)) : hexV c = none := by
  unfold hexV digitC; rw [inI_false h1, inI_false h2]; rfl
theorem take_bs (s : ByteArray) : (bs s).take s.size = bs s := List.take_of_length_le (by rw [size_bs]; omega)
theorem eq_tlx (a b : ByteArray) : (a.toList == b.toList) = (bs a == bs b) := by rw [ByteArray.toList_eq, ByteArray.toList_eq]
theorem ne_tl {s : ByteArray} (h : 1 ≤ s.size) : ¬ s.toList = [] ∧ s.toList.isEmpty = false := by
  have hl : s.toList.length = s.size := by rw [ByteArray.toList_eq]; exact size_bs s
  cases hs : s.toList with
  | nil => rw [hs] at hl; simp at hl; omega
  | cons _ _ => exact ⟨by simp, rfl⟩
theorem nil_tl {s : ByteArray} (h : s.size = 0) : s.toList = [] := by
  have hl : s.toList.length = s.size := by rw [ByteArray.toList_eq]; exact size_bs s
  exact List.eq_nil_of_length_eq_zero (by omega)
theorem eq_of_tl {a b : ByteArray} {x : Bool} (h : (a.toList == b.toList) = x) : (bs a == bs b) = x := by rw [ByteArray.toList_eq, ByteArray.toList_eq] at h; exact h
theorem rh_step {s : ByteArray} {k n d : Nat} (hk : k < s.size) (hh : hexN 0 ((bs s).take k) = some n) (hv : hexV s[k] = some d) : hexN 0 ((bs s).take (k + 1)) = some (16 * n + d) := by
  have hk' : k < (bs s).length := by rw [size_bs]; exact hk
  rw [hexN_snoc hk' hh]
  have e : (bs s)[k] = s[k] := rfl
  rw [e, hv]; rfl
theorem rh_bad {s : ByteArray} {k n : Nat} (hk : k < s.size) (hh : hexN 0 ((bs s).take k) = some n) (hv : hexV s[k] = none) : readH (bs s) = -1 :=
  readH_char (k := k) (by rw [size_bs]; exact hk) hh hv
set_option maxHeartbeats 2000000 in
set_option maxRecDepth 100000 in
theorem iReadHex_any (s : ByteArray) (w : World) (hs : s.size ≤ 16777216) (ht : TzL w) :
    Calls Tryd.prog 29 #[.string s] w fun e w' => e = .returned (.int .i64 (readH (bs s))) ∧ Below w.heap.size w w' := by
  have HT := Lib.hid ht
  clear ht
  by_cases h1 : 1 ≤ s.size
  case neg =>
    have E := Lib.hid (show readH (bs s) = -1 by unfold readH; rw [if_neg (by rw [size_bs]; omega)])
    have h1' : (s.size : Int) < 1 := by omega
    rw [E.out]
    go_enter Tryd.func29, Tryd.ntmps29
    go_wp2
    go_ret
    exact ⟨rfl, Below.refl _ _⟩
  have h1' : ¬ (s.size : Int) < 1 := by omega
  by_cases h6 : s.size ≤ 6
  case neg =>
    have E := Lib.hid (show readH (bs s) = -1 from readH_long (by rw [size_bs]; omega))
    have h6' : ¬ (s.size : Int) ≤ 6 := by omega
    rw [E.out]
    go_enter Tryd.func29, Tryd.ntmps29
    go_wp2
    go_ret
    exact ⟨rfl, Below.refl _ _⟩
  go_enter Tryd.func29, Tryd.ntmps29
  go_wp2_with fail
  go_loop [3, 4] (fun v i => ∃ (k n : Nat), k ≤ s.size ∧ i = .int .i64 k ∧ v = .int .i64 n ∧ n < 16 ^ k ∧ n ≤ 16777216 ∧ Hid (hexN 0 ((bs s).take k) = some n)) (fun _ i => s.size - (intOf i).toNat)
  case atStart => exact ⟨0, 0, Nat.zero_le _, rfl, rfl, by simp, by omega, rfl⟩
  case round =>
    obtain ⟨k, n, hk, rfl, rfl, hn, hn2, HH⟩ := hrel
    by_cases hlt : k < s.size
    · have hby := s[k].toNat_lt
      have HST := Lib.hid (fun d (h : hexV s[k] = some d) => rh_step hlt HH.out h)
      have HBD := Lib.hid (fun (h : hexV s[k] = none) => rh_bad hlt HH.out h)
      have HP := Lib.hid (fun d (hd : d < 16) => (show 16 * n + d < 16 ^ (k + 1) ∧ 16 * n + d ≤ 16777216 by
        have e1 : (16 : Nat) ^ (k + 1) = 16 ^ k * 16 := Nat.pow_succ ..
        have e2 : (16 : Nat) ^ (k + 1) ≤ 16 ^ 6 := Nat.pow_le_pow_right (by omega) (by omega)
        have e3 : (16 : Nat) ^ 6 = 16777216 := by decide
        omega))
      clear hn
      by_cases hd : 48 ≤ (s[k].toNat : Int) ∧ (s[k].toNat : Int) ≤ 57
      · obtain ⟨hd1, hd2⟩ := hd
        have hs2 : inI s[k].toNat 48 57 = true := inI_true ⟨hd1, hd2⟩
        have HN := Lib.hid (HST.out _ (hexV_dig hd1 hd2))
        have HNP := Lib.hid (HP.out (s[k].toNat - 48) (by omega))
        go_wp2_with (go_at_call 48; refine (iisDigit_any _ _).mono ?_; rintro e w' ⟨rfl, rfl⟩)
        go_round
        case rel => exact ⟨k + 1, 16 * n + (s[k].toNat - 48), by omega, by go_num, int_eq (by omega), HNP.out.1, HNP.out.2, HN.out⟩
        case measure => simp [intOf]; omega
      · have hs2 : inI s[k].toNat 48 57 = false := inI_false hd
        by_cases hl : 97 ≤ (s[k].toNat : Int)
        · by_cases hl2 : (s[k].toNat : Int) ≤ 102
          · have HN := Lib.hid (HST.out _ (hexV_let hl hl2))
            have HNP := Lib.hid (HP.out (s[k].toNat - 87) (by omega))
            clear hd
            go_wp2_with (go_at_call 48; refine (iisDigit_any _ _).mono ?_; rintro e w' ⟨rfl, rfl⟩)
            go_round
            case rel => exact ⟨k + 1, 16 * n + (s[k].toNat - 87), by omega, by go_num, int_eq (by omega), HNP.out.1, HNP.out.2, HN.out⟩
            case measure => simp [intOf]; omega
          · have HE := Lib.hid (HBD.out (hexV_no hd (fun h => hl2 h.2)))
            clear hd
            go_wp2_with (go_at_call 48; refine (iisDigit_any _ _).mono ?_; rintro e w' ⟨rfl, rfl⟩)
            go_ret
            exact ⟨ret_int HE.out.symm, Below.refl _ _⟩
        · have HE := Lib.hid (HBD.out (hexV_no hd (fun h => hl h.1)))
          clear hd
          go_wp2_with (go_at_call 48; refine (iisDigit_any _ _).mono ?_; rintro e w' ⟨rfl, rfl⟩)
          go_ret
          exact ⟨ret_int HE.out.symm, Below.refl _ _⟩
    · have hfull : hexN 0 (bs s) = some n := by have := HH.out; rwa [show k = s.size by omega, take_bs] at this
      have HO := Lib.hid (fun (h : hexT n = bs s) => readH_ok (by rw [size_bs]; omega) hfull h)
      have HNO := Lib.hid (fun (h : hexT n ≠ bs s) => readH_no hfull h)
      have HX := Lib.hid (iHexText_any (n : Int) w HT.out)
      clear hfull hn
      by_cases he : hexT (n : Int) = bs s
      · have HE := Lib.hid (HO.out he)
        have heq : ((mk (hexT (n : Int))).toList == s.toList) = true := by rw [eq_tlx]; exact beq_iff_eq.2 he
        clear he
        go_wp2_with fail
        refine HX.out.mono ?_
        rintro e w1 ⟨rfl, hb⟩
        have HB := Lib.hid hb
        clear hb
        go_wp2
        go_ret
        exact ⟨ret_int HE.out.symm, HB.out⟩
      · have HE := Lib.hid (HNO.out he)
        have heq : ((mk (hexT (n : Int))).toList == s.toList) = false := by rw [eq_tlx]; exact beq_eq_false_iff_ne.2 he
        clear he
        go_wp2_with fail
        refine HX.out.mono ?_
        rintro e w1 ⟨rfl, hb⟩
        have HB := Lib.hid hb
        clear hb
        go_wp2
        go_ret
        exact ⟨ret_int HE.out.symm, HB.out⟩
set_option maxHeartbeats 2000000 in
set_option maxRecDepth 100000 in
theorem sReadHex_any (s : ByteArray) (w : World) (hs : s.size ≤ 16777216) :
    Calls Tryd.prog 32 #[.string s] w fun e w' => e = .returned (.int .i64 (readH (bs s))) ∧ w = w' := by
  go_enter Tryd.func32, Tryd.ntmps32
  go_wp2_with fail
  go_loop [3, 4] (fun v i => ∃ (k n : Nat), k ≤ s.size ∧ k ≤ 7 ∧ i = .int .i64 k ∧ v = .int .i64 n ∧ n < 16 ^ k ∧ n ≤ 268435456 ∧ Hid (hexN 0 ((bs s).take k) = some n)) (fun _ i => s.size - (intOf i).toNat)
  case atStart => exact ⟨0, 0, Nat.zero_le _, by omega, rfl, rfl, by simp, by omega, rfl⟩
  case round =>
    obtain ⟨k, n, hk, hk7, rfl, rfl, hn, hn2, HH⟩ := hrel
    by_cases hlt : k < s.size ∧ k < 7
    · obtain ⟨hlt, hlt7⟩ := hlt
      have hlt' : decide ((k : Int) < (s.size : Int)) = true := decide_eq_true (by omega)
      have hby := s[k].toNat_lt
      have HST := Lib.hid (fun d (h : hexV s[k] = some d) => rh_step hlt HH.out h)
      have HBD := Lib.hid (fun (h : hexV s[k] = none) => rh_bad hlt HH.out h)
      have HP := Lib.hid (fun d (hd : d < 16) => (show 16 * n + d < 16 ^ (k + 1) ∧ 16 * n + d ≤ 268435456 by
        have e1 : (16 : Nat) ^ (k + 1) = 16 ^ k * 16 := Nat.pow_succ ..
        have e2 : (16 : Nat) ^ (k + 1) ≤ 16 ^ 7 := Nat.pow_le_pow_right (by omega) (by omega)
        have e3 : (16 : Nat) ^ 7 = 268435456 := by decide
        omega))
      clear hn
      by_cases hd : 48 ≤ (s[k].toNat : Int)
      · by_cases hd2 : (s[k].toNat : Int) ≤ 57
        · have HN := Lib.hid (HST.out _ (hexV_dig hd hd2))
          have HNP := Lib.hid (HP.out (s[k].toNat - 48) (by omega))
          go_wp2
          go_round
          case rel => exact ⟨k + 1, 16 * n + (s[k].toNat - 48), by omega, by omega, by go_num, int_eq (by omega), HNP.out.1, HNP.out.2, HN.out⟩
          case measure => simp [intOf]; omega
        · by_cases hl : 97 ≤ (s[k].toNat : Int)
          · by_cases hl2 : (s[k].toNat : Int) ≤ 102
            · have HN := Lib.hid (HST.out _ (hexV_let hl hl2))
              have HNP := Lib.hid (HP.out (s[k].toNat - 87) (by omega))
              go_wp2
              go_round
              case rel => exact ⟨k + 1, 16 * n + (s[k].toNat - 87), by omega, by omega, by go_num, int_eq (by omega), HNP.out.1, HNP.out.2, HN.out⟩
              case measure => simp [intOf]; omega
            · have HE := Lib.hid (HBD.out (hexV_no (fun h => hd2 h.2) (fun h => hl2 h.2)))
              go_wp2
              go_ret
              exact ⟨ret_int HE.out.symm, rfl⟩
          · have HE := Lib.hid (HBD.out (hexV_no (fun h => hd2 h.2) (fun h => hl h.1)))
            go_wp2
            go_ret
            exact ⟨ret_int HE.out.symm, rfl⟩
      · have HE := Lib.hid (HBD.out (hexV_no (fun h => hd h.1) (fun h => hd (by omega))))
        go_wp2
        go_ret
        exact ⟨ret_int HE.out.symm, rfl⟩
    · have HX := Lib.hid (sHexText_any (n : Int) w)
      have HH7 := Lib.hid (show readH (bs s) = (n : Int) ∧ 1 ≤ s.size ∧ hexT (n : Int) = bs s ∨ readH (bs s) = -1 ∧ (s.size = 0 ∨ hexT (n : Int) ≠ bs s) by
        by_cases h0 : s.size = 0
        · right
          refine ⟨?_, .inl h0⟩
          unfold readH; rw [if_neg (by rw [size_bs]; omega)]
        · by_cases h7 : s.size ≤ 6
          · have hfull : hexN 0 (bs s) = some n := by have := HH.out; rwa [show k = s.size by omega, take_bs] at this
            by_cases he : hexT (n : Int) = bs s
            · exact .inl ⟨readH_ok (by rw [size_bs]; omega) hfull he, by omega, he⟩
            · exact .inr ⟨readH_no hfull he, .inr he⟩
          · exact .inr ⟨readH_long (by rw [size_bs]; omega), .inr (hexT_ne_long (by rw [size_bs]; omega) _)⟩)
      have hout : (¬ k < s.size) ∨ (k < s.size ∧ ¬ (k : Int) < 7) := by
        by_cases h : k < s.size
        · exact .inr ⟨h, by omega⟩
        · exact .inl h
      clear hn hlt
      rcases HH7.out with ⟨hr, h1, he⟩ | ⟨hr, h1⟩
      · have HE := Lib.hid hr
        have heq : ((mk (hexT (n : Int))).toList == s.toList) = true := by rw [eq_tlx]; exact beq_iff_eq.2 he
        obtain ⟨hne, hne2⟩ := ne_tl h1
        clear he hr
        rcases hout with ho | ⟨ho, ho2⟩
        all_goals
          go_wp2_with (go_at_call 23; refine (HX.out).mono ?_; rintro e w' ⟨rfl, rfl⟩)
          go_ret
          exact ⟨ret_int HE.out.symm, rfl⟩
      · have HE := Lib.hid hr
        clear hr
        by_cases h0 : s.size = 0
        · have hnil := nil_tl h0
          have ho : ¬ k < s.size := by omega
          clear hout h1
          go_wp2_with (go_at_call 23; refine (HX.out).mono ?_; rintro e w' ⟨rfl, rfl⟩)
          go_ret
          exact ⟨ret_int HE.out.symm, rfl⟩
        · have he : hexT (n : Int) ≠ bs s := h1.resolve_left h0
          have heq : ((mk (hexT (n : Int))).toList == s.toList) = false := by rw [eq_tlx]; exact beq_eq_false_iff_ne.2 he
          obtain ⟨hne, hne2⟩ := ne_tl (s := s) (by omega)
          clear he h1
          rcases hout with ho | ⟨ho, ho2⟩
          all_goals
            go_wp2_with (go_at_call 23; refine (HX.out).mono ?_; rintro e w' ⟨rfl, rfl⟩)
            go_ret
            exact ⟨ret_int HE.out.symm, rfl⟩
end Go.Proofs.YtaghiefokmapmaaDoor

/- Repaired pieces, and free names, in plain Lean. -/
set_option linter.unusedVariables false
namespace Go.Proofs.YtaghiefokmapmaaDoor
--BEGIN
def goodCopy (p : Int) (copies : List Pc) : Option Pc := copies.find? fun c => c.1 == p && pieceR c
/-- A piece, repaired; and how many were (0, 1). -/
def repair1 (copies : List Pc) (p : Pc) : Pc × Int := if pieceR p then (p, 0) else match goodCopy p.1 copies with | some c => (c, 1) | none => (p, 0)
def repairs (copies : List Pc) (l : List Pc) : List Pc := l.map fun p => (repair1 copies p).1
def many (copies : List Pc) : List Pc → Int
  | [] => 0
  | p :: r => (repair1 copies p).2 + many copies r
def damaged (l : List Pc) : List Int := (l.filter fun p => !pieceR p).map (·.1)
theorem many_append (copies : List Pc) : ∀ a b : List Pc, many copies (a ++ b) = many copies a + many copies b
  | [], b => by simp [many]
  | p :: r, b => by rw [List.cons_append, many, many, many_append copies r b]; omega
theorem many_take {copies l : List Pc} {k : Nat} (h : k < l.length) : many copies (l.take (k + 1)) = many copies (l.take k) + (repair1 copies l[k]).2 := by
  rw [List.take_succ_eq_append_getElem h, many_append]; simp [many]
theorem repair1_bd (copies : List Pc) (p : Pc) : 0 ≤ (repair1 copies p).2 ∧ (repair1 copies p).2 ≤ 1 := by
  unfold repair1; split
  · simp
  · split <;> simp
theorem many_bd (copies : List Pc) : ∀ l : List Pc, 0 ≤ many copies l ∧ many copies l ≤ l.length
  | [] => by simp [many]
  | p :: r => by
    have := many_bd copies r
    have := repair1_bd copies p
    rw [many, List.length_cons]; omega
theorem goodCopy_some {p : Int} {copies : List Pc} {c : Pc} (h : goodCopy p copies = some c) : c.1 = p ∧ pieceR c = true := by
  have := List.find?_some h
  simp only [Bool.and_eq_true, beq_iff_eq] at this
  exact this
theorem repair1_print (copies : List Pc) (p : Pc) : (repair1 copies p).1.1 = p.1 := by
  unfold repair1; split
  · rfl
  · split
    · rename_i c h; exact (goodCopy_some h).1
    · rfl
theorem repair1_right {copies : List Pc} {p : Pc} (h : pieceR p = true) : repair1 copies p = (p, 0) := by unfold repair1; rw [if_pos h]
theorem damaged_many (copies : List Pc) : ∀ l : List Pc, ((damaged (repairs copies l)).length : Int) + many copies l = (damaged l).length
  | [] => rfl
  | p :: r => by
    have ih := damaged_many copies r
    have e : repairs copies (p :: r) = (repair1 copies p).1 :: repairs copies r := rfl
    rw [e, many]
    unfold damaged at ih ⊢
    cases hp : pieceR p
    · cases hg : goodCopy p.1 copies with
      | none =>
        have e1 : repair1 copies p = (p, 0) := by unfold repair1; rw [if_neg (by simp [hp]), hg]
        rw [e1]
        simp only [List.filter_cons, hp, Bool.not_false, if_true, List.map_cons, List.length_cons]
        omega
      | some c =>
        have e1 : repair1 copies p = (c, 1) := by unfold repair1; rw [if_neg (by simp [hp]), hg]
        rw [e1]
        have hc := (goodCopy_some hg).2
        simp only [List.filter_cons, hp, hc, Bool.not_false, Bool.not_true, if_true, List.map_cons, List.length_cons]
        simp
        simp at ih
        omega
    · rw [repair1_right hp]
      simp only [List.filter_cons, hp, Bool.not_true]
      simp at ih ⊢
      omega
theorem damaged_len (l : List Pc) : (damaged l).length ≤ l.length := by
  unfold damaged; rw [List.length_map]; exact List.length_filter_le _ _
theorem damaged_take {l : List Pc} {k : Nat} (h : k < l.length) : damaged (l.take (k + 1)) = damaged (l.take k) ++ if pieceR l[k] then [] else [l[k].1] := by
  unfold damaged
  rw [List.take_succ_eq_append_getElem h, List.filter_append, List.map_append]
  congr 1
  cases hp : pieceR l[k] <;> simp [hp]
--END
end Go.Proofs.YtaghiefokmapmaaDoor

/- Damaged pieces, walked. -/
set_option linter.unusedVariables false
namespace Go.Proofs.YtaghiefokmapmaaDoor
open Go.RowKit

def FitP (l : List Pc) : Prop := ∀ p ∈ l, p.2.size ≤ 16777216
theorem FitP.at {l : List Pc} (h : FitP l) {k : Nat} (hk : k < l.length) : l[k].2.size ≤ 16777216 := h _ (by simp)

end Go.Proofs.YtaghiefokmapmaaDoor

/- More words for memory: 'append' of one element inside a region that draws its order. -/
set_option linter.unusedVariables false
namespace Go.Proofs.YtaghiefokmapmaaDoor
open Go.RowKit
theorem step_app1 {P : Program} {α : Type} {enc : α → List Value} {ops : Array Oper} {o : Oper} {a : Act} {K : Act → World → Prop} {Q : Exit → Act → World → Prop} {E' : Prop} {w0 W : World} {B base size bytes g : Nat} {t E : TypeId} {i : TypeInfo} {z : Value} {v : Value} {l : List α}
    (ht : P.underlying t = some (.slice E)) (hi : P.info? E = some i) (hz : i.zero = some z) (hsize : i.size = size) (hby : i.bytes = bytes) (hzs : z.cells.size = size) (hsz : 0 < size) (hb200 : bytes ≤ 256)
    (hgd : o.guard = none) (s x : Operand) (ho : o.op = .call { callee := .builtin .append, args := #[s, x], argTypes := #[t, t] })
    (hs : a.eval s = v) (hx : a.eval x = .slice (some ⟨g, 0, none⟩) 1 1)
    (hown : Own W base E size enc v l) (hb : Below B w0 W) (hB : B ≤ base) (hbase : base ≤ W.heap.size) (hn : l.length ≤ 16777216) (y : α) (hcell : ∀ j u, (enc y)[j]? = some u → W.cell? ⟨g, j, none⟩ = some u) (hce : (enc y).length = size) (h1 : ∀ u ∈ enc y, u.oneCell' = true)
    (h : ∀ v' w', Own w' base E size enc v' (l ++ [y]) → Below B w0 w' → K (a.put o.dst v') w') :
    if Region.wanted o (yielded ops a.tmps) = true then Oper.wp P o a W K Q else E' := by
  have hw : Region.wanted o (yielded ops a.tmps) = true := by simp [Region.wanted, hgd]
  rw [if_pos hw]
  refine wp_append_own W s x t ho base E i z size bytes ht hi hz hsize hby hzs hsz v l.length (flat enc l) hs hown ⟨g, 0, none⟩ 1 1 (enc y) hx (by rw [hce, Nat.one_mul]) ?_ h1 ?_ ?_ hbase ?_
  · intro j u hu
    have hadd : (⟨g, 0, none⟩ : Addr).add j = ⟨g, j, none⟩ := by unfold Addr.add; split <;> simp_all
    rw [hadd]; exact hcell j u hu
  · unfold maxLen; omega
  · have := Nat.mul_le_mul_left (l.length + 1) hb200; omega
  · intro v' w' hown' hg _
    refine h v' w' ?_ (hb.grown hg (Nat.le_trans hB hbase) (fun k hk => Nat.le_trans hB (World.ownsRow.lt hown k hk).1))
    show w'.ownsRow base E size v' (l ++ [y]).length (flat enc (l ++ [y]))
    rw [flat_snoc, List.length_append]; exact hown'
section
variable {ops : Array Oper} {o : Oper} {a : Act} {K : Act → World → Prop} {Q : Exit → Act → World → Prop} {E' : Prop} {w0 W : World} {v : Value}
theorem step_int {g : Nat} {l : List Int} {y : Int} {s x : Operand} (hgd : o.guard = none) (ho : o.op = .call { callee := .builtin .append, args := #[s, x], argTypes := #[66, 66] })
    (hs : a.eval s = v) (hx : a.eval x = .slice (some ⟨g, 0, none⟩) 1 1)
    (hown : Own W w0.heap.size 3 1 encI v l) (hb : Below w0.heap.size w0 W) (hn : l.length ≤ 16777216) (hc : W.cell? ⟨g, 0, none⟩ = some (.int .i64 y))
    (h : ∀ v' w', Own w' w0.heap.size 3 1 encI v' (l ++ [y]) → Below w0.heap.size w0 w' → K (a.put o.dst v') w') :
    if Region.wanted o (yielded ops a.tmps) = true then Oper.wp Tryd.prog o a W K Q else E' := by
  obtain ⟨i0, hi0, hz0, hz1, hz2⟩ := info_parts int_info
  exact step_app1 Tryd.underlying66 hi0 hz0 hz1 hz2 rfl (by decide) (by decide) hgd s x ho hs hx hown hb (Nat.le_refl _) hb.size hn y (by
    intro j u hu
    have hj : j = 0 := by have := (List.getElem?_eq_some_iff.1 hu).1; simp [encI] at this; omega
    subst hj; simp [encI] at hu; rw [← hu]; exact hc) rfl (by intro u hu; simp [encI] at hu; subst hu; rfl) h
end
end Go.Proofs.YtaghiefokmapmaaDoor

/- Trees: levels, roots, proofs. -/
set_option linter.unusedVariables false
namespace Go.Proofs.YtaghiefokmapmaaDoor
open Go.RowKit
theorem new_cell1 (w : World) (u : Value) (E : TypeId) : (w.alloc (.cells #[u] E)).drew.cell? ⟨w.heap.size, 0, none⟩ = some u := by
  show (w.alloc (.cells #[u] E)).cell? ⟨w.heap.size, 0, none⟩ = some u
  rw [cell_of_row _ _ 0 _ E (0, 0) (heap_alloc_new w _)]; rfl
theorem lvlUp_two {l : List Int} {k : Nat} (h : k + 1 < l.length) : lvlUp (l.drop k) = prPair l[k] l[k + 1] :: lvlUp (l.drop (k + 2)) := by
  rw [List.drop_eq_getElem_cons (by omega), List.drop_eq_getElem_cons (by omega)]; rfl
theorem lvlUp_one {l : List Int} {k : Nat} (h : k < l.length) (h2 : ¬ k + 1 < l.length) : lvlUp (l.drop k) = [l[k]] := by
  rw [List.drop_eq_getElem_cons (by omega), List.drop_of_length_le (by omega)]; rfl
theorem lvlUp_none {l : List Int} {k : Nat} (h : ¬ k < l.length) : lvlUp (l.drop k) = [] := by
  rw [List.drop_of_length_le (by omega)]; rfl
theorem lvlUp_drop_end {l : List Int} {k : Nat} (h : k < l.length) (h2 : ¬ k + 1 < l.length) : lvlUp (l.drop (k + 2)) = [] := by
  rw [List.drop_of_length_le (by omega)]; rfl

end Go.Proofs.YtaghiefokmapmaaDoor

/- Trees: valid leaves, the root, and the same of texts. -/
set_option linter.unusedVariables false
namespace Go.Proofs.YtaghiefokmapmaaDoor
open Go.RowKit

theorem lvlUp_length : ∀ (n : Nat) (l : List Int), l.length ≤ n → (lvlUp l).length = (l.length + 1) / 2
  | 0, l, h => by have : l = [] := List.eq_nil_of_length_eq_zero (by omega); subst this; rfl
  | n + 1, l, h => by
    match l, h with
    | [], _ => rfl
    | [a], _ => simp [lvlUp]
    | a :: b :: r, h =>
      have := lvlUp_length n r (by simp at h; omega)
      simp only [lvlUp, List.length_cons, this]; omega
theorem lvlUp_len (l : List Int) : (lvlUp l).length = (l.length + 1) / 2 := lvlUp_length _ l (Nat.le_refl _)
theorem lvlUp_pv : ∀ (n : Nat) (l : List Int), l.length ≤ n → l.all pv = true → (lvlUp l).all pv = true
  | 0, l, h, _ => by have : l = [] := List.eq_nil_of_length_eq_zero (by omega); subst this; rfl
  | n + 1, l, h, ha => by
    match l, h, ha with
    | [], _, _ => rfl
    | [a], _, ha => exact ha
    | a :: b :: r, h, ha =>
      simp only [List.all_cons, Bool.and_eq_true] at ha
      simp only [lvlUp, List.all_cons, Bool.and_eq_true]
      exact ⟨prPair_pv ha.1 ha.2.1, lvlUp_pv n r (by simp at h; omega) ha.2.2⟩
theorem topF_step {f : Nat} {l : List Int} (h : 1 < l.length) : topF (f + 1) l = topF f (lvlUp l) := by
  rw [topF, if_pos h]
theorem topF_one {f : Nat} {l : List Int} (h : l.length = 1) : topF f l = l.headD 0 := by
  cases f with
  | zero => rfl
  | succ f => rw [topF, if_neg (by omega)]
theorem treeRoot_bad {l : List Int} (h : leavesV l = false) : treeRoot l = -1 := by unfold treeRoot; simp [h]
theorem treeRoot_ok {l : List Int} (h : leavesV l = true) : treeRoot l = topF 5 l := by unfold treeRoot; simp [h]
theorem leavesV_iff {l : List Int} : leavesV l = true ↔ 1 ≤ l.length ∧ l.length ≤ 16 ∧ l.all pv = true := by
  unfold leavesV; rw [Bool.and_eq_true, decide_eq_true_eq, and_assoc]
theorem leavesV_len {l : List Int} (h : ¬ (1 ≤ l.length ∧ l.length ≤ 16)) : leavesV l = false := by
  cases hl : leavesV l with
  | false => rfl
  | true => exact absurd ⟨(leavesV_iff.1 hl).1, (leavesV_iff.1 hl).2.1⟩ h
theorem leavesV_all {l : List Int} (h : l.all pv = false) : leavesV l = false := by
  cases hl : leavesV l with
  | false => rfl
  | true => rw [(leavesV_iff.1 hl).2.2] at h; cases h

def lenOf : Value → Nat | .slice _ n _ => n | _ => 0
def Level (l : List Int) (v : Value) (wr : World) : Prop := ∃ (A : Option Addr) (c f : Nat) (m : List Int), v = .slice A m.length c ∧ Sl wr encI 1 A m ∧ 1 ≤ m.length ∧ m.length ≤ 16 ∧ m.length ≤ 2 ^ f ∧ topF 5 l = topF f m

end Go.Proofs.YtaghiefokmapmaaDoor

/- Trees in plain Lean: proofs, roots of proofs; that they meet. -/
set_option linter.unusedVariables false
namespace Go.Proofs.YtaghiefokmapmaaDoor

/-- The root to which a proof leads. -/
def rootF : List Int → Int → Nat → Nat → Int
  | [], p, _, m => if 1 < m then -1 else p
  | x :: r, p, n, m =>
    if m = 1 then -1
    else if m ≤ n ^^^ 1 then (if x = -1 then rootF r p (n / 2) ((m + 1) / 2) else -1)
    else if pv x then rootF r (if n % 2 = 0 then prPair p x else prPair x p) (n / 2) ((m + 1) / 2)
    else -1
def inTree (p n m : Int) : Bool := pv p && decide (1 ≤ m ∧ m ≤ 16) && decide (0 ≤ n ∧ n < m)
def proofRoot (p n m : Int) (l : List Int) : Int := if inTree p n m then rootF l p n.toNat m.toNat else -1

theorem xor1 (n : Nat) : n ^^^ 1 = n + 1 - n % 2 * 2 := by
  have h2 : (n ^^^ 1) / 2 = n / 2 := by
    have := Nat.xor_div_two (a := n) (b := 1)
    simpa using this
  have h := Nat.xor_mod_two_pow (a := n) (b := 1) (n := 1)
  have h3 : n % 2 = 0 ∨ n % 2 = 1 := by omega
  have e0 : (0 ^^^ 1 % 2 : Nat) = 1 := rfl
  have e1 : (1 ^^^ 1 % 2 : Nat) = 0 := rfl
  simp only [Nat.pow_one] at h
  rcases h3 with h3 | h3
  · rw [h3, e0] at h; omega
  · rw [h3, e1] at h; omega
theorem xor1_even {n : Nat} (h : n % 2 = 0) : n ^^^ 1 = n + 1 := by rw [xor1]; omega
theorem xor1_odd {n : Nat} (h : n % 2 = 1) : n ^^^ 1 = n - 1 := by rw [xor1]; omega

theorem proofF_done {f : Nat} {m : List Int} {n : Nat} (h : m.length = 1) : proofF f m n = [] := by
  cases f with
  | zero => rfl
  | succ f => rw [proofF, if_neg (by omega)]
theorem proofF_step {f : Nat} {m : List Int} {n : Nat} (h : 1 < m.length) : proofF (f + 1) m n = (if n ^^^ 1 < m.length then m.getD (n ^^^ 1) 0 else -1) :: proofF f (lvlUp m) (n / 2) := by
  rw [proofF, if_pos h]
theorem proofF_len (f : Nat) : ∀ (m : List Int) (n : Nat), (proofF f m n).length ≤ f := by
  induction f with
  | zero => intro m n; simp [proofF]
  | succ f ih =>
    intro m n; rw [proofF]; split
    · simp; exact ih _ _
    · simp
theorem treeProof_bad {l : List Int} {n : Int} (h : leavesV l = false ∨ n < 0 ∨ (l.length : Int) ≤ n) : treeProof l n = [] := by
  unfold treeProof; rw [if_neg]; rintro ⟨h1, h2, h3⟩
  rcases h with h | h | h
  · rw [h] at h1; cases h1
  · omega
  · omega
theorem treeProof_ok {l : List Int} {n : Int} (h : leavesV l = true) (h0 : 0 ≤ n) (h1 : n < l.length) : treeProof l n = proofF 5 l n.toNat := by
  unfold treeProof; rw [if_pos ⟨h, h0, h1⟩]
theorem treeProof_len (l : List Int) (n : Int) : (treeProof l n).length ≤ 5 := by
  unfold treeProof; split
  · exact proofF_len _ _ _
  · simp

theorem lvlUp_at : ∀ (k : Nat) (l : List Int) (d : Int), (lvlUp l).getD k d = if 2 * k + 1 < l.length then prPair (l.getD (2 * k) d) (l.getD (2 * k + 1) d) else l.getD (2 * k) d
  | 0, [], d => rfl
  | 0, [a], d => rfl
  | 0, a :: b :: r, d => by simp [lvlUp]
  | k + 1, [], d => by simp [lvlUp]
  | k + 1, [a], d => by simp [lvlUp]
  | k + 1, a :: b :: r, d => by
    have ih := lvlUp_at k r d
    show (prPair a b :: lvlUp r).getD (k + 1) d = _
    have e : 2 * (k + 1) = 2 * k + 1 + 1 := by omega
    rw [List.getD_cons_succ, ih, e]
    simp only [List.length_cons, List.getD_cons_succ]
    have e2 : 2 * k + 1 + 1 + 1 < r.length + 1 + 1 ↔ 2 * k + 1 < r.length := by omega
    simp only [e2]
theorem getD_pv {l : List Int} (h : l.all pv = true) {k : Nat} (hk : k < l.length) (d : Int) : pv (l.getD k d) = true := by
  rw [List.getD_eq_getElem?_getD, List.getElem?_eq_getElem hk]
  exact List.all_eq_true.1 h _ (by simp)

/-- A proof leads to the root. -/
theorem root_of_proof (f : Nat) : ∀ (l : List Int) (n : Nat), l.all pv = true → n < l.length → l.length ≤ 2 ^ f → rootF (proofF f l n) (l.getD n 0) n l.length = topF f l := by
  induction f with
  | zero =>
    intro l n hp hn hl
    have h1 : l.length = 1 := by simp at hl; omega
    obtain ⟨x, rfl⟩ : ∃ x, l = [x] := by
      match l, h1 with
      | [x], _ => exact ⟨x, rfl⟩
    have : n = 0 := by simp at hn; omega
    subst this
    simp [proofF, rootF, topF]
  | succ f ih =>
    intro l n hp hn hl
    by_cases h1 : 1 < l.length
    · rw [proofF_step h1, topF_step h1]
      have hlen := lvlUp_len l
      have hup := lvlUp_pv _ l (Nat.le_refl _) hp
      have hih := ih (lvlUp l) (n / 2) hup (by omega) (by rw [hlen]; simp only [Nat.pow_succ] at hl; omega)
      have hat := lvlUp_at (n / 2) l 0
      rw [rootF, if_neg (by omega)]
      by_cases hb : n ^^^ 1 < l.length
      · rw [if_neg (by omega), if_pos hb, if_pos (getD_pv hp hb 0), ← hih]
        rw [hlen]
        congr 1
        rw [hat]
        by_cases he : n % 2 = 0
        · rw [if_pos he, xor1_even he] at *
          have e : 2 * (n / 2) = n := by omega
          rw [e, if_pos hb]
        · have ho : n % 2 = 1 := by omega
          rw [if_neg he, xor1_odd ho] at *
          have e : 2 * (n / 2) = n - 1 := by omega
          have e2 : n - 1 + 1 = n := by omega
          rw [e, e2, if_pos hn]
      · rw [if_pos (by omega), if_neg hb, if_pos rfl, ← hih, hlen]
        congr 1
        rw [hat]
        have he : n % 2 = 0 := by
          by_cases he : n % 2 = 0
          · exact he
          · exfalso; rw [xor1_odd (by omega)] at hb; omega
        rw [xor1_even he] at hb
        have e : 2 * (n / 2) = n := by omega
        rw [e, if_neg hb]
    · have h2 : l.length = 1 := by omega
      rw [proofF_done h2, topF_one h2, rootF, if_neg (by omega)]
      have : n = 0 := by omega
      subst this
      cases l <;> rfl
theorem topF_pv (f : Nat) : ∀ l : List Int, l.all pv = true → 1 ≤ l.length → pv (topF f l) = true := by
  induction f with
  | zero => intro l hp hl; rw [topF]; cases l with
    | nil => simp at hl
    | cons a r => simp only [List.all_cons, Bool.and_eq_true] at hp; exact hp.1
  | succ f ih =>
    intro l hp hl
    rw [topF]
    split
    · exact ih _ (lvlUp_pv _ l (Nat.le_refl _) hp) (by rw [lvlUp_len]; omega)
    · cases l with
      | nil => simp at hl
      | cons a r => simp only [List.all_cons, Bool.and_eq_true] at hp; exact hp.1
theorem treeRoot_pv {l : List Int} (h : leavesV l = true) : pv (treeRoot l) = true := by
  obtain ⟨h1, h2, h3⟩ := leavesV_iff.1 h
  rw [treeRoot_ok h]; exact topF_pv 5 l h3 h1
theorem treeRoot_bd (l : List Int) : -1 ≤ treeRoot l ∧ treeRoot l ≤ 16777212 := by
  cases h : leavesV l
  · rw [treeRoot_bad h]; omega
  · have := pv_iff.1 (treeRoot_pv h); omega
theorem treeRoot_neg {l : List Int} (h : treeRoot l < 0) : leavesV l = false := by
  cases hl : leavesV l
  · rfl
  · have := pv_iff.1 (treeRoot_pv hl); omega
theorem treeRoot_nonneg {l : List Int} (h : ¬ treeRoot l < 0) : leavesV l = true := by
  cases hl : leavesV l
  · rw [treeRoot_bad hl] at h; omega
  · rfl
/-- The proof of a leaf leads to the root. -/
theorem proofRoot_tree {l : List Int} {n : Int} (h : leavesV l = true) (h0 : 0 ≤ n) (h1 : n < l.length) : proofRoot (l.getD n.toNat 0) n l.length (treeProof l n) = treeRoot l := by
  obtain ⟨hl1, hl2, hp⟩ := leavesV_iff.1 h
  have hin : inTree (l.getD n.toNat 0) n l.length = true := by
    unfold inTree
    rw [getD_pv hp (by omega), Bool.true_and, Bool.and_eq_true]
    exact ⟨decide_eq_true (by omega), decide_eq_true (by omega)⟩
  unfold proofRoot
  rw [if_pos hin, treeProof_ok h h0 h1, treeRoot_ok h]
  have := root_of_proof 5 l n.toNat hp (by omega) (by omega)
  simpa using this
theorem rootF_bd : ∀ (l : List Int) (p : Int) (n m : Nat), -1 ≤ p ∧ p ≤ 16777212 → -1 ≤ rootF l p n m ∧ rootF l p n m ≤ 16777212
  | [], p, n, m, h => by rw [rootF]; split <;> omega
  | x :: r, p, n, m, h => by
    rw [rootF]
    split
    · omega
    · split
      · split
        · exact rootF_bd r p _ _ h
        · omega
      · split
        · refine rootF_bd r _ _ _ ?_
          split <;> exact prPair_bd _ _
        · omega
theorem proofRoot_bd (p n m : Int) (l : List Int) : -1 ≤ proofRoot p n m l ∧ proofRoot p n m l ≤ 16777212 := by
  unfold proofRoot; split
  · rename_i h
    have hp : pv p = true := by unfold inTree at h; simp only [Bool.and_eq_true] at h; exact h.1.1
    have := pv_iff.1 hp
    exact rootF_bd _ _ _ _ (by omega)
  · omega
end Go.Proofs.YtaghiefokmapmaaDoor

/- Trees: proofs, walked. -/
set_option linter.unusedVariables false
namespace Go.Proofs.YtaghiefokmapmaaDoor
open Go.RowKit

theorem i64_xor_nat (a b : Nat) (ha : a < 9223372036854775808) (hb : b < 9223372036854775808) : bits .xor .i64 (a : Int) (b : Int) = ((a ^^^ b : Nat) : Int) := by
  show IntKind.i64.wrap ((BitVec.ofInt 64 (a : Int) ^^^ BitVec.ofInt 64 (b : Int)).toNat : Int) = _
  rw [BitVec.toNat_xor, ofInt_i64 a ha, ofInt_i64 b hb, IntKind.wrap_i64]
  have := Nat.xor_lt_two_pow (n := 63) (x := a) (y := b) (by simpa using ha) (by simpa using hb)
  omega
theorem xor1_int (N : Nat) (h : N ≤ 1000) : bits .xor .i64 (N : Int) 1 = ((N ^^^ 1 : Nat) : Int) := i64_xor_nat N 1 (by omega) (by omega)

/-- One level of a tree on the way of a proof: what was written so far, what is to come. -/
def ProofAt (l : List Int) (n : Nat) (acc m : List Int) (N : Nat) : Prop := ∃ f, m.length ≤ 2 ^ f ∧ proofF 5 l n = acc ++ proofF f m N
theorem ProofAt.start {l : List Int} {n : Nat} (h : l.length ≤ 16) : ProofAt l n [] l n := ⟨5, by omega, rfl⟩
theorem ProofAt.len {l : List Int} {n : Nat} {acc m : List Int} {N : Nat} (h : ProofAt l n acc m N) : acc.length ≤ 5 := by
  obtain ⟨f, _, e⟩ := h
  have := proofF_len 5 l n
  rw [e, List.length_append] at this; omega
theorem ProofAt.step {l : List Int} {n : Nat} {acc m : List Int} {N : Nat} (h : ProofAt l n acc m N) (h1 : 1 < m.length) (x : Int) (hx : x = if N ^^^ 1 < m.length then m.getD (N ^^^ 1) 0 else -1) : ProofAt l n (acc ++ [x]) (lvlUp m) (N / 2) := by
  obtain ⟨f, hf, e⟩ := h
  cases f with
  | zero => simp at hf; omega
  | succ f =>
    refine ⟨f, ?_, ?_⟩
    · rw [lvlUp_len]; simp only [Nat.pow_succ] at hf; omega
    · rw [e, proofF_step h1, ← hx]; simp
theorem ProofAt.done {l : List Int} {n : Nat} {acc m : List Int} {N : Nat} (h : ProofAt l n acc m N) (h1 : m.length = 1) : proofF 5 l n = acc := by
  obtain ⟨f, hf, e⟩ := h
  rw [e, proofF_done h1, List.append_nil]
theorem getD_of_lt {m : List Int} {k : Nat} (h : k < m.length) : m.getD k 0 = m[k] := by rw [List.getD_eq_getElem?_getD, List.getElem?_eq_getElem h]; rfl
/-- A level that is read: no part of what is written. -/
def LvlIn (w0 wr : World) (v : Value) (m : List Int) (A : Option Addr) : Prop := Sl wr encI 1 A m ∧ Apart A v

end Go.Proofs.YtaghiefokmapmaaDoor

/- Roots of proofs, walked. -/
set_option linter.unusedVariables false
namespace Go.Proofs.YtaghiefokmapmaaDoor
open Go.RowKit

theorem rootF_one {x p : Int} {r : List Int} {N : Nat} : rootF (x :: r) p N 1 = -1 := by rw [rootF, if_pos rfl]
theorem rootF_alone {p : Int} {r : List Int} {N M : Nat} (h1 : M ≠ 1) (h2 : M ≤ N ^^^ 1) : rootF (-1 :: r) p N M = rootF r p (N / 2) ((M + 1) / 2) := by rw [rootF, if_neg h1, if_pos h2, if_pos rfl]
theorem rootF_alone_bad {x p : Int} {r : List Int} {N M : Nat} (h1 : M ≠ 1) (h2 : M ≤ N ^^^ 1) (hx : x ≠ -1) : rootF (x :: r) p N M = -1 := by rw [rootF, if_neg h1, if_pos h2, if_neg hx]
theorem rootF_bad {x p : Int} {r : List Int} {N M : Nat} (h1 : M ≠ 1) (h2 : ¬ M ≤ N ^^^ 1) (hx : pv x = false) : rootF (x :: r) p N M = -1 := by rw [rootF, if_neg h1, if_neg h2, if_neg (by rw [hx]; simp)]
theorem rootF_left {x p : Int} {r : List Int} {N M : Nat} (h1 : M ≠ 1) (h2 : ¬ M ≤ N ^^^ 1) (hx : pv x = true) (h : N % 2 = 0) : rootF (x :: r) p N M = rootF r (prPair p x) (N / 2) ((M + 1) / 2) := by rw [rootF, if_neg h1, if_neg h2, if_pos hx, if_pos h]
theorem rootF_right {x p : Int} {r : List Int} {N M : Nat} (h1 : M ≠ 1) (h2 : ¬ M ≤ N ^^^ 1) (hx : pv x = true) (h : ¬ N % 2 = 0) : rootF (x :: r) p N M = rootF r (prPair x p) (N / 2) ((M + 1) / 2) := by rw [rootF, if_neg h1, if_neg h2, if_pos hx, if_neg h]
theorem rootF_end {p : Int} {N M : Nat} : rootF [] p N M = if 1 < M then -1 else p := rfl
theorem inTree_iff {p n m : Int} : inTree p n m = true ↔ pv p = true ∧ (1 ≤ m ∧ m ≤ 16) ∧ (0 ≤ n ∧ n < m) := by
  unfold inTree; simp only [Bool.and_eq_true, decide_eq_true_eq, and_assoc]
theorem proofRoot_out {p n m : Int} {l : List Int} (h : inTree p n m = false) : proofRoot p n m l = -1 := by unfold proofRoot; rw [h]; rfl
theorem inTree_bad {p n m : Int} (h : ¬ (pv p = true ∧ (1 ≤ m ∧ m ≤ 16) ∧ (0 ≤ n ∧ n < m))) : inTree p n m = false := by
  cases hh : inTree p n m
  · rfl
  · exact absurd (inTree_iff.1 hh) h
/-- How a proof is read: what is left to be reckoned. -/
def RootAt (l : List Int) (R : Int) (k : Nat) (p : Int) (N M : Nat) : Prop := R = rootF (l.drop k) p N M
theorem RootAt.cons {l : List Int} {R p : Int} {k N M : Nat} (h : RootAt l R k p N M) (hk : k < l.length) : R = rootF (l[k] :: l.drop (k + 1)) p N M := by
  unfold RootAt at h; rw [h, List.drop_eq_getElem_cons hk]
theorem RootAt.nil {l : List Int} {R p : Int} {k N M : Nat} (h : RootAt l R k p N M) (hk : ¬ k < l.length) : R = if 1 < M then -1 else p := by
  unfold RootAt at h; rw [h, List.drop_of_length_le (by omega)]; rfl

theorem inI_pv {x : Int} (h : inI x (-1) 16777212 = true) (hx : x ≠ -1) : pv x = true := by
  simp only [inI, decide_eq_true_eq] at h; exact pv_iff.2 (by omega)
theorem inI_bad {x : Int} (h : inI x (-1) 16777212 = false) : pv x = false ∧ x ≠ -1 := by
  simp only [inI, decide_eq_false_iff_not] at h
  exact ⟨pv_false.2 (by omega), by omega⟩
theorem alone_iff {N M : Nat} (hN : N < M) : M ≤ N ^^^ 1 ↔ N % 2 = 0 ∧ N + 1 = M := by
  by_cases h : N % 2 = 0
  · rw [xor1_even h]; omega
  · rw [xor1_odd (by omega)]; omega
end Go.Proofs.YtaghiefokmapmaaDoor

/- Drawn inputs: prints, filters. -/
set_option linter.unusedVariables false
namespace Go.Proofs.YtaghiefokmapmaaDoor
open Go.RowKit

def IntIn (lo hi : Int) (v : Value) : Prop := ∃ n : Int, v = .int .i64 n ∧ lo ≤ n ∧ n ≤ hi
theorem three_cells {a b c : Int} (ha : 0 ≤ a ∧ a ≤ 16777212) (hb : 0 ≤ b ∧ b ≤ 16777212) (hc : 0 ≤ c ∧ c ≤ 16777212) (m : Nat) (hm : m < 3) :
    ∃ u : Int, (#[Value.int .i64 a, .int .i64 b, .int .i64 c] : Array Value)[m]? = some (.int .i64 u) ∧ 0 ≤ u ∧ u ≤ 16777212 := by
  match m, hm with
  | 0, _ => exact ⟨a, rfl, ha⟩
  | 1, _ => exact ⟨b, rfl, hb⟩
  | 2, _ => exact ⟨c, rfl, hc⟩

/-- What 'odd(n)' may answer. -/
def OddQ (Q : Bool → Prop) (n : Int) (g p : Nat) : Prop :=
  ∀ W, Rdr W g p → Calls Tryd.prog 44 #[.pointer (some ⟨g, 0, none⟩), .int .i64 n] W fun e w' => ∃ (x : Bool) (p1 : Nat), e = .returned (.bool x) ∧ Q x ∧ Only g W w' ∧ Rdr w' g p1 ∧ p1 ≤ p + 1
theorem oddq_any (n : Int) (g p : Nat) (hp : p ≤ 1000000000) (hn : n ≤ 1000000000) : OddQ (fun _ => True) n g p := fun W hr =>
  (odd_any n g p W hr hp hn).mono fun e w' ⟨x, p', h1, h2, h3, h4⟩ => ⟨x, p', h1, trivial, h2, h3, h4⟩
theorem oddq_zero (g p : Nat) (hp : p ≤ 1000000000) : OddQ (fun x => x = false) 0 g p := fun W hr =>
  (odd0_any g p W hr hp).mono fun e w' ⟨h1, h2⟩ => ⟨false, p, h1, rfl, by rw [← h2]; exact Only.refl _ _, by rw [← h2]; exact hr, by omega⟩

theorem IntIn.mono {a b c d : Int} {v : Value} (h : IntIn a b v) (h1 : c ≤ a) (h2 : b ≤ d) : IntIn c d v := by
  obtain ⟨n, e, x, y⟩ := h; exact ⟨n, e, by omega, by omega⟩
theorem Drew.imp {P P' : Value → Prop} {C g p : Nat} {w w' : World} {e : Ending} (h : Drew P C w g p e w') (hP : ∀ v, P v → P' v) : Drew P' C w g p e w' := by
  obtain ⟨v, p', h1, h2, h3⟩ := h; exact ⟨v, p', h1, hP v h2, h3⟩
/-- A drawn slice in new memory: its elements, at most M of them, meet P. -/
def DrewSl {α : Type} (E : TypeId) (size : Nat) (enc : α → List Value) (P : List α → Prop) (C : Nat) (w : World) (g p : Nat) (e : Ending) (w' : World) : Prop :=
  ∃ (v : Value) (l : List α) (p' : Nat), e = .returned v ∧ Own w' w.heap.size E size enc v l ∧ P l ∧ Only g w w' ∧ Rdr w' g p' ∧ p' ≤ p + C

/-- 'append' of one element onto a row, where the reader's block may have turned as well. -/
theorem app_int_only {ops : Array Oper} {rest : List Oper} {o : Oper} {a : Act} {Q : Exit → Act → World → Prop} {w0 wr : World} {v : Value} {g : Nat} {l : List Int} {y : Int} {s x : Operand} (hgd : o.guard = none) (ho : o.op = .call { callee := .builtin .append, args := #[s, x], argTypes := #[66, 66] })
    (hs : a.eval s = v) (hx : a.eval x = .slice (some ⟨wr.heap.size, 0, none⟩) 1 1)
    (hown : Own wr w0.heap.size 3 1 encI v l) (hb : Only g w0 wr) (hn : l.length ≤ 16777216)
    (h : ∀ v' w', Own w' w0.heap.size 3 1 encI v' (l ++ [y]) → Below w0.heap.size wr w' → wpList Tryd.prog ops Q rest (a.put o.dst v') w') :
    wpList Tryd.prog ops Q (o :: rest) a (wr.alloc (.cells #[.int .i64 y] 3)) := by
  obtain ⟨i0, hi0, hz0, hz1, hz2⟩ := info_parts int_info
  exact wpList_app1 Tryd.underlying66 hi0 hz0 hz1 hz2 rfl (by decide) (by decide) hgd s x ho hs hx hown (Below.refl w0.heap.size wr) (Nat.le_refl _) hb.size hn y _ rfl rfl (by intro u hu; simp [encI] at hu; subst hu; rfl) h
theorem Only.and_below {g : Nat} {w0 wr w' : World} (h : Only g w0 wr) (hb : Below w0.heap.size wr w') : Only g w0 w' :=
  ⟨hb.os.trans h.os, hb.tape.trans h.tape, hb.output.trans h.output, Nat.le_trans h.size hb.size, fun k hk hne => (hb.block k hk).trans (h.block k hk hne)⟩

/-! ### drawn prints -/
end Go.Proofs.YtaghiefokmapmaaDoor

/- Drawn inputs: texts, pieces. -/
set_option linter.unusedVariables false
namespace Go.Proofs.YtaghiefokmapmaaDoor
open Go.RowKit

theorem Only.frozen {g : Nat} {w w1 : World} (h : Only g w w1) {b o : Nat} (hb : b ≠ g) (hlt : b < w.heap.size) : w1.frozen? ⟨b, o, none⟩ = w.frozen? ⟨b, o, none⟩ :=
  World.frozen?_of_block (w := w) (h.block b hlt (by intro e; injection e; contradiction))
theorem Only.setNew {g : Nat} {w w1 : World} (h : Only g w w1) {p : Addr} (hp : w.heap.size ≤ p.block) (u : Value) : Only g w (w1.setCell p u) :=
  ⟨h.os, h.tape, h.output, by simpa [World.setCell] using h.size, fun k hk hne => (Below.heap_setCell _ _ _ _ (by omega)).trans (h.block k hk hne)⟩
theorem Rdr.setNew {w : World} {g p : Nat} (h : Rdr w g p) {q : Addr} (hq : g < q.block) (u : Value) : Rdr (w.setCell q u) g p :=
  h.under hq ((Below.refl _ _).setCell (Nat.le_refl _) u)
/-- A block of the call's own: what it holds, and that it is not frozen. -/
theorem new_cell {w : World} {cs : Array Value} {E : TypeId} {k : Nat} {u : Value} (hu : cs[k]? = some u) : (w.alloc (.cells cs E)).cell? ⟨w.heap.size, k, none⟩ = some u := by
  rw [cell_of_row _ _ k _ E (0, 0) (heap_alloc_new w _)]; exact hu
theorem new_free {w : World} {cs : Array Value} {E : TypeId} (k : Nat) : (w.alloc (.cells cs E)).frozen? ⟨w.heap.size, k, none⟩ = false := by
  have h := heap_alloc_new w (.cells cs E)
  unfold World.frozen?
  simp only [h]
  simp

/-- A drawn text: valid, and with another print than the one text that a law puts in its place. -/
def txB : Value → Bool | .string s => textV (bs s) && decide (s.size ≤ 60) && !(prOf (bs s) == prOf (bs ⟨#[113, 117, 105, 116, 101, 32, 111, 116, 104, 101, 114]⟩)) | _ => false
def Txt (v : Value) : Prop := ∃ s : ByteArray, v = .string s ∧ s.size ≤ 60 ∧ textV (bs s) = true ∧ prOf (bs s) ≠ prOf (bs ⟨#[113, 117, 105, 116, 101, 32, 111, 116, 104, 101, 114]⟩)
theorem txB_iff {v : Value} (h : txB v = true) : Txt v := by
  unfold txB at h; split at h
  · simp only [Bool.and_eq_true, decide_eq_true_eq, Bool.not_eq_true', beq_eq_false_iff_ne] at h
    exact ⟨_, rfl, h.1.2, h.1.1, h.2⟩
  · cases h
theorem flat3 {a0 a1 a2 : Int} {t0 t1 t2 : ByteArray} (x : Nat) (hx : x < 3) : ∃ (a : Int) (t : ByteArray), (#[Value.int .i64 a0, .string t0, .int .i64 a1, .string t1, .int .i64 a2, .string t2] : Array Value)[x * 2]? = some (.int .i64 a) ∧
    (#[Value.int .i64 a0, .string t0, .int .i64 a1, .string t1, .int .i64 a2, .string t2] : Array Value)[x * 2 + 1]? = some (.string t) ∧ (a = a0 ∨ a = a1 ∨ a = a2) ∧ (t = t0 ∨ t = t1 ∨ t = t2) := by
  match x, hx with
  | 0, _ => exact ⟨a0, t0, rfl, rfl, .inl rfl, .inl rfl⟩
  | 1, _ => exact ⟨a1, t1, rfl, rfl, .inr (.inl rfl), .inr (.inl rfl)⟩
  | 2, _ => exact ⟨a2, t2, rfl, rfl, .inr (.inr rfl), .inr (.inr rfl)⟩
def PcV (v : Value) : Prop := ∃ (a : Int) (t : ByteArray), v = .agg #[.int .i64 a, .string t] ∧ -1 ≤ a ∧ a ≤ 16777212 ∧ t.size ≤ 60
def DrawnPc (w : World) (e : Ending) (w' : World) : Prop := ∃ (a : Int) (t : ByteArray), e = .returned (.agg #[.int .i64 a, .string t]) ∧ -1 ≤ a ∧ a ≤ 16777212 ∧ t.size ≤ 60 ∧ Below w.heap.size w w'
end Go.Proofs.YtaghiefokmapmaaDoor

/- StoreValid, BundlePrint, walked. -/
set_option linter.unusedVariables false
namespace Go.Proofs.YtaghiefokmapmaaDoor
open Go.RowKit

theorem storeAt_eq {l : List Pc} {k : Nat} (hk : k < l.length) : storeAt l k = ((textV (bs l[k].2) && (prOf (bs l[k].2) == l[k].1)) && (k == 0 || decide ((l.getD (k - 1) pc0).1 < l[k].1))) := by
  unfold storeAt pieceOk; rw [getD_pc hk]
theorem storeAt_txt {l : List Pc} {k : Nat} (hk : k < l.length) (h : textV (bs l[k].2) = false) : storeAt l k = false := by rw [storeAt_eq hk, h]; rfl
theorem storeAt_pr {l : List Pc} {k : Nat} (hk : k < l.length) (h : ¬ prOf (bs l[k].2) = l[k].1) : storeAt l k = false := by
  rw [storeAt_eq hk, (show (prOf (bs l[k].2) == l[k].1) = false by simpa using h), Bool.and_false]; rfl
theorem storeAt_asc {l : List Pc} {k : Nat} (hk : k < l.length) (h0 : k ≠ 0) (h : ¬ (l.getD (k - 1) pc0).1 < l[k].1) : storeAt l k = false := by
  rw [storeAt_eq hk, decide_eq_false h, (show (k == 0) = false by simpa using h0), Bool.or_false, Bool.and_false]
theorem storeAt_ok {l : List Pc} {k : Nat} (hk : k < l.length) (h1 : textV (bs l[k].2) = true) (h2 : prOf (bs l[k].2) = l[k].1) (h3 : k = 0 ∨ (l.getD (k - 1) pc0).1 < l[k].1) : storeAt l k = true := by
  rw [storeAt_eq hk, h1, (show (prOf (bs l[k].2) == l[k].1) = true by simpa using h2)]
  rcases h3 with h3 | h3
  · subst h3; rfl
  · rw [decide_eq_true h3, Bool.or_true]; rfl
theorem cell_allocP {u : Value} {w : World} {x : Obj} {a : Addr} (hc : w.cell? a = some u) : (w.alloc x).cell? a = some u :=
  (World.cell?_alloc_lt w x a (World.block_lt_of_cell? w _ hc)).trans hc
/-- The cell of the piece before. -/
theorem prev_cell {w : World} {b o : Nat} {l : List Pc} {k : Nat} (h : Sl w encP 2 (some ⟨b, o, none⟩) l) (hk : k < l.length) (h0 : k ≠ 0) : w.cell? ⟨b, o + (k - 1) * 2, none⟩ = some (.int .i64 (l.getD (k - 1) pc0).1) := by
  obtain ⟨b', o', e, h', _⟩ := h.getP (k := k - 1) (by omega)
  injection e with e; injection e with e1 e2
  rw [e1, e2, getD_pc (by omega)]; exact h'
set_option maxHeartbeats 4000000 in
set_option maxRecDepth 100000 in
theorem iStoreValid_any (A : Option Addr) (c : Nat) (l : List Pc) (w : World) (hs : Sl w encP 2 A l) (hl : l.length ≤ 16777216) (hf : FitP l) :
    Calls Tryd.prog 16 #[.slice A l.length c] w fun e w' => e = .returned (.bool (storeV l)) ∧ Below w.heap.size w w' := by
  have HS := Lib.hid hs
  have HF := Lib.hid hf
  clear hs hf
  by_cases h40 : l.length ≤ 40
  case neg =>
    have E := Lib.hid (storeV_long h40)
    go_enter Tryd.func16, Tryd.ntmps16
    go_wp2
    go_ret
    exact ⟨ret_bool E.out.symm, Below.refl _ _⟩
  go_enter Tryd.func16, Tryd.ntmps16
  go_wp2
  go_loopw [10] (fun i wr => ∃ (k : Nat), k ≤ l.length ∧ i = .int .i64 k ∧ Hid (StoreUpto l k) ∧ Hid (Below w.heap.size w wr)) (fun i _ => l.length - (intOf i).toNat)
  case atStart => exact ⟨0, Nat.zero_le _, rfl, StoreUpto.zero l, Below.refl _ _⟩
  case round =>
    obtain ⟨k, hk, rfl, hh, HB⟩ := hrel
    by_cases hlt : k < l.length
    · have hsk := HS.out.below HB.out
      obtain ⟨b, o, rfl, hc0, hc1⟩ := hsk.getP hlt
      have hfk := HF.out.at hlt
      have hpv := @prev_cell _ _ _ _ k hsk hlt
      have H1 := Lib.hid (fun h => storeV_bad hlt (storeAt_txt hlt h))
      have H2 := Lib.hid (fun h => storeV_bad hlt (storeAt_pr hlt h))
      have H3 := Lib.hid (fun h0 h => storeV_bad hlt (storeAt_asc hlt h0 h))
      have H4 := Lib.hid (fun h1 h2 h3 => hh.out.succ (storeAt_ok hlt h1 h2 h3))
      have HB2 := Lib.hid (HB.out.alloc HB.out.size (.cells #[.int .i64 l[k].1, .string l[k].2] 44))
      have hx0 := far_cell (new_cell (w := wr) (cs := #[.int .i64 l[k].1, .string l[k].2]) (E := 44) (k := 0) rfl)
      have hx1 := far_cell (new_cell (w := wr) (cs := #[.int .i64 l[k].1, .string l[k].2]) (E := 44) (k := 1) rfl)
      clear hsk
      generalize (l.getD (k - 1) pc0).1 = z at *
      generalize l[k] = p at *
      obtain ⟨a, t⟩ := p
      simp only at *
      have hTV := fun w => iTextValid_any t w hfk
      cases h1 : textV (bs t)
      · have HE := Lib.hid (H1.out h1)
        rw [h1] at hTV
        have HTV := Lib.hid hTV
        clear hTV h1 H1 H2 H3 H4 hpv
        go_wp2
        refine wp_region_far (by kernel_rfl) (by kernel_rfl) ?_
        repeat (go_big_quiet_step ((go_at_call 34; exact far_same (HTV.out _))))
        refine wpQuiet_nil ?_
        intro _ hwF
        obtain ⟨pF, hwF⟩ := hwF
        subst hwF
        have HB5 := Lib.hid (Below_then HB2.out (far_below _ pF) (Nat.le_refl _))
        generalize far _ pF = wF at *
        go_wp2
        go_ret
        exact ⟨ret_bool HE.out.symm, HB5.out⟩
      · rw [h1] at hTV
        have HTV := Lib.hid hTV
        have hPO := fun w => iPrintOf_any t w hfk
        generalize hq : prOf (bs t) = q at *
        have HPO := Lib.hid hPO
        clear hTV hPO
        by_cases h2 : q = a
        · subst h2
          have hq2 : (q != q) = false := by simp
          by_cases h0 : k = 0
          · have HN := Lib.hid (H4.out h1 rfl (.inl h0))
            clear H1 H2 H3 H4 hpv
            have hk0 : decide (0 < k) = false := decide_eq_false (by omega)
            clear h0
            go_wp2
            refine wp_region_far (by kernel_rfl) (by kernel_rfl) ?_
            repeat (go_big_quiet_step ((first | (go_at_call 34; exact far_same (HTV.out _)) | (go_at_call 35; exact far_same (HPO.out _)))))
            refine wpQuiet_nil ?_
            intro _ hwF
            obtain ⟨pF, hwF⟩ := hwF
            subst hwF
            have HB5 := Lib.hid (Below_then HB2.out (far_below _ pF) (Nat.le_refl _))
            generalize far _ pF = wF at *
            go_wp2
            refine wp_region_far (by kernel_rfl) (by kernel_rfl) ?_
            repeat (go_big_quiet_step (fail))
            refine wpQuiet_nil ?_
            intro _ hwF
            obtain ⟨pF, hwF⟩ := hwF
            subst hwF
            have HB6 := Lib.hid (Below_then HB5.out (far_below _ pF) (Nat.le_refl _))
            generalize far _ pF = wG at *
            go_wp2
            go_roundw
            case rel => exact ⟨k + 1, by omega, by go_num, HN.out, HB6.out⟩
            case measure => simp [intOf]; omega
          · have hp1 := far_cell (cell_allocP (x := (.cells #[.int .i64 q, .string t] 44)) (hpv h0))
            have hk1 : 0 < k := by omega
            have hk2 : IntKind.i64.wrap ((k : Int) - 1) = (k : Int) - 1 := IntWalk.i64_in _ (by omega)
            have hk3 : (0 : Int) ≤ (k : Int) - 1 := by omega
            have hk4 : (k : Int) - 1 < (l.length : Int) := by omega
            have hk5 : ((k : Int) - 1).toNat = k - 1 := by omega
            by_cases h3 : z < q
            · have HN := Lib.hid (H4.out h1 rfl (.inr h3))
              clear H1 H2 H3 H4 hpv
              go_wp2
              refine wp_region_far (by kernel_rfl) (by kernel_rfl) ?_
              repeat (go_big_quiet_step ((first | (go_at_call 34; exact far_same (HTV.out _)) | (go_at_call 35; exact far_same (HPO.out _)))))
              refine wpQuiet_nil ?_
              intro _ hwF
              obtain ⟨pF, hwF⟩ := hwF
              subst hwF
              have HB5 := Lib.hid (Below_then HB2.out (far_below _ pF) (Nat.le_refl _))
              have hy0 := far_cell (hx0 pF)
              have hy1 := far_cell (hp1 pF)
              clear hx0 hx1 hp1
              generalize far _ pF = wF at *
              go_wp2
              refine wp_region_far (by kernel_rfl) (by kernel_rfl) ?_
              repeat (go_big_quiet_step (fail))
              refine wpQuiet_nil ?_
              intro _ hwF
              obtain ⟨pF, hwF⟩ := hwF
              subst hwF
              have HB6 := Lib.hid (Below_then HB5.out (far_below _ pF) (Nat.le_refl _))
              clear hy0 hy1
              generalize far _ pF = wG at *
              go_wp2
              go_roundw
              case rel => exact ⟨k + 1, by omega, by go_num, HN.out, HB6.out⟩
              case measure => simp [intOf]; omega
            · have HE := Lib.hid (H3.out h0 h3)
              clear H1 H2 H3 H4 hpv
              go_wp2
              refine wp_region_far (by kernel_rfl) (by kernel_rfl) ?_
              repeat (go_big_quiet_step ((first | (go_at_call 34; exact far_same (HTV.out _)) | (go_at_call 35; exact far_same (HPO.out _)))))
              refine wpQuiet_nil ?_
              intro _ hwF
              obtain ⟨pF, hwF⟩ := hwF
              subst hwF
              have HB5 := Lib.hid (Below_then HB2.out (far_below _ pF) (Nat.le_refl _))
              have hy0 := far_cell (hx0 pF)
              have hy1 := far_cell (hp1 pF)
              clear hx0 hx1 hp1
              generalize far _ pF = wF at *
              go_wp2
              refine wp_region_far (by kernel_rfl) (by kernel_rfl) ?_
              repeat (go_big_quiet_step (fail))
              refine wpQuiet_nil ?_
              intro _ hwF
              obtain ⟨pF, hwF⟩ := hwF
              subst hwF
              have HB6 := Lib.hid (Below_then HB5.out (far_below _ pF) (Nat.le_refl _))
              clear hy0 hy1
              generalize far _ pF = wG at *
              go_wp2
              go_ret
              exact ⟨ret_bool HE.out.symm, HB6.out⟩
        · have HE := Lib.hid (H2.out h2)
          have hq2 : (a != q) = true := by simpa using fun e => h2 e.symm
          clear H1 H2 H3 H4 hpv
          go_wp2
          refine wp_region_far (by kernel_rfl) (by kernel_rfl) ?_
          repeat (go_big_quiet_step ((first | (go_at_call 34; exact far_same (HTV.out _)) | (go_at_call 35; exact far_same (HPO.out _)))))
          refine wpQuiet_nil ?_
          intro _ hwF
          obtain ⟨pF, hwF⟩ := hwF
          subst hwF
          have HB5 := Lib.hid (Below_then HB2.out (far_below _ pF) (Nat.le_refl _))
          generalize far _ pF = wF at *
          go_wp2
          go_ret
          exact ⟨ret_bool HE.out.symm, HB5.out⟩
    · have HE := Lib.hid (hh.out.done hlt h40)
      go_wp2
      go_ret
      exact ⟨ret_bool HE.out.symm, HB.out⟩
set_option maxHeartbeats 8000000 in
set_option maxRecDepth 100000 in
theorem sStoreValid_any (A : Option Addr) (c : Nat) (l : List Pc) (w : World) (hs : Sl w encP 2 A l) (hl : l.length ≤ 16777216) (hf : FitP l) :
    Calls Tryd.prog 10 #[.slice A l.length c] w fun e w' => e = .returned (.bool (storeV l)) ∧ Below w.heap.size w w' := by
  have HS := Lib.hid hs
  have HF := Lib.hid hf
  clear hs hf
  go_enter Tryd.func10, Tryd.ntmps10
  go_wp2
  go_loopw [3] (fun i wr => ∃ (k : Nat), k ≤ l.length ∧ i = .int .i64 k ∧ Hid (StoreUpto l k) ∧ Hid (Below w.heap.size w wr)) (fun i _ => l.length - (intOf i).toNat)
  case atStart => exact ⟨0, Nat.zero_le _, rfl, StoreUpto.zero l, Below.refl _ _⟩
  case round =>
    obtain ⟨k, hk, rfl, hh, HB⟩ := hrel
    by_cases hlt : k < l.length
    · have hsk := HS.out.below HB.out
      obtain ⟨b, o, rfl, hc0, hc1⟩ := hsk.getP hlt
      have hfk := HF.out.at hlt
      have hpv := @prev_cell _ _ _ _ k hsk hlt
      have H1 := Lib.hid (fun h => storeV_bad hlt (storeAt_txt hlt h))
      have H2 := Lib.hid (fun h => storeV_bad hlt (storeAt_pr hlt h))
      have H3 := Lib.hid (fun h0 h => storeV_bad hlt (storeAt_asc hlt h0 h))
      have H4 := Lib.hid (fun h1 h2 h3 => hh.out.succ (storeAt_ok hlt h1 h2 h3))
      have hx0 := far_cell hc0
      have hx1 := far_cell hc1
      clear hsk hc0 hc1
      generalize (l.getD (k - 1) pc0).1 = z at *
      generalize l[k] = p at *
      obtain ⟨a, t⟩ := p
      simp only at *
      have hTV := fun w => sTextValid_any t w hfk
      cases h1 : textV (bs t)
      · have HE := Lib.hid (H1.out h1)
        rw [h1] at hTV
        have HTV := Lib.hid hTV
        clear hTV h1 H1 H2 H3 H4 hpv
        go_wp2
        refine wp_region_far (by kernel_rfl) (by kernel_rfl) ?_
        repeat (go_big_quiet_step ((go_at_call 24; exact far_same (HTV.out _))))
        refine wpQuiet_nil ?_
        intro _ hwF
        obtain ⟨pF, hwF⟩ := hwF
        subst hwF
        have HB5 := Lib.hid (Below_then HB.out (far_below _ pF) (Nat.le_refl _))
        generalize far _ pF = wF at *
        go_wp2
        go_ret
        exact ⟨ret_bool HE.out.symm, HB5.out⟩
      · rw [h1] at hTV
        have HTV := Lib.hid hTV
        have hPO := fun w => sPrintOf_any t w hfk
        generalize hq : prOf (bs t) = q at *
        have HPO := Lib.hid hPO
        clear hTV hPO
        by_cases h2 : q = a
        · subst h2
          by_cases h0 : k = 0
          · have HN := Lib.hid (H4.out h1 rfl (.inl h0))
            clear H1 H2 H3 H4 hpv
            have hk0 : decide (0 < k) = false := decide_eq_false (by omega)
            clear h0
            go_wp2
            refine wp_region_far (by kernel_rfl) (by kernel_rfl) ?_
            repeat (go_big_quiet_step ((first | (go_at_call 24; exact far_same (HTV.out _)) | (go_at_call 25; exact far_same (HPO.out _)))))
            refine wpQuiet_nil ?_
            intro _ hwF
            obtain ⟨pF, hwF⟩ := hwF
            subst hwF
            have HB5 := Lib.hid (Below_then HB.out (far_below _ pF) (Nat.le_refl _))
            generalize far _ pF = wF at *
            go_wp2
            go_roundw
            case rel => exact ⟨k + 1, by omega, by go_num, HN.out, HB5.out⟩
            case measure => simp [intOf]; omega
          · have hp1 := far_cell (hpv h0)
            have hk1 : 0 < k := by omega
            have hk2 : IntKind.i64.wrap ((k : Int) - 1) = (k : Int) - 1 := IntWalk.i64_in _ (by omega)
            have hk3 : (0 : Int) ≤ (k : Int) - 1 := by omega
            have hk4 : (k : Int) - 1 < (l.length : Int) := by omega
            have hk5 : ((k : Int) - 1).toNat = k - 1 := by omega
            by_cases h3 : z < q
            · have HN := Lib.hid (H4.out h1 rfl (.inr h3))
              clear H1 H2 H3 H4 hpv
              go_wp2
              refine wp_region_far (by kernel_rfl) (by kernel_rfl) ?_
              repeat (go_big_quiet_step ((first | (go_at_call 24; exact far_same (HTV.out _)) | (go_at_call 25; exact far_same (HPO.out _)))))
              refine wpQuiet_nil ?_
              intro _ hwF
              obtain ⟨pF, hwF⟩ := hwF
              subst hwF
              have HB5 := Lib.hid (Below_then HB.out (far_below _ pF) (Nat.le_refl _))
              clear hx0 hx1 hp1
              generalize far _ pF = wF at *
              go_wp2
              go_roundw
              case rel => exact ⟨k + 1, by omega, by go_num, HN.out, HB5.out⟩
              case measure => simp [intOf]; omega
            · have HE := Lib.hid (H3.out h0 h3)
              clear H1 H2 H3 H4 hpv
              go_wp2
              refine wp_region_far (by kernel_rfl) (by kernel_rfl) ?_
              repeat (go_big_quiet_step ((first | (go_at_call 24; exact far_same (HTV.out _)) | (go_at_call 25; exact far_same (HPO.out _)))))
              refine wpQuiet_nil ?_
              intro _ hwF
              obtain ⟨pF, hwF⟩ := hwF
              subst hwF
              have HB5 := Lib.hid (Below_then HB.out (far_below _ pF) (Nat.le_refl _))
              clear hx0 hx1 hp1
              generalize far _ pF = wF at *
              go_wp2
              go_ret
              exact ⟨ret_bool HE.out.symm, HB5.out⟩
        · have HE := Lib.hid (H2.out h2)
          have hq2 : (q != a) = true := by simpa using h2
          clear H1 H2 H3 H4 hpv
          go_wp2
          refine wp_region_far (by kernel_rfl) (by kernel_rfl) ?_
          repeat (go_big_quiet_step ((first | (go_at_call 24; exact far_same (HTV.out _)) | (go_at_call 25; exact far_same (HPO.out _)))))
          refine wpQuiet_nil ?_
          intro _ hwF
          obtain ⟨pF, hwF⟩ := hwF
          subst hwF
          have HB5 := Lib.hid (Below_then HB.out (far_below _ pF) (Nat.le_refl _))
          generalize far _ pF = wF at *
          go_wp2
          go_ret
          exact ⟨ret_bool HE.out.symm, HB5.out⟩
    · have HD := Lib.hid (fun h40 => hh.out.done hlt h40)
      have HL := Lib.hid (@storeV_long l)
      by_cases h40 : l.length ≤ 40
      · have HE := Lib.hid (HD.out h40)
        go_wp2
        go_ret
        exact ⟨ret_bool (by rw [HE.out]; simp; omega), HB.out⟩
      · have HE := Lib.hid (HL.out h40)
        go_wp2
        go_ret
        exact ⟨ret_bool (by rw [HE.out]; simp; omega), HB.out⟩
def bundF (l : List Pc) : Int := l.foldl (fun n p => prPair n p.1) 13
def bundP (l : List Pc) : Int := if storeV l then bundF l else -1
theorem bundF_take {l : List Pc} {k : Nat} (h : k < l.length) : bundF (l.take (k + 1)) = prPair (bundF (l.take k)) l[k].1 := by
  unfold bundF; rw [List.take_succ_eq_append_getElem h, List.foldl_append]; rfl
end Go.Proofs.YtaghiefokmapmaaDoor

/- 'append' of a whole slice onto a row of the call's own; 'append' of one struct. -/
set_option linter.unusedVariables false
namespace Go.Proofs.YtaghiefokmapmaaDoor
open Go.RowKit

theorem Own.cz {α : Type} {enc : α → List Value} {w : World} {base size : Nat} {E : TypeId} {A : Option Addr} {n c : Nat} {l : List α} (h : Own w base E size enc (.slice A n c) l) : A = none → c = 0 := by
  rintro rfl
  rcases h.2 with ⟨hv, hn⟩ | ⟨g, cap, cur, hv, hg, hh, hnc, hcm, hsz, ht⟩
  · injection hv
  · injection hv with e; cases e
theorem wpList_appN {P : Program} {α : Type} {enc : α → List Value} {ops : Array Oper} {rest : List Oper} {o : Oper} {a : Act} {Q : Exit → Act → World → Prop} {w0 wr : World} {B base size bytes : Nat} {t E : TypeId} {i : TypeInfo} {z : Value} {v : Value} {l m : List α} {A : Option Addr} {c : Nat}
    (ht : P.underlying t = some (.slice E)) (hi : P.info? E = some i) (hz : i.zero = some z) (hsize : i.size = size) (hby : i.bytes = bytes) (hzs : z.cells.size = size) (hsz : 0 < size) (hb200 : bytes ≤ 256)
    (hgd : o.guard = none) (s x : Operand) (ho : o.op = .call { callee := .builtin .append, args := #[s, x], argTypes := #[t, t] })
    (hown : Own wr base E size enc v l) (hb : Below B w0 wr) (hB : B ≤ base) (hbase : base ≤ wr.heap.size) (hn : l.length + m.length ≤ 33554432)
    (hsl : Sl wr enc size A m) (hcz : A = none → c = 0) (hce : ∀ y, (enc y).length = size) (h1 : ∀ y, ∀ u ∈ enc y, u.oneCell' = true)
    (hs : a.eval s = v) (hx : a.eval x = .slice A m.length c)
    (h : ∀ v' w', Own w' base E size enc v' (l ++ m) → Below B w0 w' → Grew v wr w' → wpList P ops Q rest (a.put o.dst v') w') : wpList P ops Q (o :: rest) a wr := by
  cases A with
  | none =>
    have hm : m = [] := by
      cases m with
      | nil => rfl
      | cons y r => obtain ⟨b, o, e, _⟩ := hsl (by simp); cases e
    subst hm
    rw [hcz rfl] at hx
    refine wpList_append_own_none hgd s x t ho base E i size ht hi v l.length (flat enc l) hs hown hx ?_
    exact h v wr (by rw [List.append_nil]; exact hown) hb (Grew.refl _ _)
  | some ad =>
    refine wpList_append_own _ hgd s x t ho base E i z size bytes ht hi hz hsize hby hzs hsz v l.length (flat enc l) hs hown ad m.length c (flat enc m) hx (flat_length hce m) ?_ ?_ ?_ ?_ hbase ?_
    · intro j u hu
      have hpos : 0 < m.length := by
        have hlt := (List.getElem?_eq_some_iff.1 hu).1
        rw [flat_length hce] at hlt
        cases m with
        | nil => simp at hlt
        | cons y r => simp
      obtain ⟨b, o', e, hc⟩ := hsl hpos
      injection e with e
      subst e
      have hadd : (⟨b, o', none⟩ : Addr).add j = ⟨b, o' + j, none⟩ := by unfold Addr.add; split <;> simp_all
      rw [hadd]; exact hc j u hu
    · intro u hu
      unfold flat at hu
      obtain ⟨y, _, hy⟩ := List.mem_flatMap.1 hu
      exact h1 y u hy
    · unfold maxLen; omega
    · have := Nat.mul_le_mul_left (l.length + m.length) hb200; omega
    · intro v' w' hown' hg _
      refine h v' w' ?_ (hb.grown hg (Nat.le_trans hB hbase) (fun k hk => Nat.le_trans hB (World.ownsRow.lt hown k hk).1)) hg
      show w'.ownsRow base E size v' (l ++ m).length (flat enc (l ++ m))
      rw [flat_append, List.length_append]; exact hown'
theorem oneI : ∀ y, ∀ u ∈ encI y, u.oneCell' = true := by intro y u hu; simp [encI] at hu; subst hu; rfl
theorem oneS : ∀ y, ∀ u ∈ encS y, u.oneCell' = true := by intro y u hu; simp [encS] at hu; subst hu; rfl
theorem oneP : ∀ y, ∀ u ∈ encP y, u.oneCell' = true := by intro y u hu; simp [encP] at hu; rcases hu with rfl | rfl <;> rfl
theorem oneV : ∀ y, ∀ u ∈ encV y, u.oneCell' = true := by intro y u hu; simp [encV] at hu; rcases hu with rfl | rfl | rfl <;> rfl
theorem oneT : ∀ y, ∀ u ∈ encT y, u.oneCell' = true := by intro y u hu; simp [encT] at hu; rcases hu with rfl | rfl | rfl | rfl <;> rfl
section
variable {ops : Array Oper} {rest : List Oper} {o : Oper} {a : Act} {Q : Exit → Act → World → Prop} {w0 wr : World} {v : Value}
theorem app_pcN {l m : List Pc} {A : Option Addr} {c : Nat} {s x : Operand} (hgd : o.guard = none) (ho : o.op = .call { callee := .builtin .append, args := #[s, x], argTypes := #[23, 23] })
    (hown : Own wr w0.heap.size 44 2 encP v l) (hb : Below w0.heap.size w0 wr) (hn : l.length + m.length ≤ 33554432) (hsl : Sl wr encP 2 A m) (hcz : A = none → c = 0)
    (hs : a.eval s = v) (hx : a.eval x = .slice A m.length c)
    (h : ∀ v' w', Own w' w0.heap.size 44 2 encP v' (l ++ m) → Below w0.heap.size w0 w' → Grew v wr w' → wpList Tryd.prog ops Q rest (a.put o.dst v') w') : wpList Tryd.prog ops Q (o :: rest) a wr := by
  obtain ⟨i0, hi0, hz0, hz1, hz2⟩ := info_parts pc_info
  exact wpList_appN Tryd.underlying23 hi0 hz0 hz1 hz2 rfl (by decide) (by decide) hgd s x ho hown hb (Nat.le_refl _) hb.size hn hsl hcz (fun _ => rfl) oneP hs hx h
theorem app_strN {l m : List ByteArray} {A : Option Addr} {c : Nat} {s x : Operand} (hgd : o.guard = none) (ho : o.op = .call { callee := .builtin .append, args := #[s, x], argTypes := #[25, 25] })
    (hown : Own wr w0.heap.size 9 1 encS v l) (hb : Below w0.heap.size w0 wr) (hn : l.length + m.length ≤ 33554432) (hsl : Sl wr encS 1 A m) (hcz : A = none → c = 0)
    (hs : a.eval s = v) (hx : a.eval x = .slice A m.length c)
    (h : ∀ v' w', Own w' w0.heap.size 9 1 encS v' (l ++ m) → Below w0.heap.size w0 w' → Grew v wr w' → wpList Tryd.prog ops Q rest (a.put o.dst v') w') : wpList Tryd.prog ops Q (o :: rest) a wr := by
  obtain ⟨i0, hi0, hz0, hz1, hz2⟩ := info_parts str_info
  exact wpList_appN Tryd.underlying25 hi0 hz0 hz1 hz2 rfl (by decide) (by decide) hgd s x ho hown hb (Nat.le_refl _) hb.size hn hsl hcz (fun _ => rfl) oneS hs hx h
end
/-! ### slices.Clone -/
set_option maxHeartbeats 2000000 in
set_option maxRecDepth 100000 in
theorem ClonePc_any (A : Option Addr) (c : Nat) (l : List Pc) (w : World) (hs : Sl w encP 2 A l) (hcz : A = none → c = 0) (hl : l.length ≤ 16777216) :
    Calls Tryd.prog 51 #[.slice A l.length c] w (OwnRes 44 2 encP l w) := by
  have HS := Lib.hid hs
  have HC := Lib.hid hcz
  clear hs hcz
  have hnil := fun (W : World) (A : Option Addr) (n c : Nat) => Lib.run_eql_slice_nil (P := Tryd.prog) W 23 44 A n c 0 0 Tryd.underlying23
  cases A with
  | none =>
    have hm : l = [] := by
      cases l with
      | nil => rfl
      | cons y r => obtain ⟨b, o, e, _⟩ := HS.out (by simp); cases e
    subst hm
    go_enter Tryd.func51, Tryd.ntmps51
    go_wp2
    go_ret
    exact ⟨_, rfl, Own.nil, Below.refl _ _⟩
  | some ad =>
    go_enter Tryd.func51, Tryd.ntmps51
    go_wp2_with (at_builtin; refine app_pcN rfl rfl (Own.made (Nat.le_refl _)) ((Below.refl _ _).alloc (Nat.le_refl _) _) (by simp; omega) (HS.out.alloc _) HC.out (by rfl) (by rfl) ?_; intro v1 w2 hown2 hb2 hg2; have HW2 := Lib.hid hown2; have HB2 := Lib.hid hb2; clear hown2 hb2 hg2)
    go_ret
    exact ⟨_, rfl, by have h := HW2.out; rwa [List.nil_append] at h, HB2.out⟩
end Go.Proofs.YtaghiefokmapmaaDoor

/- 'copy' of elements of more than one cell, as run equations; a row written whole. -/
set_option linter.unusedVariables false
namespace Go.Proofs.YtaghiefokmapmaaDoor
open Go.RowKit

theorem run_copy_rowK {P : Program} (w : World) (dT sT ty elem : TypeId) (g o dLen dCap : Nat) (a : Addr) (sLen sCap : Nat) (cur : Array Value) (t : TypeId) (cs : List Value) (k m : Nat)
    (hu : P.underlying dT = some (.slice elem)) (hs : (P.info? elem).map (·.size) = some k) (hm : Nat.min sLen dLen = m)
    (hg : w.heap[g]? = some (.cells cur t (0, 0))) (hn : cs.length = m * k)
    (hsrc : ∀ j v, cs[j]? = some v → w.cell? (a.add j) = some v) (hfit : o + cs.length ≤ cur.size) (h1 : ∀ v ∈ cs, v.oneCell' = true) :
    (Builtin.copy_ #[dT, sT] ty #[.slice (some ⟨g, o, none⟩) dLen dCap, .slice (some a) sLen sCap]).run P w =
      .ok (goInt m) (w.setRow g (cur.toList.take o ++ cs ++ cur.toList.drop (o + cs.length)).toArray) := by
  have hl := run_loadCells_list (P := P) w a cs hsrc
  have hst := run_storeCells_at P g o t cs 0 cur w hg (by simpa using hfit) h1
  rw [hn] at hl
  cases hq : P.info? elem with
  | none => simp [hq] at hs
  | some i =>
    have hi : i.size = k := by simpa [hq] using hs
    simp [Builtin.copy_, run_underlying hu, Builtin.lenOf, Builtin.firstCells, sizeOf, typeInfo, hq, hi, hm, hl, hst]
end Go.Proofs.YtaghiefokmapmaaDoor

/- slices.Insert of one piece into a row of the call's own, walked. -/
set_option linter.unusedVariables false
namespace Go.Proofs.YtaghiefokmapmaaDoor
open Go.RowKit

def InsRes (base : Nat) (l : List Pc) (w : World) (e : Ending) (w' : World) : Prop := ∃ v', e = .returned v' ∧ Own w' base 44 2 encP v' l ∧ Below base w w'
theorem ins_end (l : List Pc) (x : Pc) : l ++ [x] = l.take l.length ++ x :: l.drop l.length := by simp
theorem flat_take {α : Type} {enc : α → List Value} {k : Nat} (he : ∀ x, (enc x).length = k) (l : List α) (i : Nat) (hi : i ≤ l.length) : flat enc (l.take i) = (flat enc l).take (i * k) ∧ flat enc (l.drop i) = (flat enc l).drop (i * k) := by
  have e : flat enc l = flat enc (l.take i) ++ flat enc (l.drop i) := by rw [← flat_append, List.take_append_drop]
  have hlen : (flat enc (l.take i)).length = i * k := by rw [flat_length he, List.length_take]; congr 1; omega
  rw [e]
  exact ⟨(List.take_left' hlen).symm, (List.drop_left' hlen).symm⟩
/-- A row into which two cells were laid: first what stands behind moves, then the cells come in. -/
theorem ins_row {α : Type} {L C X S N1 N2 : List α} {a b : Nat} (hC : L.take b = C) (hb : b + 2 ≤ L.length) (hab : a ≤ b) (hX : X.length = 2) (hS : S = C.drop a)
    (h1 : N1 = L.take (a + 2) ++ S ++ L.drop (a + 2 + S.length)) (h2 : N2 = N1.take a ++ X ++ N1.drop (a + X.length)) :
    N1.length = L.length ∧ N2.length = L.length ∧ N2.take (b + 2) = C.take a ++ X ++ C.drop a := by
  have hCl : C.length = b := by rw [← hC, List.length_take]; omega
  have hSl : S.length = b - a := by rw [hS, List.length_drop, hCl]
  have hL2 : (L.take (a + 2)).length = a + 2 := by rw [List.length_take]; omega
  have e1 : N1.take a = C.take a := by
    rw [h1, List.append_assoc, List.take_append_of_le_length (by omega), List.take_take, ← hC, List.take_take]
    congr 1; omega
  have e2 : N1.drop (a + 2) = S ++ L.drop (a + 2 + S.length) := by
    rw [h1, List.append_assoc]; exact List.drop_left' hL2
  have l1 : N1.length = L.length := by rw [h1]; simp; omega
  have eN : N2 = (C.take a ++ X ++ C.drop a) ++ L.drop (a + 2 + S.length) := by
    rw [h2, hX, e1, e2, ← hS]; simp
  have hl : (C.take a ++ X ++ C.drop a).length = b + 2 := by simp [hX, hCl]; omega
  refine ⟨l1, ?_, ?_⟩
  · rw [eN, List.length_append, hl]; simp; omega
  · rw [eN]; exact List.take_left' hl
theorem one_sl {w : World} {vb : Nat} {x : Pc} (hv : w.heap[vb]? = some (.cells #[.int .i64 x.1, .string x.2] 44 (0, 0))) : Sl w encP 2 (some ⟨vb, 0, none⟩) [x] := by
  intro _
  refine ⟨vb, 0, rfl, fun j u hu => ?_⟩
  rw [cell_of_row _ _ _ _ _ (0, 0) hv]
  simpa [flat, encP] using hu
set_option maxHeartbeats 4000000 in
set_option maxRecDepth 100000 in
theorem Insert_end (base : Nat) (v : Value) (l : List Pc) (x : Pc) (w : World) (vb : Nat) (hbase : base ≤ w.heap.size) (hown : Own w base 44 2 encP v l)
    (hv : w.heap[vb]? = some (.cells #[.int .i64 x.1, .string x.2] 44 (0, 0))) (hl : l.length ≤ 16777216) :
    Calls Tryd.prog 53 #[v, .int .i64 l.length, .slice (some ⟨vb, 0, none⟩) 1 1] w (InsRes base (l ++ [x]) w) := by
  obtain ⟨i0, hi0, hz0, hz1, hz2⟩ := info_parts pc_info
  have hsx := one_sl hv
  have HBR := Lib.hid (Below.refl base w)
  have hcz := hown
  obtain ⟨A, c, rfl, hle, hs, hA⟩ := hown.sl
  have HO := Lib.hid hcz
  have HCZ := Lib.hid hcz.cz
  have HSX := Lib.hid hsx
  clear hcz hsx hown hs hv
  have hcm : c ≤ 9223372036854775807 := by
    rcases HO.out.2 with ⟨hv, hn⟩ | ⟨g, cap, cur, hv, hg, hh, hnc, hcm, hsz, ht⟩
    · injection hv with _ _ e; omega
    · injection hv with _ _ e; unfold maxLen at hcm; omega
  unfold InsRes
  rcases hA with ⟨hl0, rfl⟩ | ⟨g, rfl, hg, hgw⟩
  · subst hl0
    obtain rfl := HCZ.out rfl
    go_enter Tryd.func53, Tryd.ntmps53
    go_wp2_with (at_builtin; refine wpList_appN (w0 := w) (B := base) (base := base) (m := [x]) Tryd.underlying23 hi0 hz0 hz1 hz2 rfl (by decide) (by decide) rfl _ _ rfl HO.out HBR.out (Nat.le_refl _) hbase (by simp) HSX.out (by intro h; cases h) (fun _ => rfl) oneP rfl rfl ?_; intro v' w' hown' hb' _; have HO2 := Lib.hid hown'; have HB2 := Lib.hid hb'; clear hown' hb')
    go_ret
    exact ⟨_, rfl, HO2.out, HB2.out⟩
  · go_enter Tryd.func53, Tryd.ntmps53
    go_wp2_with (at_builtin; refine wpList_appN (w0 := w) (B := base) (base := base) (m := [x]) Tryd.underlying23 hi0 hz0 hz1 hz2 rfl (by decide) (by decide) rfl _ _ rfl HO.out HBR.out (Nat.le_refl _) hbase (by simp; omega) HSX.out (by intro h; cases h) (fun _ => rfl) oneP rfl rfl ?_; intro v' w' hown' hb' _; have HO2 := Lib.hid hown'; have HB2 := Lib.hid hb'; clear hown' hb')
    all_goals
      go_ret
      exact ⟨_, rfl, HO2.out, HB2.out⟩
set_option maxHeartbeats 4000000 in
set_option maxRecDepth 100000 in
theorem Insert_room (base : Nat) (l : List Pc) (x : Pc) (i : Nat) (w : World) (vb g cap : Nat) (cur : Array Value) (hbase : base ≤ w.heap.size)
    (hg : base ≤ g) (hh : w.heap[g]? = some (.cells cur 44 (0, 0))) (hcm : cap ≤ maxLen) (hsz : cur.size = cap * 2) (ht : cur.toList.take (l.length * 2) = flat encP l) (hroom : l.length + 1 ≤ cap)
    (hv : w.heap[vb]? = some (.cells #[.int .i64 x.1, .string x.2] 44 (0, 0))) (hne : vb ≠ g) (hi : i < l.length) (hl : l.length ≤ 16777216) :
    Calls Tryd.prog 53 #[.slice (some ⟨g, 0, none⟩) l.length cap, .int .i64 i, .slice (some ⟨vb, 0, none⟩) 1 1] w (InsRes base (l.take i ++ x :: l.drop i) w) := by
  obtain ⟨i0, hi0, hz0, hz1, hz2⟩ := info_parts pc_info
  have hsz' : ∀ w, (Go.sizeOf 44).run Tryd.prog w = .ok 2 w := fun w => by simp [sizeOf, typeInfo, hi0, hz1]
  have hsa : w.shape? vb = some (44, 2) := by simp [World.shape?, hv]
  have hsb : w.shape? g = some (44, cur.size) := by simp [World.shape?, hh]
  have hfa : w.frozen? ⟨vb, 0, none⟩ = false := by simp [World.frozen?, hv]
  have hfe : w.frozen? ⟨vb, 2, none⟩ = false := by simp [World.frozen?, hv]
  have hov : ∀ o lb cb, (callFunc 72 #[.slice (some ⟨vb, 0, none⟩) 1 1, .slice (some ⟨g, o, none⟩) lb cb]).run Tryd.prog w = .ok (.value (.bool false)) w := fun o lb cb => by
    rw [run_callFunc_extern Tryd.func72 (by kernel_rfl) (by kernel_rfl) (by kernel_rfl) (e := Extern.SlicesOverlaps.overlaps #[23, 23] #[4]) (by kernel_rfl),
      Lib.run_overlaps_apart w 23 4 44 Tryd.underlying23 2 hsz' ⟨vb, 0, none⟩ ⟨g, o, none⟩ 1 1 lb cb hne 44 44 2 cur.size hsa hsb (by omega) hfa hfe]
    rfl
  obtain ⟨C, hC⟩ : ∃ C, C = flat encP l := ⟨_, rfl⟩
  have hCl : C.length = l.length * 2 := by rw [hC]; exact flat_length (enc := encP) (size := 2) (fun _ => rfl) l
  have hflat := flat_take (enc := encP) (k := 2) (fun _ => rfl) l i (by omega)
  rw [← hC] at ht hflat
  have hLl : cur.toList.length = cap * 2 := by rw [Array.length_toList]; exact hsz
  obtain ⟨S, hS⟩ : ∃ S, S = C.drop (i * 2) := ⟨_, rfl⟩
  have hSl : S.length = (l.length - i) * 2 := by rw [hS, List.length_drop, hCl]; omega
  obtain ⟨N1, hN1⟩ : ∃ N, N = cur.toList.take (i * 2 + 2) ++ S ++ cur.toList.drop (i * 2 + 2 + S.length) := ⟨_, rfl⟩
  obtain ⟨N2, hN2⟩ : ∃ N, N = N1.take (i * 2) ++ encP x ++ N1.drop (i * 2 + (encP x).length) := ⟨_, rfl⟩
  obtain ⟨l1, l2, tk⟩ := ins_row (a := i * 2) (b := l.length * 2) ht (by omega) (by omega) (X := encP x) rfl hS hN1 hN2
  have hz3 : (Tryd.prog.info? 44).map (·.size) = some 2 := by rw [hi0]; simp [hz1]
  have hcell : ∀ j u, C[j]? = some u → w.cell? ⟨g, j, none⟩ = some u := fun j u hu => by
    rw [cell_of_row _ _ _ _ _ (0, 0) hh, ← Array.getElem?_toList]
    rw [← ht, List.getElem?_take] at hu
    split at hu
    · exact hu
    · cases hu
  have hcp1 : ∀ ty dl sl dc sc, dl = l.length - i → sl = l.length + 1 - i → (Builtin.copy_ #[23, 23] ty #[.slice (some ⟨g, (i + 1) * 2, none⟩) dl dc, .slice (some ⟨g, i * 2, none⟩) sl sc]).run Tryd.prog w.drew = .ok (goInt ((l.length - i : Nat) : Int)) (w.drew.setRow g N1.toArray) := fun ty dl sl dc sc e1 e2 => by
    subst e1 e2
    have := run_copy_rowK (P := Tryd.prog) w.drew 23 23 ty 44 g ((i + 1) * 2) (l.length - i) dc ⟨g, i * 2, none⟩ (l.length + 1 - i) sc cur 44 S 2 (l.length - i) Tryd.underlying23 hz3 (by simp only [Nat.min_def]; split <;> omega) hh hSl
      (fun j u hu => by
        rw [Addr.add_lit]
        rw [hS, List.getElem?_drop] at hu
        exact hcell _ u hu)
      (by omega) (fun u hu => by
        rw [hS, hC] at hu
        unfold flat at hu
        obtain ⟨y, _, hy⟩ := List.mem_flatMap.1 (List.mem_of_mem_drop hu)
        exact oneP y u hy)
    rw [hN1, show i * 2 + 2 = (i + 1) * 2 by omega]
    exact this
  have hcp2 : ∀ ty dl dc, 0 < dl → (Builtin.copy_ #[23, 23] ty #[.slice (some ⟨g, i * 2, none⟩) dl dc, .slice (some ⟨vb, 0, none⟩) 1 1]).run Tryd.prog (w.drew.setRow g N1.toArray) = .ok (goInt 1) ((w.drew.setRow g N1.toArray).setRow g N2.toArray) := fun ty dl dc e1 => by
    have := run_copy_rowK (P := Tryd.prog) (w.drew.setRow g N1.toArray) 23 23 ty 44 g (i * 2) dl dc ⟨vb, 0, none⟩ 1 1 N1.toArray 44 (encP x) 2 1 Tryd.underlying23 hz3 (by simp only [Nat.min_def]; split <;> omega) (setRow_heap w.drew g _ _ _ _ hh) rfl
      (fun j u hu => by
        rw [Addr.add_lit, cell_of_row _ _ _ _ _ (0, 0) ((setRow_other w.drew g vb _ hne).trans hv)]
        simpa [encP] using hu)
      (by simp [encP, l1]; omega) (fun u hu => oneP x u hu)
    rw [hN2]
    exact this
  have hfin : Own ((w.drew.setRow g N1.toArray).setRow g N2.toArray) base 44 2 encP (.slice (some ⟨g, 0, none⟩) (l.length + 1) cap) (l.take i ++ x :: l.drop i) := by
    have hll : (l.take i ++ x :: l.drop i).length = l.length + 1 := by simp; omega
    refine ⟨flat_length (enc := encP) (size := 2) (fun _ => rfl) _, .inr ⟨g, cap, N2.toArray, by rw [hll], hg, setRow_heap _ g _ _ _ _ (setRow_heap w.drew g _ _ _ _ hh), by rw [hll]; exact hroom, hcm, by simp [l2, hLl], ?_⟩⟩
    have e : flat encP (l.take i ++ x :: l.drop i) = flat encP (l.take i) ++ (encP x ++ flat encP (l.drop i)) := by rw [flat_append]; rfl
    rw [e, hflat.1, hflat.2, hll, show (l.length + 1) * 2 = l.length * 2 + 2 by omega]
    show N2.take _ = _
    rw [tk, List.append_assoc]
  have mixed : Tryd.prog.follows .mixedOrders = true := by kernel_rfl
  have HFIN := Lib.hid hfin
  have HBEL := Lib.hid (below_setRow (below_setRow ((Below.refl base w).drew) hg N1.toArray) hg N2.toArray)
  have HC1 := Lib.hid (fun ty => hcp1 ty _ _ (cap - (i + 1)) (cap - i) rfl rfl)
  have HC2 := Lib.hid (fun ty => hcp2 ty (l.length + 1 - i) (cap - i) (by omega))
  clear hfin hcp1 hcp2 hcell tk l2 hN2 l1 hN1 hSl hS hLl hflat hCl hC hsz' hz3
  unfold maxLen at hcm
  unfold InsRes
  clear hh hv ht hsa hsb hfa hfe
  have hz2' : ¬ ((i : Int) = (l.length : Int)) := by omega
  have hin : i ≤ l.length := by omega
  have hb2 : ¬ (cap = i + 1) := by omega
  have hb4 : ¬ (cap = i) := by omega
  have hw1 : IntKind.i64.wrap ((i : Int) + 1) = (i : Int) + 1 := by rw [IntKind.wrap_i64]; omega
  have htn : ((i : Int) + 1).toNat = i + 1 := by omega
  have hb1 : (0 : Int) ≤ (i : Int) + 1 := by omega
  have hb3 : (i : Int) ≤ (l.length : Int) + 1 := by omega
  go_enter Tryd.func53, Tryd.ntmps53
  go_wp2_with (simp only [hov])
  go_region_law_o (refine step_copy_runI rfl _ _ 23 23 rfl (.slice (some ⟨g, (i + 1) * 2, none⟩) (l.length - i) (cap - (i + 1))) (.slice (some ⟨g, i * 2, none⟩) (l.length + 1 - i) (cap - i)) (by simp [Act.eval, Act.put]) (by simp [Act.eval, Act.put]) (HC1.out _) ?_)
  have hc2 := HC2.out
  go_wp2
  go_ret
  exact ⟨_, rfl, HFIN.out, HBEL.out⟩
theorem grow_row {α : Type} {R P X S N1 N2 : List α} {a : Nat} (hP : R.take a = P) (hPl : P.length = a) (hX : X.length = 2) (hb : a + 2 + S.length ≤ R.length)
    (h1 : N1 = R.take a ++ X ++ R.drop (a + X.length)) (h2 : N2 = N1.take (a + 2) ++ S ++ N1.drop (a + 2 + S.length)) :
    N1.length = R.length ∧ N2.length = R.length ∧ N2.take (a + 2 + S.length) = P ++ X ++ S := by
  rw [hX, hP] at h1
  have l1 : N1.length = R.length := by rw [h1]; simp [hPl, hX]; omega
  have e1 : N1.take (a + 2) = P ++ X := by rw [h1]; exact List.take_left' (by simp [hPl, hX])
  have hl : (P ++ X ++ S).length = a + 2 + S.length := by simp [hPl, hX]; omega
  refine ⟨l1, ?_, ?_⟩
  · rw [h2, e1, List.length_append, hl, List.length_drop, l1]; omega
  · rw [h2, e1]; exact List.take_left' hl
set_option maxHeartbeats 4000000 in
set_option maxRecDepth 100000 in
theorem Insert_grow (base : Nat) (l : List Pc) (x : Pc) (i : Nat) (w : World) (vb g cap : Nat) (cur : Array Value) (hbase : base ≤ w.heap.size)
    (hg : base ≤ g) (hh : w.heap[g]? = some (.cells cur 44 (0, 0))) (hle : l.length ≤ cap) (ht : cur.toList.take (l.length * 2) = flat encP l) (hroom : cap < l.length + 1)
    (hv : w.heap[vb]? = some (.cells #[.int .i64 x.1, .string x.2] 44 (0, 0))) (hi : i < l.length) (hl : l.length ≤ 16777216) :
    Calls Tryd.prog 53 #[.slice (some ⟨g, 0, none⟩) l.length cap, .int .i64 i, .slice (some ⟨vb, 0, none⟩) 1 1] w (InsRes base (l.take i ++ x :: l.drop i) w) := by
  obtain ⟨i0, hi0, hz0, hz1, hz2⟩ := info_parts pc_info
  have hgw : g < w.heap.size := (Array.getElem?_eq_some_iff.1 hh).1
  have hvw : vb < w.heap.size := (Array.getElem?_eq_some_iff.1 hv).1
  obtain ⟨C, hC⟩ : ∃ C, C = flat encP l := ⟨_, rfl⟩
  have hCl : C.length = l.length * 2 := by rw [hC]; exact flat_length (enc := encP) (size := 2) (fun _ => rfl) l
  have hflat := flat_take (enc := encP) (k := 2) (fun _ => rfl) l i (by omega)
  rw [← hC] at ht hflat
  obtain ⟨S, hS⟩ : ∃ S, S = C.drop (i * 2) := ⟨_, rfl⟩
  have hSl : S.length = (l.length - i) * 2 := by rw [hS, List.length_drop, hCl]; omega
  have hPl : (C.take (i * 2)).length = i * 2 := by rw [List.length_take, hCl]; omega
  have hz3 : (Tryd.prog.info? 44).map (·.size) = some 2 := by rw [hi0]; simp [hz1]
  have hcell : ∀ j u, C[j]? = some u → w.cell? ⟨g, j, none⟩ = some u := fun j u hu => by
    rw [cell_of_row _ _ _ _ _ (0, 0) hh, ← Array.getElem?_toList]
    rw [← ht, List.getElem?_take] at hu
    split at hu
    · exact hu
    · cases hu
  have hold : (Builtin.firstCells i0.size i (.slice (some ⟨g, 0, none⟩) i cap)).run Tryd.prog w.drew = .ok (C.take (i * 2)).toArray w.drew := by
    rw [hz1]
    exact run_firstCells_some w.drew 2 i ⟨g, 0, none⟩ i cap (C.take (i * 2)) hPl (fun j u hu => by
      rw [Addr.add_lit, Nat.zero_add]
      rw [List.getElem?_take] at hu
      split at hu
      · exact hcell j u hu
      · cases hu)
  have hik : i + (l.length + 1 - i) = l.length + 1 := by omega
  have hkk : (l.length : Int) + 1 - (i : Int) = ((l.length + 1 - i : Nat) : Int) := by omega
  obtain ⟨G, hG⟩ : ∃ G, G = grownCap w (l.length + 1) cap 44 := ⟨_, rfl⟩
  have hGn : l.length + 1 ≤ G := by rw [hG]; exact grownCap_ge w _ _ _
  have hG63 : G ≤ maxLen := by rw [hG]; exact grownCap_le_maxLen w (l.length + 1) cap 44 (by unfold maxLen; omega)
  obtain ⟨R, hR⟩ : ∃ R : Array Value, R = (C.take (i * 2)).toArray ++ Builtin.zeroCells (Value.agg #[.int .i64 0, .string ⟨#[]⟩]).cells (l.length + 1 - i) ++ Builtin.zeroCells (Value.agg #[.int .i64 0, .string ⟨#[]⟩]).cells (G - (l.length + 1)) := ⟨_, rfl⟩
  have hRl : R.size = G * 2 := by
    rw [hR]
    simp only [Array.size_append, List.size_toArray, hPl]
    have hz : ∀ k, (Builtin.zeroCells (Value.agg #[.int .i64 0, .string ⟨#[]⟩]).cells k).size = k * 2 := fun k => by simp [Builtin.zeroCells, Value.cells]
    rw [hz, hz]; omega
  have hRll : R.toList.length = G * 2 := by rw [Array.length_toList]; exact hRl
  have hRt : R.toList.take (i * 2) = C.take (i * 2) := by
    rw [hR]; simp only [Array.toList_append, List.append_assoc]
    exact List.take_left' hPl
  have hrz : ∀ ty, (Builtin.append_ #[23, 3] ty #[.slice (some ⟨g, 0, none⟩) i cap, .int .i64 ((l.length : Int) + 1 - (i : Int))]).run Tryd.prog w =
      .ok (.slice (some ⟨w.heap.size, 0, none⟩) (l.length + 1) G) (w.alloc (.cells R 44)).drew := fun ty => by
    have h := Lib.run_append_grow_zeros (P := Tryd.prog) w 23 3 ty 44 i0 _ .i64 .i64 Tryd.underlying23 Tryd.underlying3 hi0 hz0 (some ⟨g, 0, none⟩) i cap (C.take (i * 2)) hold (l.length + 1 - i) (by omega) (by omega) (by omega) (by omega) (by rw [hz2]; omega) (by rw [hz2, hik]; exact growslice_fits hroom (by omega))
    rw [hik, ← hG, ← hR] at h
    rw [hkk]
    exact h
  obtain ⟨N1, hN1⟩ : ∃ N, N = R.toList.take (i * 2) ++ encP x ++ R.toList.drop (i * 2 + (encP x).length) := ⟨_, rfl⟩
  obtain ⟨N2, hN2⟩ : ∃ N, N = N1.take (i * 2 + 2) ++ S ++ N1.drop (i * 2 + 2 + S.length) := ⟨_, rfl⟩
  obtain ⟨l1, l2, tk⟩ := grow_row (a := i * 2) (X := encP x) hRt hPl rfl (by rw [hRll, hSl]; omega) hN1 hN2
  rw [hRll] at l1 l2
  have hrow0 : (w.alloc (.cells R 44)).drew.heap[w.heap.size]? = some (.cells R 44 (0, 0)) := heap_alloc_new w _
  have hold0 : ∀ k, k < w.heap.size → (w.alloc (.cells R 44)).drew.heap[k]? = w.heap[k]? := fun k hk => by
    show (w.heap.push _)[k]? = _
    rw [Array.getElem?_push, if_neg (by omega)]
  have hcpA : ∀ ty, (Builtin.copy_ #[23, 23] ty #[.slice (some ⟨w.heap.size, i * 2, none⟩) (l.length + 1 - i) (G - i), .slice (some ⟨vb, 0, none⟩) 1 1]).run Tryd.prog (w.alloc (.cells R 44)).drew = .ok (goInt 1) ((w.alloc (.cells R 44)).drew.setRow w.heap.size N1.toArray) := fun ty => by
    have := run_copy_rowK (P := Tryd.prog) (w.alloc (.cells R 44)).drew 23 23 ty 44 w.heap.size (i * 2) (l.length + 1 - i) (G - i) ⟨vb, 0, none⟩ 1 1 R 44 (encP x) 2 1 Tryd.underlying23 hz3 (by simp only [Nat.min_def]; split <;> omega) hrow0 rfl
      (fun j u hu => by
        rw [Addr.add_lit, cell_of_row _ _ _ _ _ (0, 0) ((hold0 vb hvw).trans hv)]
        simpa [encP] using hu)
      (by rw [hRl]; simp [encP]; omega) (fun u hu => oneP x u hu)
    rw [hN1]
    exact this
  have hrow1 : ((w.alloc (.cells R 44)).drew.setRow w.heap.size N1.toArray).drew.heap[w.heap.size]? = some (.cells N1.toArray 44 (0, 0)) := setRow_heap _ _ _ _ _ _ hrow0
  have hcpB : ∀ ty, (Builtin.copy_ #[23, 23] ty #[.slice (some ⟨w.heap.size, (i + 1) * 2, none⟩) (l.length - i) (G - (i + 1)), .slice (some ⟨g, i * 2, none⟩) (l.length - i) (cap - i)]).run Tryd.prog ((w.alloc (.cells R 44)).drew.setRow w.heap.size N1.toArray).drew = .ok (goInt ((l.length - i : Nat) : Int)) (((w.alloc (.cells R 44)).drew.setRow w.heap.size N1.toArray).drew.setRow w.heap.size N2.toArray) := fun ty => by
    have := run_copy_rowK (P := Tryd.prog) ((w.alloc (.cells R 44)).drew.setRow w.heap.size N1.toArray).drew 23 23 ty 44 w.heap.size ((i + 1) * 2) (l.length - i) (G - (i + 1)) ⟨g, i * 2, none⟩ (l.length - i) (cap - i) N1.toArray 44 S 2 (l.length - i) Tryd.underlying23 hz3 (by simp) hrow1 hSl
      (fun j u hu => by
        rw [Addr.add_lit, cell_of_row _ _ _ _ _ (0, 0) (show ((w.alloc (.cells R 44)).drew.setRow w.heap.size N1.toArray).drew.heap[g]? = some (.cells cur 44 (0, 0)) from (setRow_other (w.alloc (.cells R 44)).drew w.heap.size g _ (by omega)).trans ((hold0 g hgw).trans hh)), ← Array.getElem?_toList]
        rw [hS, List.getElem?_drop, ← ht, List.getElem?_take] at hu
        split at hu
        · exact hu
        · cases hu)
      (by simp [l1]; omega) (fun u hu => by
        rw [hS, hC] at hu
        unfold flat at hu
        obtain ⟨y, _, hy⟩ := List.mem_flatMap.1 (List.mem_of_mem_drop hu)
        exact oneP y u hy)
    rw [hN2, show i * 2 + 2 = (i + 1) * 2 by omega]
    exact this
  have hfin : Own (((w.alloc (.cells R 44)).drew.setRow w.heap.size N1.toArray).drew.setRow w.heap.size N2.toArray) base 44 2 encP (.slice (some ⟨w.heap.size, 0, none⟩) (l.length + 1) G) (l.take i ++ x :: l.drop i) := by
    have hll : (l.take i ++ x :: l.drop i).length = l.length + 1 := by simp; omega
    refine ⟨flat_length (enc := encP) (size := 2) (fun _ => rfl) _, .inr ⟨w.heap.size, G, N2.toArray, by rw [hll], hbase, setRow_heap _ _ _ _ _ _ hrow1, by rw [hll]; exact hGn, hG63, by simp [l2], ?_⟩⟩
    have e : flat encP (l.take i ++ x :: l.drop i) = flat encP (l.take i) ++ (encP x ++ flat encP (l.drop i)) := by rw [flat_append]; rfl
    rw [e, hflat.1, hflat.2, hll, show (l.length + 1) * 2 = i * 2 + 2 + S.length by rw [hSl]; omega]
    show N2.take _ = _
    rw [tk, List.append_assoc, hS]
  have hbel : Below base w (((w.alloc (.cells R 44)).drew.setRow w.heap.size N1.toArray).drew.setRow w.heap.size N2.toArray) :=
    below_setRow (below_setRow (((Below.refl base w).alloc hbase _).drew) hbase N1.toArray).drew hbase N2.toArray
  have mixed : Tryd.prog.follows .mixedOrders = true := by kernel_rfl
  have HFIN := Lib.hid hfin
  have HBEL := Lib.hid hbel
  have HCA := Lib.hid hcpA
  have HCB := Lib.hid hcpB
  have HRZ := Lib.hid hrz
  unfold maxLen at hG63
  unfold InsRes
  clear hfin hbel hcpA hcpB hrz hcell tk l2 hN2 l1 hN1 hSl hS hflat hCl hC hz3 hold hrow0 hold0 hrow1 hR hRl hRll hRt hh hv ht hkk hik hPl hG
  have hz2' : ¬ ((i : Int) = (l.length : Int)) := by omega
  have hz4 : (cap : Int) < (l.length : Int) + 1 := by omega
  have hin : i ≤ l.length := by omega
  have hb2 : ¬ (G = i + 1) := by omega
  have hb4 : ¬ (G = i) := by omega
  have hb5 : ¬ (cap = i) := by omega
  have hw1 : IntKind.i64.wrap ((i : Int) + 1) = (i : Int) + 1 := by rw [IntKind.wrap_i64]; omega
  have hw2 : IntKind.i64.wrap ((l.length : Int) + 1 - (i : Int)) = (l.length : Int) + 1 - (i : Int) := by rw [IntKind.wrap_i64]; omega
  have htn : ((i : Int) + 1).toNat = i + 1 := by omega
  have hb1 : (0 : Int) ≤ (i : Int) + 1 := by omega
  have hca := HCA.out
  go_enter Tryd.func53, Tryd.ntmps53
  go_wp2_with (at_builtin; refine Lib.wpList_append_run _ rfl _ _ _ _ rfl _ _ rfl rfl _ _ (HRZ.out _) ?_)
  go_region_law_o (refine step_copy_runI rfl _ _ 23 23 rfl (.slice (some ⟨w.heap.size, (i + 1) * 2, none⟩) (l.length - i) (G - (i + 1))) (.slice (some ⟨g, i * 2, none⟩) (l.length - i) (cap - i)) (by simp [Act.eval, Act.put]) (by simp [Act.eval, Act.put]) (HCB.out _) ?_)
  go_wp2
  go_ret
  exact ⟨_, rfl, HFIN.out, HBEL.out⟩
end Go.Proofs.YtaghiefokmapmaaDoor

/- Where a print stands: cmp.Compare, slices.BinarySearchFunc, findPiece, walked. -/
set_option linter.unusedVariables false
namespace Go.Proofs.YtaghiefokmapmaaDoor
open Go.RowKit

def cmp3 (a b : Int) : Int := if a < b then -1 else if b < a then 1 else 0
set_option maxHeartbeats 2000000 in
set_option maxRecDepth 100000 in
theorem isNaN_any (a : Int) (w : World) : Calls Tryd.prog 97 #[.int .i64 a] w fun e w' => e = .returned (.bool false) ∧ w = w' := by
  go_enter Tryd.func97, Tryd.ntmps97
  go_wp2
  go_ret
  exact ⟨ret_bool (by simp), rfl⟩
set_option maxHeartbeats 2000000 in
set_option maxRecDepth 100000 in
theorem Compare_any (a b : Int) (w : World) : Calls Tryd.prog 71 #[.int .i64 a, .int .i64 b] w fun e w' => e = .returned (.int .i64 (cmp3 a b)) ∧ w = w' := by
  by_cases h1 : a < b
  · have E : Hid (cmp3 a b = -1) := by show _ = _; unfold cmp3; rw [if_pos h1]
    go_enter Tryd.func71, Tryd.ntmps71
    go_wp2_with (go_at_call 97; refine (isNaN_any _ _).mono ?_; rintro e w' ⟨rfl, rfl⟩)
    go_ret
    exact ⟨ret_int E.out.symm, rfl⟩
  · by_cases h2 : b < a
    · have E : Hid (cmp3 a b = 1) := by show _ = _; unfold cmp3; rw [if_neg h1, if_pos h2]
      go_enter Tryd.func71, Tryd.ntmps71
      go_wp2_with (go_at_call 97; refine (isNaN_any _ _).mono ?_; rintro e w' ⟨rfl, rfl⟩)
      go_ret
      exact ⟨ret_int E.out.symm, rfl⟩
    · have E : Hid (cmp3 a b = 0) := by show _ = _; unfold cmp3; rw [if_neg h1, if_neg h2]
      go_enter Tryd.func71, Tryd.ntmps71
      go_wp2_with (go_at_call 97; refine (isNaN_any _ _).mono ?_; rintro e w' ⟨rfl, rfl⟩)
      go_ret
      exact ⟨ret_int E.out.symm, rfl⟩
set_option maxHeartbeats 2000000 in
set_option maxRecDepth 100000 in
theorem fpCmp_any (a x : Int) (t : ByteArray) (w : World) : Calls Tryd.prog 70 #[.agg #[.int .i64 a, .string t], .int .i64 x] w fun e w' => e = .returned (.int .i64 (cmp3 a x)) ∧ Below w.heap.size w w' := by
  have HB := Lib.hid ((Below.refl w.heap.size w).alloc (Nat.le_refl _) (.cells #[.int .i64 a, .string t] 44))
  generalize hc : cmp3 a x = c at *
  have HC := Lib.hid (fun w => hc ▸ Compare_any a x w)
  clear hc
  go_enter Tryd.func70, Tryd.ntmps70
  go_wp2_with (go_at_call 71; refine (HC.out _).mono ?_; rintro e w' ⟨rfl, rfl⟩)
  go_ret
  exact ⟨rfl, HB.out⟩
def FpRes (l : List Pc) (x : Int) (w : World) (e : Ending) (w' : World) : Prop := e = .returned (.tuple #[.int .i64 (below l x : Nat), .bool (hereP l x)]) ∧ Below w.heap.size w w'
theorem ret_two {a b : Int} {c d : Bool} (h1 : a = b) (h2 : c = d) : Ending.returned (.tuple #[.int .i64 a, .bool c]) = .returned (.tuple #[.int .i64 b, .bool d]) := by rw [h1, h2]
set_option maxHeartbeats 4000000 in
set_option maxRecDepth 100000 in
theorem BSearch_any (A : Option Addr) (c : Nat) (l : List Pc) (x : Int) (w : World) (hs : Sl w encP 2 A l) (hl : l.length ≤ 16777216) (hso : Sorted l) :
    Calls Tryd.prog 69 #[.slice A l.length c, .int .i64 x, .func (.func 70) #[] #[]] w (FpRes l x w) := by
  have HS := Lib.hid hs
  have HSO := Lib.hid hso
  clear hs hso
  go_enter Tryd.func69, Tryd.ntmps69
  go_wp2_with fail
  go_loopw [9, 10] (fun vi vj wr => ∃ lo hi : Nat, vi = .int .i64 lo ∧ vj = .int .i64 hi ∧ lo ≤ hi ∧ hi ≤ l.length ∧ Hid (∀ t (h : t < l.length), t < lo → l[t].1 < x) ∧ Hid (∀ t (h : t < l.length), hi ≤ t → x ≤ l[t].1) ∧ Hid (Below w.heap.size w wr)) (fun vi vj _ => (intOf vj).toNat - (intOf vi).toNat)
  case atStart => exact ⟨0, l.length, rfl, rfl, Nat.zero_le _, Nat.le_refl _, (fun t h h2 => by omega), (fun t h h2 => by omega), Below.refl _ _⟩
  case round =>
    obtain ⟨lo, hi, rfl, rfl, hle, hhi, H1, H2, HB⟩ := hrel
    by_cases hlt : lo < hi
    · obtain ⟨m, hm⟩ : ∃ m, m = (lo + hi) / 2 := ⟨_, rfl⟩
      have hm1 : lo ≤ m := by omega
      have hm2 : m < hi := by omega
      have hml : m < l.length := by omega
      have hmi : ((lo : Int) + (hi : Int)) / 2 = (m : Int) := by omega
      obtain ⟨b, o, rfl, hc0, hc1⟩ := (HS.out.below HB.out).getP hml
      have HP := Lib.hid (List.pairwise_iff_getElem.1 HSO.out)
      have HQ1 := Lib.hid (fun (hx : l[m].1 < x) (t : Nat) (h : t < l.length) (ht : t < m + 1) => show l[t].1 < x by
        by_cases e : t = m
        · subst e; exact hx
        · have := HP.out t m h hml (by omega); omega)
      have HQ2 := Lib.hid (fun (hx : ¬ l[m].1 < x) (t : Nat) (h : t < l.length) (ht : m ≤ t) => show x ≤ l[t].1 by
        by_cases e : m = t
        · subst e; omega
        · have := HP.out m t hml h (by omega); omega)
      generalize l[m] = p at *
      obtain ⟨a, t⟩ := p
      simp only at *
      clear hm HP
      by_cases hax : a < x
      · have HN := Lib.hid (HQ1.out hax)
        have hcm : cmp3 a x = -1 := by unfold cmp3; rw [if_pos hax]
        have hC := fun w => fpCmp_any a x t w
        rw [hcm] at hC
        have HC := Lib.hid hC
        clear hC hcm HQ1 HQ2
        go_wp2_with ((first | go_at_call 70 | go_at_fn 70); refine (HC.out _).mono ?_; rintro e w2 ⟨rfl, hb2⟩; have HB2 := Lib.hid (Below_then HB.out hb2 (Nat.le_refl _)); clear hb2)
        go_roundw
        case rel => exact ⟨m + 1, hi, by go_num, rfl, by omega, hhi, HN.out, H2.out, HB2.out⟩
        case measure => simp [intOf]; omega
      · have HN := Lib.hid (HQ2.out hax)
        have hcm : ¬ cmp3 a x < 0 := by unfold cmp3; rw [if_neg hax]; split <;> omega
        have hC := fun w => fpCmp_any a x t w
        generalize cmp3 a x = cv at *
        have HC := Lib.hid hC
        clear hC HQ1 HQ2
        go_wp2_with ((first | go_at_call 70 | go_at_fn 70); refine (HC.out _).mono ?_; rintro e w2 ⟨rfl, hb2⟩; have HB2 := Lib.hid (Below_then HB.out hb2 (Nat.le_refl _)); clear hb2)
        go_roundw
        case rel => exact ⟨lo, m, rfl, rfl, by omega, by omega, H1.out, HN.out, HB2.out⟩
        case measure => simp [intOf]; omega
    · obtain rfl : hi = lo := by omega
      have HE := Lib.hid (below_of l x hi hhi H1.out (fun h => Int.not_lt.2 (H2.out hi h (Nat.le_refl _))))
      by_cases hn : hi < l.length
      · obtain ⟨b, o, rfl, hc0, hc1⟩ := (HS.out.below HB.out).getP hn
        have hh : hereP l x = decide (l[hi].1 = x) := by unfold hereP; rw [HE.out, getD_pc hn, decide_eq_true hn, Bool.true_and]
        have hnl := Int.not_lt.2 (H2.out hi hn (Nat.le_refl _))
        generalize l[hi] = p at *
        obtain ⟨a, t⟩ := p
        simp only at *
        by_cases hax : a = x
        · have HH := Lib.hid (show hereP l x = true by rw [hh]; exact decide_eq_true hax)
          have hcm : cmp3 a x = 0 := by unfold cmp3; rw [if_neg hnl, if_neg (by omega)]
          have hC := fun w => fpCmp_any a x t w
          rw [hcm] at hC
          have HC := Lib.hid hC
          clear hC hcm hh hax
          go_wp2_with ((first | go_at_call 70 | go_at_fn 70); refine (HC.out _).mono ?_; rintro e w2 ⟨rfl, hb2⟩; have HB2 := Lib.hid (Below_then HB.out hb2 (Nat.le_refl _)); clear hb2)
          go_ret2
          exact ⟨ret_two (by rw [HE.out]) (by rw [HH.out]), HB2.out⟩
        · have HH := Lib.hid (show hereP l x = false by rw [hh]; exact decide_eq_false hax)
          have hcm : (cmp3 a x == 0) = false := by unfold cmp3; rw [if_neg hnl, if_pos (by omega)]; rfl
          have hC := fun w => fpCmp_any a x t w
          generalize cmp3 a x = cv at *
          have HC := Lib.hid hC
          clear hC hh hax
          go_wp2_with ((first | go_at_call 70 | go_at_fn 70); refine (HC.out _).mono ?_; rintro e w2 ⟨rfl, hb2⟩; have HB2 := Lib.hid (Below_then HB.out hb2 (Nat.le_refl _)); clear hb2)
          go_ret2
          exact ⟨ret_two (by rw [HE.out]) (by rw [HH.out]), HB2.out⟩
      · have HH := Lib.hid (show hereP l x = false by unfold hereP; rw [HE.out, decide_eq_false hn]; rfl)
        go_wp2
        go_ret2
        exact ⟨ret_two (by rw [HE.out]) (by rw [HH.out]), HB.out⟩
set_option maxHeartbeats 4000000 in
set_option maxRecDepth 100000 in
theorem findPiece_any (A : Option Addr) (c : Nat) (l : List Pc) (x : Int) (w : World) (hs : Sl w encP 2 A l) (hl : l.length ≤ 16777216) (hso : Sorted l) :
    Calls Tryd.prog 52 #[.slice A l.length c, .int .i64 x] w (FpRes l x w) := by
  have HX := Lib.hid (fun w h => BSearch_any A c l x w h hl hso)
  have HS := Lib.hid hs
  clear hs hso
  unfold FpRes at *
  go_enter Tryd.func52, Tryd.ntmps52
  go_wp2_with fail
  refine (HX.out _ HS.out).mono ?_
  rintro e w1 ⟨rfl, hb⟩
  have HB := Lib.hid hb
  clear hb
  go_wp2
  go_ret2
  exact ⟨rfl, HB.out⟩
end Go.Proofs.YtaghiefokmapmaaDoor

/- PutText of the program, walked. -/
set_option linter.unusedVariables false
namespace Go.Proofs.YtaghiefokmapmaaDoor
open Go.RowKit
attribute [local go_sem] mk_toList

def PutRes (r : List Pc × Int × Bool) (w : World) (e : Ending) (w' : World) : Prop :=
  ∃ v, e = .returned (.tuple #[v, .int .i64 r.2.1, .bool r.2.2]) ∧ Own w' w.heap.size 44 2 encP v r.1 ∧ Below w.heap.size w w'
theorem InsertPc_any (base : Nat) (A : Option Addr) (c : Nat) (l : List Pc) (x : Pc) (i : Nat) (w : World) (vb : Nat) (hbase : base ≤ w.heap.size) (hown : Own w base 44 2 encP (.slice A l.length c) l)
    (hv : w.heap[vb]? = some (.cells #[.int .i64 x.1, .string x.2] 44 (0, 0))) (hne : ∀ g o, A = some ⟨g, o, none⟩ → vb ≠ g) (hi : i ≤ l.length) (hl : l.length ≤ 16777216) :
    Calls Tryd.prog 53 #[.slice A l.length c, .int .i64 (i : Nat), .slice (some ⟨vb, 0, none⟩) 1 1] w (InsRes base (l.take i ++ x :: l.drop i) w) := by
  by_cases e : i = l.length
  · subst e
    rw [← ins_end]
    exact Insert_end base _ l x w vb hbase hown hv hl
  · have h2 := hown.2
    rcases h2 with ⟨hv2, hn⟩ | ⟨g, cap, cur, hv2, hg, hh, hnc, hcm, hsz, ht⟩
    · omega
    · injection hv2 with e1 e2 e3
      subst e1 e3
      by_cases hr : l.length + 1 ≤ c
      · exact Insert_room base l x i w vb g c cur hbase hg hh hcm hsz ht hr hv (hne g 0 rfl) (by omega) hl
      · exact Insert_grow base l x i w vb g c cur hbase hg hh hnc ht (by omega) hv (by omega) hl
theorem Below_of_alloc2 {w2 w3 w4 : World} {x : Obj} (h3 : Below w2.heap.size w2 w3) (h4 : Below w2.heap.size (w3.alloc x) w4) : Below w2.heap.size w2 w4 := (h3.alloc h3.size x).trans h4
theorem ins_call {l : List Pc} {x : Pc} {B : Nat} {w0 w2 w3 : World} {X : Option Addr} {d : Nat} (hb2 : Below w0.heap.size w0 w2) (hown3 : Own w3 w2.heap.size 44 2 encP (.slice X l.length d) l) (hb3 : Below w2.heap.size w2 w3) (hB : B ≤ l.length) (hl : l.length ≤ 16777216) :
    Calls Tryd.prog 53 #[.slice X l.length d, .int .i64 (B : Nat), .slice (some ⟨w3.heap.size, 0, none⟩) 1 1] (w3.alloc (.cells #[.int .i64 x.1, .string x.2] 44)) fun e w' => ∃ v', e = .returned v' ∧ Own w' w0.heap.size 44 2 encP v' (l.take B ++ x :: l.drop B) ∧ Below w0.heap.size w0 w' :=
  (InsertPc_any w2.heap.size X d l x B _ w3.heap.size (Nat.le_trans hb3.size (by simp)) (hown3.alloc _) (heap_alloc_new w3 _) (by
    rintro g o rfl
    have := hown3.blk g rfl
    omega) hB hl).mono fun e w' ⟨v', he, ho, hb⟩ => ⟨v', he, ho.mono hb2.size, Below_then hb2 (Below_of_alloc2 hb3 hb) (Nat.le_refl _)⟩
set_option maxHeartbeats 1000000 in
set_option maxRecDepth 100000 in
theorem iPutText_any (A : Option Addr) (c : Nat) (l : List Pc) (t : ByteArray) (w : World) (hs : Sl w encP 2 A l) (hcz : A = none → c = 0) (hl : l.length ≤ 16777216) (hf : FitP l) (ht : t.size ≤ 16777216) :
    Calls Tryd.prog 30 #[.slice A l.length c, .string t] w (PutRes (putT l t) w) := by
  have HS := Lib.hid hs
  have HCZ := Lib.hid hcz
  have hsv := fun w h => iStoreValid_any A c l w h hl hf
  have HCL := Lib.hid (fun w h => ClonePc_any A c l w h HCZ.out hl)
  have hTV := fun w => iTextValid_any t w ht
  unfold OwnRes at HCL
  cases hv : storeV l
  case false =>
    have E := Lib.hid (putT_bad (t := t) hv)
    rw [hv] at hsv
    have HSV := Lib.hid hsv
    clear hsv hs hcz hTV
    rw [E.out]
    unfold PutRes
    go_enter Tryd.func30, Tryd.ntmps30
    go_wp2_with fail
    refine (HSV.out _ HS.out).mono ?_
    rintro e w1 ⟨rfl, hb⟩
    have HB := Lib.hid hb
    clear hb
    go_wp2
    go_ret3
    exact ⟨_, rfl, Own.nil, HB.out⟩
  case true =>
    rw [hv] at hsv
    have HSV := Lib.hid hsv
    clear hsv hs hcz
    cases htv : textV (bs t)
    case false =>
      have E := Lib.hid (putT_text (t := t) hv htv)
      rw [htv] at hTV
      have HTV := Lib.hid hTV
      clear hTV
      rw [E.out]
      unfold PutRes
      go_enter Tryd.func30, Tryd.ntmps30
      go_wp2_with (first
        | (go_at_call 16; refine (HSV.out _ HS.out).mono ?_; rintro e w1 ⟨rfl, hb⟩; have HB1 := Lib.hid hb; have HS1 := Lib.hid (HS.out.below hb); clear hb)
        | (go_at_call 34; refine (HTV.out _).mono ?_; rintro e w' ⟨rfl, rfl⟩)
        | (go_at_call 51; refine (HCL.out _ HS1.out).mono ?_; rintro e w2 ⟨v2, rfl, hown2, hb2⟩; have HW2 := Lib.hid hown2; have HB2 := Lib.hid (Below_then HB1.out hb2 (Nat.le_refl _)); clear hown2 hb2))
      go_ret3
      exact ⟨_, rfl, HW2.out.mono HB1.out.size, HB2.out⟩
    case true =>
      rw [htv] at hTV
      have HTV := Lib.hid hTV
      have hPO := fun w => iPrintOf_any t w ht
      have HFP := Lib.hid (fun w h => findPiece_any A c l (prOf (bs t)) w h hl (storeV_sorted hv))
      have hgh := getT_here (storeV_sorted hv) (p := prOf (bs t))
      have hbl := below_le l (prOf (bs t))
      have hl40 := storeV_len hv
      have H0 := Lib.hid (putT_there hv htv)
      have H1 := Lib.hid (fun u => putT_clash (u := u) hv htv)
      have H2 := Lib.hid (putT_full hv htv)
      have H3 := Lib.hid (putT_new hv htv)
      unfold FpRes at HFP
      unfold tx at H0 H1 H2 H3
      generalize prOf (bs t) = p at *
      have HPO := Lib.hid hPO
      clear hTV hPO
      cases hh : hereP l p
      case true =>
        rw [hh, if_pos rfl] at hgh
        have hlt : below l p < l.length := by unfold hereP at hh; simp at hh; exact hh.1
        rw [getD_pc hlt] at hgh
        rw [hh] at HFP
        have HG := Lib.hid (fun (w : World) (h : Sl w encP 2 A l) => h.getP hlt)
        generalize l[below l p] = q at *
        obtain ⟨q0, u⟩ := q
        simp only at *
        generalize below l p = B at *
        obtain ⟨b, o, rfl, _, _⟩ := HG.out w HS.out
        by_cases hu : u = t
        case pos =>
          have E := Lib.hid (H0.out (by rw [hgh, hu]))
          clear H0 H1 H2 H3
          subst hu
          rw [E.out]
          unfold PutRes
          go_enter Tryd.func30, Tryd.ntmps30
          go_wp2_with (first
            | (go_at_call 16; refine (HSV.out _ HS.out).mono ?_; rintro e w1 ⟨rfl, hb⟩; have HB1 := Lib.hid hb; have HS1 := Lib.hid (HS.out.below hb); clear hb)
            | (go_at_call 34; refine (HTV.out _).mono ?_; rintro e w' ⟨rfl, rfl⟩)
            | (go_at_call 35; refine (HPO.out _).mono ?_; rintro e w' ⟨rfl, rfl⟩)
            | (go_at_call 52; refine (HFP.out _ HS1.out).mono ?_; rintro e w2 ⟨rfl, hb2⟩; have HB2 := Lib.hid (Below_then HB1.out hb2 (Nat.le_refl _)); have HS2 := Lib.hid (HS1.out.below hb2); obtain ⟨b', o', e', hc0, hc1⟩ := HG.out _ HS2.out; have hbb : b' = b ∧ o' = o := (by injection e' with e'; injection e' with e1 e2; exact ⟨e1.symm, e2.symm⟩); obtain ⟨rfl, rfl⟩ := hbb; clear hb2 e')
            | (go_at_call 51; refine (HCL.out _ HS2.out).mono ?_; rintro e w3 ⟨v3, rfl, hown3, hb3⟩; have HW3 := Lib.hid hown3; have HB3 := Lib.hid (Below_then HB2.out hb3 (Nat.le_refl _));  clear hown3 hb3))
          go_ret3
          exact ⟨_, rfl, HW3.out.mono HB2.out.size, HB3.out⟩
        case neg =>
          have E := Lib.hid (H1.out u hgh hu)
          clear H0 H1 H2 H3
          have hne : (u.toList == t.toList) = false := by
            rw [ByteArray.toList_eq, ByteArray.toList_eq]
            rw [beq_eq_false_iff_ne]; intro e
            apply hu
            rw [← mk_bs u, ← mk_bs t, e]
          rw [E.out]
          unfold PutRes
          go_enter Tryd.func30, Tryd.ntmps30
          go_wp2_with (first
            | (go_at_call 16; refine (HSV.out _ HS.out).mono ?_; rintro e w1 ⟨rfl, hb⟩; have HB1 := Lib.hid hb; have HS1 := Lib.hid (HS.out.below hb); clear hb)
            | (go_at_call 34; refine (HTV.out _).mono ?_; rintro e w' ⟨rfl, rfl⟩)
            | (go_at_call 35; refine (HPO.out _).mono ?_; rintro e w' ⟨rfl, rfl⟩)
            | (go_at_call 52; refine (HFP.out _ HS1.out).mono ?_; rintro e w2 ⟨rfl, hb2⟩; have HB2 := Lib.hid (Below_then HB1.out hb2 (Nat.le_refl _)); have HS2 := Lib.hid (HS1.out.below hb2); obtain ⟨b', o', e', hc0, hc1⟩ := HG.out _ HS2.out; have hbb : b' = b ∧ o' = o := (by injection e' with e'; injection e' with e1 e2; exact ⟨e1.symm, e2.symm⟩); obtain ⟨rfl, rfl⟩ := hbb; clear hb2 e')
            | (go_at_call 51; refine (HCL.out _ HS2.out).mono ?_; rintro e w3 ⟨v3, rfl, hown3, hb3⟩; have HW3 := Lib.hid hown3; have HB3 := Lib.hid (Below_then HB2.out hb3 (Nat.le_refl _));  clear hown3 hb3))
          go_ret3
          exact ⟨_, rfl, HW3.out.mono HB2.out.size, HB3.out⟩
      case false =>
        rw [hh, if_neg (by simp)] at hgh
        rw [hh] at HFP
        by_cases h40 : l.length = 40
        case pos =>
          have E := Lib.hid (H2.out hgh h40)
          clear H0 H1 H2 H3
          rw [E.out]
          have h40' : (l.length : Int) = 40 := by omega
          generalize below l p = B at *
          clear hbl hl40 hv hh hgh h40
          unfold PutRes
          go_enter Tryd.func30, Tryd.ntmps30
          go_wp2_with (first
            | (go_at_call 16; refine (HSV.out _ HS.out).mono ?_; rintro e w1 ⟨rfl, hb⟩; have HB1 := Lib.hid hb; have HS1 := Lib.hid (HS.out.below hb); clear hb)
            | (go_at_call 34; refine (HTV.out _).mono ?_; rintro e w' ⟨rfl, rfl⟩)
            | (go_at_call 35; refine (HPO.out _).mono ?_; rintro e w' ⟨rfl, rfl⟩)
            | (go_at_call 52; refine (HFP.out _ HS1.out).mono ?_; rintro e w2 ⟨rfl, hb2⟩; have HB2 := Lib.hid (Below_then HB1.out hb2 (Nat.le_refl _)); have HS2 := Lib.hid (HS1.out.below hb2); clear hb2)
            | (go_at_call 51; refine (HCL.out _ HS2.out).mono ?_; rintro e w3 ⟨v3, rfl, hown3, hb3⟩; have HW3 := Lib.hid hown3; have HB3 := Lib.hid (Below_then HB2.out hb3 (Nat.le_refl _));  clear hown3 hb3))
          go_ret3
          exact ⟨_, rfl, HW3.out.mono HB2.out.size, HB3.out⟩
        case neg =>
          have E := Lib.hid (H3.out hgh h40)
          clear H0 H1 H2 H3
          rw [E.out]
          have h40' : ¬ (l.length : Int) = 40 := by omega
          generalize below l p = B at *
          clear hv hh hgh
          unfold PutRes
          go_enter Tryd.func30, Tryd.ntmps30
          go_wp2_with (first
            | (go_at_call 16; refine (HSV.out _ HS.out).mono ?_; rintro e w1 ⟨rfl, hb⟩; have HB1 := Lib.hid hb; have HS1 := Lib.hid (HS.out.below hb); clear hb)
            | (go_at_call 34; refine (HTV.out _).mono ?_; rintro e w' ⟨rfl, rfl⟩)
            | (go_at_call 35; refine (HPO.out _).mono ?_; rintro e w' ⟨rfl, rfl⟩)
            | (go_at_call 52; refine (HFP.out _ HS1.out).mono ?_; rintro e w2 ⟨rfl, hb2⟩; have HB2 := Lib.hid (Below_then HB1.out hb2 (Nat.le_refl _)); have HS2 := Lib.hid (HS1.out.below hb2); clear hb2)
            | (go_at_call 51; refine (HCL.out _ HS2.out).mono ?_; rintro e w3 ⟨v3, rfl, hown3, hb3⟩; have HW3 := Lib.hid hown3; have HB3 := Lib.hid (Below_then HB2.out hb3 (Nat.le_refl _)); obtain ⟨X, d3, rfl, _, _, hX3⟩ := hown3.sl; have hb3z := Lib.hid hb3.size; have hb3y := Lib.hid hb3; clear hown3 hb3)
            | (go_at_call 53; refine (ins_call (x := (p, t)) HB2.out HW3.out hb3y.out hbl hl).mono ?_; rintro e w4 ⟨v4, rfl, hown4, hb4⟩; have HW4 := Lib.hid hown4; have HB4 := Lib.hid hb4; clear hown4 hb4))
          go_ret3
          exact ⟨_, rfl, HW4.out, HB4.out⟩
end Go.Proofs.YtaghiefokmapmaaDoor

/- Regions that draw their order, by an invariant: one case for each operation, whatever came before it. -/
set_option linter.unusedVariables false
namespace Go.Proofs.YtaghiefokmapmaaDoor
open Go.RowKit

/-- Each operation waits for earlier ones alone. -/
def afterLow (l : List Oper) : Bool := (List.range l.length).all fun i => ((l[i]?).map fun o => o.after.all fun e => !Region.binds .any e || decide (e.on < i)).getD true
/-- What is asked of each operation: from the invariant to the invariant. -/
def InvSteps (P : Program) (ops : Array Oper) (Q : Exit → Act → World → Prop) (J : (Nat → Bool) → Act → World → Prop) : Nat → List Oper → Prop
  | _, [] => True
  | i, o :: r => (∀ (d : Nat → Bool) (a : Act) (w : World) (K : Act → World → Prop), d i = false → (∀ e ∈ o.after, Region.binds .any e = true → d e.on = true) → J d a w → (∀ a' w', J (fun j => j == i || d j) a' w' → K a' w') →
      if Region.wanted o (yielded ops a.tmps) = true then o.wp P a w K Q else K (a.put o.dst undef) w) ∧ InvSteps P ops Q J (i + 1) r
theorem InvSteps.at {P : Program} {ops : Array Oper} {Q : Exit → Act → World → Prop} {J : (Nat → Bool) → Act → World → Prop} : ∀ (l : List Oper) (k i : Nat) (o : Oper), InvSteps P ops Q J k l → l[i]? = some o →
    ∀ (d : Nat → Bool) (a : Act) (w : World) (K : Act → World → Prop), d (k + i) = false → (∀ e ∈ o.after, Region.binds .any e = true → d e.on = true) → J d a w → (∀ a' w', J (fun j => j == k + i || d j) a' w' → K a' w') →
      if Region.wanted o (yielded ops a.tmps) = true then o.wp P a w K Q else K (a.put o.dst undef) w
  | [], _, _, _, _, h => by simp at h
  | x :: r, k, 0, o, hs, h => by
    simp at h; subst h; exact hs.1
  | x :: r, k, i + 1, o, hs, h => by
    have h1 := InvSteps.at r (k + 1) i o hs.2 (by simpa using h)
    have e : k + 1 + i = k + (i + 1) := by omega
    rw [e] at h1; exact h1
theorem dn_set {listed : Array Bool} {i : Nat} (hi : i < listed.size) : (fun j => (listed.setIfInBounds i true).getD j false) = fun j => j == i || listed.getD j false := by
  funext j
  by_cases e : j = i
  · subst e; simp [hi]
  · have hij : i ≠ j := fun h => e h.symm
    rw [getD_set_ne false hij]; simp [e]
theorem count_set {n : Nat} {listed : Array Bool} {i : Nat} (hs : listed.size = n) (hi : i < n) (h : listed.getD i false = false) :
    (List.range n).countP (fun j => !(listed.setIfInBounds i true).getD j false) + 1 = (List.range n).countP (fun j => !listed.getD j false) := by
  have hf := dn_set (listed := listed) (i := i) (by omega)
  have e : (fun j => !(listed.setIfInBounds i true).getD j false) = fun j => !(j == i || listed.getD j false) := by
    funext j; exact congrArg (fun b => !b) (congrFun hf j)
  rw [e]
  have aux : ∀ l : List Nat, l.Nodup → i ∈ l → l.countP (fun j => !(j == i || listed.getD j false)) + 1 = l.countP (fun j => !listed.getD j false) := by
    intro l
    induction l with
    | nil => intro _ hm; simp at hm
    | cons x r ih =>
      intro hnd hm
      rw [List.nodup_cons] at hnd
      rw [List.countP_cons, List.countP_cons]
      by_cases hx : x = i
      · subst hx
        have hr : r.countP (fun j => !(j == x || listed.getD j false)) = r.countP (fun j => !listed.getD j false) := by
          refine List.countP_congr fun y hy => ?_
          have : y ≠ x := fun e => hnd.1 (e ▸ hy)
          simp [this]
        rw [hr]; simp [h]
      · have hm' : i ∈ r := by
          rcases List.mem_cons.1 hm with e | e
          · exact absurd e.symm hx
          · exact e
        have := ih hnd.2 hm'
        have e2 : (x == i) = false := by simpa using hx
        simp only [e2, Bool.false_or]
        omega
  exact aux _ List.nodup_range (List.mem_range.2 hi)
theorem wpAny_inv {P : Program} {l : List Oper} {Q : Exit → Act → World → Prop} (J : (Nat → Bool) → Act → World → Prop) (hlow : afterLow l = true) (hs : InvSteps P l.toArray Q J 0 l)
    (hend : ∀ d a w, (∀ i, i < l.length → d i = true) → J d a w → Q .normal a w) :
    ∀ (fuel : Nat) (listed : Array Bool) (a : Act) (w : World), listed.size = l.length → (List.range l.length).countP (fun j => !listed.getD j false) ≤ fuel → J (fun j => listed.getD j false) a w → wpAny P .any l.toArray Q fuel listed a w := by
  have hbinds : ∀ e, Region.binds .any e = true ∨ Region.binds .any e = false := fun e => by cases Region.binds .any e <;> simp
  -- where nothing can come up, all has come up
  have hall : ∀ listed : Array Bool, listed.size = l.length → Region.ready .any l.toArray listed = [] → ∀ i, i < l.length → listed.getD i false = true := by
    intro listed hsz hr i
    induction i using Nat.strongRecOn with
    | _ i ih =>
      intro hi
      by_cases h : listed.getD i false = true
      · exact h
      · exfalso
        have hm : i ∈ Region.ready .any l.toArray listed := by
          rw [mem_ready]
          refine ⟨?_, l[i], by simp [hi], fun e he hbe => ?_⟩
          · have hh : listed.getD i false = false := by simpa using h
            rw [Array.getD_eq_getD_getElem?, Array.getElem?_eq_getElem (by omega)] at hh ⊢; simpa using hh
          · unfold afterLow at hlow
            rw [List.all_eq_true] at hlow
            have h1 := hlow i (List.mem_range.2 hi)
            rw [List.getElem?_eq_getElem hi] at h1
            simp only [Option.map_some, Option.getD_some] at h1
            have h3 := Array.all_eq_true_iff_forall_mem.1 h1 e he
            rw [hbe, Bool.not_true, Bool.false_or] at h3
            have h2 := of_decide_eq_true h3
            exact ih _ h2 (by omega)
        rw [hr] at hm; simp at hm
  intro fuel
  induction fuel with
  | zero =>
    intro listed a w hsz hc hJ
    have hz : ∀ i, i < l.length → listed.getD i false = true := by
      intro i hi
      have h0 : (List.range l.length).countP (fun j => !listed.getD j false) = 0 := by omega
      rw [List.countP_eq_zero] at h0
      simpa using h0 i (List.mem_range.2 hi)
    refine ⟨?_, hend _ a w hz hJ⟩
    cases hr : Region.ready .any l.toArray listed with
    | nil => rfl
    | cons x r =>
      exfalso
      have hm : x ∈ Region.ready .any l.toArray listed := by rw [hr]; simp
      rw [mem_ready] at hm
      obtain ⟨h1, o, ho, _⟩ := hm
      have hx : x < l.length := by
        have := (Array.getElem?_eq_some_iff.1 ho).1; simpa using this
      have h2 := hz x hx
      rw [Array.getD_eq_getD_getElem?, Array.getElem?_eq_getElem (by omega)] at h1 h2
      simp at h1 h2; rw [h1] at h2; cases h2
  | succ fuel ih =>
    intro listed a w hsz hc hJ
    refine ⟨fun hr => hend _ a w (hall listed hsz hr) hJ, fun i hi => ?_⟩
    rw [mem_ready] at hi
    obtain ⟨h1, o, ho, haft⟩ := hi
    have hx : i < l.length := by
      have := (Array.getElem?_eq_some_iff.1 ho).1; simpa using this
    have hd : listed.getD i false = false := by
      rw [Array.getD_eq_getD_getElem?, Array.getElem?_eq_getElem (by omega)] at h1 ⊢; simpa using h1
    have hlo : l[i]? = some o := by simpa using ho
    have hcnt := count_set hsz hx hd
    have hstep := InvSteps.at l 0 i o hs hlo (fun j => listed.getD j false) a w (wpAny P .any l.toArray Q fuel (listed.setIfInBounds i true)) (by simpa using hd) haft hJ (fun a' w' hJ' => by
      refine ih _ a' w' (by simpa using hsz) (by omega) ?_
      rw [dn_set (by omega)]
      simpa using hJ')
    unfold wpOp
    simp only [ho]
    split
    · rename_i hw; rw [if_pos hw] at hstep; exact .inl hstep
    · rename_i hw; rw [if_neg hw] at hstep; exact hstep
/-- **A region that draws its order, by an invariant**: 'd' says which operations have come up. -/
theorem wp_region_inv {P : Program} {id : Nat} {Q : Exit → Act → World → Prop} {a : Act} {w : World} {l : List Oper} (hm : P.follows .mixedOrders = true) (hlow : afterLow l = true)
    (J : Act → (Nat → Bool) → Act → World → Prop) (h0 : J a (fun _ => false) a w.drew) (hs : InvSteps P l.toArray Q (J a) 0 l) (hend : ∀ d a' w', (∀ i, i < l.length → d i = true) → J a d a' w' → Q .normal a' w') :
    (Code.region id l.toArray true).wp P Q a w := by
  refine wp_region_any hm (wpAny_inv (J a) hlow hs hend _ _ _ _ (by simp) ?_ ?_)
  · refine Nat.le_trans List.countP_le_length ?_; simp
  · have e : (fun j => (Array.replicate l.toArray.size false).getD j false) = fun _ => false := by
      funext j
      rw [Array.getD_eq_getD_getElem?, Array.getElem?_replicate]
      split <;> rfl
    rw [e]; exact h0
end Go.Proofs.YtaghiefokmapmaaDoor

/- 'append' of one element onto a row of the call's own, telling what else stayed and where the new row lies. -/
set_option linter.unusedVariables false
namespace Go.Proofs.YtaghiefokmapmaaDoor
open Go.RowKit

/-- v' owns no block that was there and that v did not own. -/
def Kin (v : Value) (wr : World) (v' : Value) : Prop := ∀ b, b < wr.heap.size → v.ownBlock ≠ some b → v'.ownBlock ≠ some b
def LtA (A : Option Addr) (n : Nat) : Prop := ∀ b o, A = some ⟨b, o, none⟩ → b < n
theorem Apart.kin {A : Option Addr} {v v' : Value} {wr : World} (h : Apart A v) (hA : LtA A wr.heap.size) (hk : Kin v wr v') : Apart A v' := fun b o e => hk b (hA b o e) (h b o e)
theorem LtA.mono {A : Option Addr} {m n : Nat} (h : LtA A m) (hmn : m ≤ n) : LtA A n := fun b o e => Nat.lt_of_lt_of_le (h b o e) hmn
theorem Own.ltA {α : Type} {enc : α → List Value} {w : World} {base size : Nat} {E : TypeId} {A : Option Addr} {n c : Nat} {l : List α} (h : Own w base E size enc (.slice A n c) l) : LtA A w.heap.size := by
  obtain ⟨A', c', e, _, _, hg⟩ := h.sl
  injection e with e1 _ _
  subst e1
  intro b o e
  rcases hg with ⟨_, h⟩ | ⟨g, h, _, hlt⟩
  · rw [h] at e; cases e
  · rw [h] at e; injection e with e; injection e with e1 _; omega
theorem Own.apart {α : Type} {enc : α → List Value} {w : World} {base size : Nat} {E : TypeId} {A : Option Addr} {n c : Nat} {l : List α} (h : Own w base E size enc (.slice A n c) l) {v : Value} (hv : ∀ g, v.ownBlock = some g → g < base) : Apart A v := by
  obtain ⟨A', c', e, _, _, hg⟩ := h.sl
  injection e with e1 _ _
  subst e1
  intro b o e hb
  have := hv b hb
  rcases hg with ⟨_, h⟩ | ⟨g, h, hlo, hlt⟩
  · rw [h] at e; cases e
  · rw [h] at e; injection e with e; injection e with e1 _; omega
theorem wpList_app3 {P : Program} {α : Type} {enc : α → List Value} {ops : Array Oper} {rest : List Oper} {o : Oper} {a : Act} {Q : Exit → Act → World → Prop} {w0 wr : World} {B base size bytes : Nat} {t E : TypeId} {i : TypeInfo} {z : Value} {v : Value} {l : List α}
    (ht : P.underlying t = some (.slice E)) (hi : P.info? E = some i) (hz : i.zero = some z) (hsize : i.size = size) (hby : i.bytes = bytes) (hzs : z.cells.size = size) (hsz : 0 < size) (hb200 : bytes ≤ 256)
    (hgd : o.guard = none) (s x : Operand) (ho : o.op = .call { callee := .builtin .append, args := #[s, x], argTypes := #[t, t] })
    (hs : a.eval s = v) (hx : a.eval x = .slice (some ⟨wr.heap.size, 0, none⟩) 1 1)
    (hown : Own wr base E size enc v l) (hb : Below B w0 wr) (hB : B ≤ base) (hbase : base ≤ wr.heap.size) (hn : l.length ≤ 16777216) (y : α) (cells : Array Value) (hcl : cells = (enc y).toArray) (hce : (enc y).length = size) (h1 : ∀ u ∈ enc y, u.oneCell' = true)
    (h : ∀ v' w', Own w' base E size enc v' (l ++ [y]) → Below B w0 w' → Grew v wr w' → Kin v wr v' → wpList P ops Q rest (a.put o.dst v') w') : wpList P ops Q (o :: rest) a (wr.alloc (.cells cells E)) := by
  subst hcl
  refine wpList_append_own_at _ hgd s x t ho base E i z size bytes ht hi hz hsize hby hzs hsz v l.length (flat enc l) hs (World.ownsRow.alloc hown _) ⟨wr.heap.size, 0, none⟩ 1 1 (enc y) hx (by rw [hce, Nat.one_mul]) ?_ h1 ?_ ?_ ?_ ?_
  · intro j u hu
    have hadd : (⟨wr.heap.size, 0, none⟩ : Addr).add j = ⟨wr.heap.size, j, none⟩ := by unfold Addr.add; split <;> simp_all
    rw [hadd, cell_of_row _ _ j _ E (0, 0) (heap_alloc_new wr _)]
    simpa using hu
  · unfold maxLen; omega
  · have := Nat.mul_le_mul_left (l.length + 1) hb200; omega
  · simp; omega
  · intro v' w' hown' hg _ hat
    refine h v' w' ?_ ((hb.alloc (Nat.le_trans hB hbase) _).grown hg (by simp; omega) (fun k hk => ?_)) ?_ ?_
    · show w'.ownsRow base E size v' (l ++ [y]).length (flat enc (l ++ [y]))
      rw [flat_snoc, List.length_append]; exact hown'
    · exact Nat.le_trans hB (World.ownsRow.lt hown k hk).1
    · exact ⟨hg.os, hg.tape, hg.output, Nat.le_trans (by simp) hg.size, fun k hk hne => (hg.block k (by simp; omega) hne).trans (Below.heap_alloc wr _ k hk)⟩
    · intro b hb2 hne hv'
      rcases hat with hat | hat
      · exact hne (hat ▸ hv')
      · rw [hat] at hv'; injection hv' with e; simp at e; omega
section
variable {ops : Array Oper} {rest : List Oper} {o : Oper} {a : Act} {Q : Exit → Act → World → Prop} {w0 wr : World} {v : Value}
theorem app_str3 {l : List ByteArray} {y : ByteArray} {s x : Operand} (hgd : o.guard = none) (ho : o.op = .call { callee := .builtin .append, args := #[s, x], argTypes := #[25, 25] })
    (hs : a.eval s = v) (hx : a.eval x = .slice (some ⟨wr.heap.size, 0, none⟩) 1 1)
    (hown : Own wr w0.heap.size 9 1 encS v l) (hb : Below w0.heap.size w0 wr) (hn : l.length ≤ 16777216)
    (h : ∀ v' w', Own w' w0.heap.size 9 1 encS v' (l ++ [y]) → Below w0.heap.size w0 w' → Grew v wr w' → Kin v wr v' → wpList Tryd.prog ops Q rest (a.put o.dst v') w') :
    wpList Tryd.prog ops Q (o :: rest) a (wr.alloc (.cells #[.string y] 9)) := by
  obtain ⟨i0, hi0, hz0, hz1, hz2⟩ := info_parts str_info
  exact wpList_app3 Tryd.underlying25 hi0 hz0 hz1 hz2 rfl (by decide) (by decide) hgd s x ho hs hx hown hb (Nat.le_refl _) hb.size hn y _ rfl rfl (by intro u hu; simp [encS] at hu; subst hu; rfl) h
theorem app_pc3 {l : List Pc} {y : Pc} {s x : Operand} (hgd : o.guard = none) (ho : o.op = .call { callee := .builtin .append, args := #[s, x], argTypes := #[23, 23] })
    (hs : a.eval s = v) (hx : a.eval x = .slice (some ⟨wr.heap.size, 0, none⟩) 1 1)
    (hown : Own wr w0.heap.size 44 2 encP v l) (hb : Below w0.heap.size w0 wr) (hn : l.length ≤ 16777216)
    (h : ∀ v' w', Own w' w0.heap.size 44 2 encP v' (l ++ [y]) → Below w0.heap.size w0 w' → Grew v wr w' → Kin v wr v' → wpList Tryd.prog ops Q rest (a.put o.dst v') w') :
    wpList Tryd.prog ops Q (o :: rest) a (wr.alloc (.cells #[.int .i64 y.1, .string y.2] 44)) := by
  obtain ⟨i0, hi0, hz0, hz1, hz2⟩ := info_parts pc_info
  exact wpList_app3 Tryd.underlying23 hi0 hz0 hz1 hz2 rfl (by decide) (by decide) hgd s x ho hs hx hown hb (Nat.le_refl _) hb.size hn y _ rfl rfl (oneP y) h
end
end Go.Proofs.YtaghiefokmapmaaDoor
