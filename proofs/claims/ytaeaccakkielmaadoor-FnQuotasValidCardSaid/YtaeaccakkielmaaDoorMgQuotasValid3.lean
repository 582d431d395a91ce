/- Written by merge.py: Rh, Jp, Rw, Pp, Qv, Dq2, Wp, Ws, Shelf, Mx, Ct, Rf, En, Be, Tr, Tr2, Tp, Tr3, Pr, Sto. -/
import Derived.Lib.Split
import Derived.Shelf.Strings.Builder1
import Derived.Shelf.Strings.Builder2
import Derived.Shelf.Strings.OnBuilder
import Derived.Shelf.Small.Wraps
import Derived.Shelf.Strings.BuilderF
import Derived.Shelf.Strings.Search1
import Derived.Shelf.Strings.Search2
import Derived.Shelf.Strings.Search3
import Derived.Shelf.Strings.Cut
import Derived.Shelf.Strings.Count
import Derived.Shelf.LaysM
import Derived.Shelf.Strings.Shaped
import Derived.Shelf.Strings.Prefix
import Derived.Shelf.Strings.Split
import Derived.Shelf.Unicode.Decode
import Derived.Shelf.Strings.RuneCount
import Derived.Shelf.Strings.Explode
import Derived.Shelf.Unicode.DecodeSlow
import Derived.Test.YtaeaccakkielmaaDoorProg
import Derived.Lib.IndexBytes
import Derived.Shelf.Abstract
import Derived.Test.YtaeaccakkielmaaDoorMgQuotasValid2
/- ReadHex, walked. -/
set_option linter.unusedVariables false
namespace Go.Proofs.YtaeaccakkielmaaDoor
open Go.RowKit
theorem hexV_dig {c : UInt8} (h1 : 48 ≤ (c.toNat : Int)) (h2 : (c.toNat : Int) ≤ 57) : hexV c = some (c.toNat - 48) := by
  unfold hexV digitC; rw [inI_true ⟨h1, h2⟩]; rfl
theorem hexV_let {c : UInt8} (h1 : 97 ≤ (c.toNat : Int)) (h2 : (c.toNat : Int) ≤ 102) : hexV c = some (c.toNat - 87) := by
  unfold hexV digitC; rw [inI_false (by omega), inI_true ⟨h1, h2⟩]; rfl
theorem hexV_no {c : UInt8} (h1 : ¬ (48 ≤ (c.toNat : Int) ∧ (c.toNat : Int) ≤ 57)) (h2 : ¬ (97 ≤ (c.toNat : Int) ∧ (c.toNat : Int) ≤ 102)) : hexV c = none := by
  unfold hexV digitC; rw [inI_false h1, inI_false h2]; rfl
theorem take_bs (s : ByteArray) : (bs s).take s.size = bs s := List.take_of_length_le (by rw [size_bs]; omega)
theorem eq_tlx (a b : ByteArray) : (a.toList == b.toList) = (bs a == bs b) := by rw [ByteArray.toList_eq, ByteArray.toList_eq]
theorem ne_tl {s : ByteArray} (h : 1 ≤ s.size) : ¬ s.toList = [] ∧ s.toList.isEmpty = false := by
  have hl : s.toList.length = s.size := by rw [ByteArray.toList_eq]; exact size_bs s
  cases hs : s.toList with
  | nil => rw [hs] at hl; simp at hl; omega
  | cons _ _ => exact ⟨by simp, rfl⟩
theorem nil_tl {s : ByteArray} (h : s.size = 0) : s.toList = [] := by
  have hl : s.toList.length = s.size := by rw [ByteArray.toList_eq]; exact size_bs s
  exact List.eq_nil_of_length_eq_zero (by omega)
theorem eq_of_tl {a b : ByteArray} {x : Bool} (h : (a.toList == b.toList) = x) : (bs a == bs b) = x := by rw [ByteArray.toList_eq, ByteArray.toList_eq] at h; exact h
theorem rh_step {s : ByteArray} {k n d : Nat} (hk : k < s.size) (hh : hexN 0 ((bs s).take k) = some n) (hv : hexV s[k] = some d) : hexN 0 ((bs s).take (k + 1)) = some (16 * n + d) := by
  have hk' : k < (bs s).length := by rw [size_bs]; exact hk
  rw [hexN_snoc hk' hh]
  have e : (bs s)[k] = s[k] := rfl
  rw [e, hv]; rfl
theorem rh_bad {s : ByteArray} {k n : Nat} (hk : k < s.size) (hh : hexN 0 ((bs s).take k) = some n) (hv : hexV s[k] = none) : readH (bs s) = -1 :=
  readH_char (k := k) (by rw [size_bs]; exact hk) hh hv
set_option maxHeartbeats 2000000 in
set_option maxRecDepth 100000 in
theorem iReadHex_any (s : ByteArray) (w : World) (hs : s.size ≤ 16777216) (ht : TzL w) :
    Calls Tryd.prog 40 #[.string s] w fun e w' => e = .returned (.int .i64 (readH (bs s))) ∧ Below w.heap.size w w' := by
  have HT := Lib.hid ht
  clear ht
  by_cases h1 : 1 ≤ s.size
  case neg =>
    have E := Lib.hid (show readH (bs s) = -1 by unfold readH; rw [if_neg (by rw [size_bs]; omega)])
    have h1' : (s.size : Int) < 1 := by omega
    rw [E.out]
    go_enter Tryd.func40, Tryd.ntmps40
    go_wp2
    go_ret
    exact ⟨rfl, Below.refl _ _⟩
  have h1' : ¬ (s.size : Int) < 1 := by omega
  by_cases h6 : s.size ≤ 6
  case neg =>
    have E := Lib.hid (show readH (bs s) = -1 from readH_long (by rw [size_bs]; omega))
    have h6' : ¬ (s.size : Int) ≤ 6 := by omega
    rw [E.out]
    go_enter Tryd.func40, Tryd.ntmps40
    go_wp2
    go_ret
    exact ⟨rfl, Below.refl _ _⟩
  go_enter Tryd.func40, Tryd.ntmps40
  go_wp2_with fail
  go_loop [3, 4] (fun v i => ∃ (k n : Nat), k ≤ s.size ∧ i = .int .i64 k ∧ v = .int .i64 n ∧ n < 16 ^ k ∧ n ≤ 16777216 ∧ Hid (hexN 0 ((bs s).take k) = some n)) (fun _ i => s.size - (intOf i).toNat)
  case atStart => exact ⟨0, 0, Nat.zero_le _, rfl, rfl, by simp, by omega, rfl⟩
  case round =>
    obtain ⟨k, n, hk, rfl, rfl, hn, hn2, HH⟩ := hrel
    by_cases hlt : k < s.size
    · have hby := s[k].toNat_lt
      have HST := Lib.hid (fun d (h : hexV s[k] = some d) => rh_step hlt HH.out h)
      have HBD := Lib.hid (fun (h : hexV s[k] = none) => rh_bad hlt HH.out h)
      have HP := Lib.hid (fun d (hd : d < 16) => (show 16 * n + d < 16 ^ (k + 1) ∧ 16 * n + d ≤ 16777216 by
        have e1 : (16 : Nat) ^ (k + 1) = 16 ^ k * 16 := Nat.pow_succ ..
        have e2 : (16 : Nat) ^ (k + 1) ≤ 16 ^ 6 := Nat.pow_le_pow_right (by omega) (by omega)
        have e3 : (16 : Nat) ^ 6 = 16777216 := by decide
        omega))
      clear hn
      by_cases hd : 48 ≤ (s[k].toNat : Int) ∧ (s[k].toNat : Int) ≤ 57
      · obtain ⟨hd1, hd2⟩ := hd
        have hs2 : inI s[k].toNat 48 57 = true := inI_true ⟨hd1, hd2⟩
        have HN := Lib.hid (HST.out _ (hexV_dig hd1 hd2))
        have HNP := Lib.hid (HP.out (s[k].toNat - 48) (by omega))
        go_wp2_with (go_at_call 53; refine (iisDigit_any _ _).mono ?_; rintro e w' ⟨rfl, rfl⟩)
        go_round
        case rel => exact ⟨k + 1, 16 * n + (s[k].toNat - 48), by omega, by go_num, int_eq (by omega), HNP.out.1, HNP.out.2, HN.out⟩
        case measure => simp [intOf]; omega
      · have hs2 : inI s[k].toNat 48 57 = false := inI_false hd
        by_cases hl : 97 ≤ (s[k].toNat : Int)
        · by_cases hl2 : (s[k].toNat : Int) ≤ 102
          · have HN := Lib.hid (HST.out _ (hexV_let hl hl2))
            have HNP := Lib.hid (HP.out (s[k].toNat - 87) (by omega))
            clear hd
            go_wp2_with (go_at_call 53; refine (iisDigit_any _ _).mono ?_; rintro e w' ⟨rfl, rfl⟩)
            go_round
            case rel => exact ⟨k + 1, 16 * n + (s[k].toNat - 87), by omega, by go_num, int_eq (by omega), HNP.out.1, HNP.out.2, HN.out⟩
            case measure => simp [intOf]; omega
          · have HE := Lib.hid (HBD.out (hexV_no hd (fun h => hl2 h.2)))
            clear hd
            go_wp2_with (go_at_call 53; refine (iisDigit_any _ _).mono ?_; rintro e w' ⟨rfl, rfl⟩)
            go_ret
            exact ⟨ret_int HE.out.symm, Below.refl _ _⟩
        · have HE := Lib.hid (HBD.out (hexV_no hd (fun h => hl h.1)))
          clear hd
          go_wp2_with (go_at_call 53; refine (iisDigit_any _ _).mono ?_; rintro e w' ⟨rfl, rfl⟩)
          go_ret
          exact ⟨ret_int HE.out.symm, Below.refl _ _⟩
    · have hfull : hexN 0 (bs s) = some n := by have := HH.out; rwa [show k = s.size by omega, take_bs] at this
      have HO := Lib.hid (fun (h : hexT n = bs s) => readH_ok (by rw [size_bs]; omega) hfull h)
      have HNO := Lib.hid (fun (h : hexT n ≠ bs s) => readH_no hfull h)
      have HX := Lib.hid (iHexText_any (n : Int) w HT.out)
      clear hfull hn
      by_cases he : hexT (n : Int) = bs s
      · have HE := Lib.hid (HO.out he)
        have heq : ((mk (hexT (n : Int))).toList == s.toList) = true := by rw [eq_tlx]; exact beq_iff_eq.2 he
        clear he
        go_wp2_with fail
        refine HX.out.mono ?_
        rintro e w1 ⟨rfl, hb⟩
        have HB := Lib.hid hb
        clear hb
        go_wp2
        go_ret
        exact ⟨ret_int HE.out.symm, HB.out⟩
      · have HE := Lib.hid (HNO.out he)
        have heq : ((mk (hexT (n : Int))).toList == s.toList) = false := by rw [eq_tlx]; exact beq_eq_false_iff_ne.2 he
        clear he
        go_wp2_with fail
        refine HX.out.mono ?_
        rintro e w1 ⟨rfl, hb⟩
        have HB := Lib.hid hb
        clear hb
        go_wp2
        go_ret
        exact ⟨ret_int HE.out.symm, HB.out⟩
set_option maxHeartbeats 2000000 in
set_option maxRecDepth 100000 in
theorem sReadHex_any (s : ByteArray) (w : World) (hs : s.size ≤ 16777216) :
    Calls Tryd.prog 43 #[.string s] w fun e w' => e = .returned (.int .i64 (readH (bs s))) ∧ w = w' := by
  go_enter Tryd.func43, Tryd.ntmps43
  go_wp2_with fail
  go_loop [3, 4] (fun v i => ∃ (k n : Nat), k ≤ s.size ∧ k ≤ 7 ∧ i = .int .i64 k ∧ v = .int .i64 n ∧ n < 16 ^ k ∧ n ≤ 268435456 ∧ Hid (hexN 0 ((bs s).take k) = some n)) (fun _ i => s.size - (intOf i).toNat)
  case atStart => exact ⟨0, 0, Nat.zero_le _, by omega, rfl, rfl, by simp, by omega, rfl⟩
  case round =>
    obtain ⟨k, n, hk, hk7, rfl, rfl, hn, hn2, HH⟩ := hrel
    by_cases hlt : k < s.size ∧ k < 7
    · obtain ⟨hlt, hlt7⟩ := hlt
      have hlt' : decide ((k : Int) < (s.size : Int)) = true := decide_eq_true (by omega)
      have hby := s[k].toNat_lt
      have HST := Lib.hid (fun d (h : hexV s[k] = some d) => rh_step hlt HH.out h)
      have HBD := Lib.hid (fun (h : hexV s[k] = none) => rh_bad hlt HH.out h)
      have HP := Lib.hid (fun d (hd : d < 16) => (show 16 * n + d < 16 ^ (k + 1) ∧ 16 * n + d ≤ 268435456 by
        have e1 : (16 : Nat) ^ (k + 1) = 16 ^ k * 16 := Nat.pow_succ ..
        have e2 : (16 : Nat) ^ (k + 1) ≤ 16 ^ 7 := Nat.pow_le_pow_right (by omega) (by omega)
        have e3 : (16 : Nat) ^ 7 = 268435456 := by decide
        omega))
      clear hn
      by_cases hd : 48 ≤ (s[k].toNat : Int)
      · by_cases hd2 : (s[k].toNat : Int) ≤ 57
        · have HN := Lib.hid (HST.out _ (hexV_dig hd hd2))
          have HNP := Lib.hid (HP.out (s[k].toNat - 48) (by omega))
          go_wp2
          go_round
          case rel => exact ⟨k + 1, 16 * n + (s[k].toNat - 48), by omega, by omega, by go_num, int_eq (by omega), HNP.out.1, HNP.out.2, HN.out⟩
          case measure => simp [intOf]; omega
        · by_cases hl : 97 ≤ (s[k].toNat : Int)
          · by_cases hl2 : (s[k].toNat : Int) ≤ 102
            · have HN := Lib.hid (HST.out _ (hexV_let hl hl2))
              have HNP := Lib.hid (HP.out (s[k].toNat - 87) (by omega))
              go_wp2
              go_round
              case rel => exact ⟨k + 1, 16 * n + (s[k].toNat - 87), by omega, by omega, by go_num, int_eq (by omega), HNP.out.1, HNP.out.2, HN.out⟩
              case measure => simp [intOf]; omega
            · have HE := Lib.hid (HBD.out (hexV_no (fun h => hd2 h.2) (fun h => hl2 h.2)))
              go_wp2
              go_ret
              exact ⟨ret_int HE.out.symm, rfl⟩
          · have HE := Lib.hid (HBD.out (hexV_no (fun h => hd2 h.2) (fun h => hl h.1)))
            go_wp2
            go_ret
            exact ⟨ret_int HE.out.symm, rfl⟩
      · have HE := Lib.hid (HBD.out (hexV_no (fun h => hd h.1) (fun h => hd (by omega))))
        go_wp2
        go_ret
        exact ⟨ret_int HE.out.symm, rfl⟩
    · have HX := Lib.hid (sHexText_any (n : Int) w)
      have HH7 := Lib.hid (show readH (bs s) = (n : Int) ∧ 1 ≤ s.size ∧ hexT (n : Int) = bs s ∨ readH (bs s) = -1 ∧ (s.size = 0 ∨ hexT (n : Int) ≠ bs s) by
        by_cases h0 : s.size = 0
        · right
          refine ⟨?_, .inl h0⟩
          unfold readH; rw [if_neg (by rw [size_bs]; omega)]
        · by_cases h7 : s.size ≤ 6
          · have hfull : hexN 0 (bs s) = some n := by have := HH.out; rwa [show k = s.size by omega, take_bs] at this
            by_cases he : hexT (n : Int) = bs s
            · exact .inl ⟨readH_ok (by rw [size_bs]; omega) hfull he, by omega, he⟩
            · exact .inr ⟨readH_no hfull he, .inr he⟩
          · exact .inr ⟨readH_long (by rw [size_bs]; omega), .inr (hexT_ne_long (by rw [size_bs]; omega) _)⟩)
      have hout : (¬ k < s.size) ∨ (k < s.size ∧ ¬ (k : Int) < 7) := by
        by_cases h : k < s.size
        · exact .inr ⟨h, by omega⟩
        · exact .inl h
      clear hn hlt
      rcases HH7.out with ⟨hr, h1, he⟩ | ⟨hr, h1⟩
      · have HE := Lib.hid hr
        have heq : ((mk (hexT (n : Int))).toList == s.toList) = true := by rw [eq_tlx]; exact beq_iff_eq.2 he
        obtain ⟨hne, hne2⟩ := ne_tl h1
        clear he hr
        rcases hout with ho | ⟨ho, ho2⟩
        all_goals
          go_wp2_with (go_at_call 35; refine (HX.out).mono ?_; rintro e w' ⟨rfl, rfl⟩)
          go_ret
          exact ⟨ret_int HE.out.symm, rfl⟩
      · have HE := Lib.hid hr
        clear hr
        by_cases h0 : s.size = 0
        · have hnil := nil_tl h0
          have ho : ¬ k < s.size := by omega
          clear hout h1
          go_wp2_with (go_at_call 35; refine (HX.out).mono ?_; rintro e w' ⟨rfl, rfl⟩)
          go_ret
          exact ⟨ret_int HE.out.symm, rfl⟩
        · have he : hexT (n : Int) ≠ bs s := h1.resolve_left h0
          have heq : ((mk (hexT (n : Int))).toList == s.toList) = false := by rw [eq_tlx]; exact beq_eq_false_iff_ne.2 he
          obtain ⟨hne, hne2⟩ := ne_tl (s := s) (by omega)
          clear he h1
          rcases hout with ho | ⟨ho, ho2⟩
          all_goals
            go_wp2_with (go_at_call 35; refine (HX.out).mono ?_; rintro e w' ⟨rfl, rfl⟩)
            go_ret
            exact ⟨ret_int HE.out.symm, rfl⟩
end Go.Proofs.YtaeaccakkielmaaDoor

/- JoinPath of the reference, walked. -/
set_option linter.unusedVariables false
namespace Go.Proofs.YtaeaccakkielmaaDoor
open Go.RowKit
def accJ (l : List ByteArray) (k : Nat) : ByteArray := mk (joinB ((l.take k).map bs))
theorem joinB_snoc (a : List Bs) (p : Bs) : joinB (a ++ [p]) = joinB a ++ 47 :: p := by unfold joinB; simp
theorem accJ_zero (l : List ByteArray) : accJ l 0 = ⟨#[]⟩ := by simp [accJ, joinB, mk]
theorem accJ_succ {l : List ByteArray} {k : Nat} (h : k < l.length) : accJ l k ++ ⟨#[47]⟩ ++ l[k] = accJ l (k + 1) := by
  unfold accJ
  rw [← List.take_append_getElem h, List.map_append, List.map_singleton, joinB_snoc]
  have e : (⟨#[47]⟩ : ByteArray) = mk [47] := rfl
  rw [e, mk_append]
  conv => lhs; rhs; rw [← mk_bs l[k]]
  rw [mk_append, List.append_assoc]; rfl
theorem accJ_len {l : List ByteArray} {k : Nat} (hk : k ≤ l.length) : (accJ l k).size = 0 ↔ k = 0 := by
  unfold accJ
  rw [mk_size]
  cases k with
  | zero => simp [joinB]
  | succ k =>
    cases l with
    | nil => simp at hk
    | cons p r => simp [joinB]
theorem word_size {p : ByteArray} (h : wordV (bs p) = true) : p.size ≤ 8 := by
  unfold wordV at h
  rw [Bool.and_eq_true, Bool.and_eq_true, decide_eq_true_eq] at h
  have := h.1.1.2
  rw [size_bs] at this; exact this
theorem joinP_long {l : List ByteArray} (h : 3 < l.length) : joinP (l.map bs) = [] := by
  unfold joinP
  rw [if_neg]
  rw [partsV_iff]; simp; omega
theorem joinP_bad {l : List ByteArray} {k : Nat} (hk : k < l.length) (h : wordV (bs l[k]) = false) : joinP (l.map bs) = [] := by
  unfold joinP
  rw [if_neg]
  rw [partsV_iff]
  intro hh
  have := hh.2 (bs l[k]) (List.mem_map.2 ⟨_, List.getElem_mem hk, rfl⟩)
  rw [h] at this; cases this
theorem joinP_good {l : List ByteArray} (h3 : l.length ≤ 3) (h : ∀ j (hj : j < l.length), wordV (bs l[j]) = true) : partsV (l.map bs) = true := by
  rw [partsV_iff]
  refine ⟨by simpa using h3, fun p hp => ?_⟩
  obtain ⟨q, hq, rfl⟩ := List.mem_map.1 hp
  obtain ⟨i, hi, rfl⟩ := List.getElem_of_mem hq
  exact h i hi
theorem joinP_end {l : List ByteArray} (h3 : l.length ≤ 3) (h : ∀ j (hj : j < l.length), wordV (bs l[j]) = true) (hne : 0 < l.length) : mk (joinP (l.map bs)) = accJ l l.length := by
  unfold joinP accJ
  rw [joinP_good h3 h, if_pos rfl, if_neg, List.take_length]
  intro e; rw [List.map_eq_nil_iff] at e; subst e; simp at hne
set_option maxHeartbeats 2000000 in
set_option maxRecDepth 100000 in
theorem sJoinPath_any (A : Option Addr) (c : Nat) (l : List ByteArray) (w : World) (hs : Sl w encS 1 A l) (hl : l.length ≤ 16777216) (hf : ∀ p ∈ l, p.size ≤ 16777216) :
    Calls Tryd.prog 47 #[.slice A l.length c] w fun e w' => e = .returned (.string (mk (joinP (l.map bs)))) ∧ w = w' := by
  have HS := Lib.hid hs
  have HF := Lib.hid hf
  clear hs hf
  by_cases h3 : 3 < l.length
  · have E := Lib.hid (joinP_long h3)
    rw [E.out, mk_nil]
    have h3' : (3 : Int) < (l.length : Int) := by omega
    go_enter Tryd.func47, Tryd.ntmps47
    go_wp2
    go_loop [3, 4] (fun o i => ∃ k : Nat, k < l.length ∧ o = .string ⟨#[]⟩ ∧ i = .int .i64 k) (fun _ _ => 0)
    case atStart => exact ⟨0, by omega, rfl, rfl⟩
    case round =>
      obtain ⟨k, hk, rfl, rfl⟩ := hrel
      obtain ⟨b, o, rfl, hc⟩ := HS.out.getS hk
      have hz := HF.out _ (List.getElem_mem hk)
      generalize l[k] = p at *
      have hW := fun w => sWordValid_any p w hz
      cases hw : wordV (bs p)
      all_goals
        rw [hw] at hW
        have HW := Lib.hid hW
        clear hW hw
        go_wp2_with (go_at_call 63; refine (HW.out _).mono ?_; rintro e w' ⟨rfl, rfl⟩)
        go_ret
        exact ⟨rfl, rfl⟩
  · have h3b : ¬ (3 : Int) < (l.length : Int) := by omega
    have HB := Lib.hid (fun k (hk : k < l.length) h => @joinP_bad l k hk h)
    have HE := Lib.hid (@joinP_end l (by omega))
    generalize hJ : mk (joinP (l.map bs)) = J at *
    have HJ := Lib.hid hJ
    clear hJ
    go_enter Tryd.func47, Tryd.ntmps47
    go_wp2
    go_loop [3, 4] (fun o i => ∃ (k : Nat) (acc : ByteArray), k ≤ l.length ∧ i = .int .i64 k ∧ o = .string acc ∧ acc.size ≤ 9 * k ∧ Hid (acc = accJ l k) ∧ Hid (∀ j (h : j < l.length), j < k → wordV (bs l[j]) = true)) (fun _ i => l.length - (intOf i).toNat)
    case atStart => exact ⟨0, _, Nat.zero_le _, rfl, rfl, by simp [ByteArray.size], (accJ_zero l).symm, fun j h h2 => by omega⟩
    case round =>
      obtain ⟨k, acc, hk, rfl, rfl, hz, HA, HH⟩ := hrel
      by_cases hlt : k < l.length
      · have hst := accJ_succ hlt
        rw [← HA.out] at hst
        obtain ⟨b, o, rfl, hc⟩ := HS.out.getS hlt
        have hzp := HF.out _ (List.getElem_mem hlt)
        have HBk := Lib.hid (fun h => HB.out k hlt h)
        have HSTk := Lib.hid (fun (h : wordV (bs l[k]) = true) => show ∀ j (hj : j < l.length), j < k + 1 → wordV (bs l[j]) = true from fun j hj h2 => by
          by_cases e : j = k
          · subst e; exact h
          · exact HH.out j hj (by omega))
        generalize l[k] = p at *
        have hW := fun w => sWordValid_any p w hzp
        cases hw : wordV (bs p)
        · have HN := Lib.hid (show J = ⟨#[]⟩ by rw [← HJ.out, HBk.out hw]; rfl)
          rw [hw] at hW
          have HW := Lib.hid hW
          clear hW hw hst HSTk HBk
          go_wp2_with (go_at_call 63; refine (HW.out _).mono ?_; rintro e w' ⟨rfl, rfl⟩)
          go_ret
          rw [HN.out]
          exact ⟨rfl, rfl⟩
        · have HN := Lib.hid (HSTk.out hw)
          have hps := word_size hw
          rw [hw] at hW
          have HW := Lib.hid hW
          have HST := Lib.hid hst
          have hq1 : (acc ++ ⟨#[47]⟩).size ≤ 9 * k + 1 := by rw [ByteArray.size_append]; have : (⟨#[47]⟩ : ByteArray).size = 1 := rfl; omega
          have hq2 : (acc ++ ⟨#[47]⟩ ++ p).size ≤ 9 * (k + 1) := by rw [ByteArray.size_append]; omega
          clear hW hw hst HSTk HBk
          go_wp2_with (go_at_call 63; refine (HW.out _).mono ?_; rintro e w' ⟨rfl, rfl⟩)
          go_round
          case rel => exact ⟨k + 1, _, by omega, by go_num, rfl, hq2, HST.out, HN.out⟩
          case measure => simp [intOf]; omega
      · have e : k = l.length := by omega
        have hsz := (accJ_len (l := l) hk)
        rw [← HA.out] at hsz
        by_cases h0 : l.length = 0
        · have hnil : l = [] := List.length_eq_zero_iff.1 h0
          have hacc : acc = ⟨#[]⟩ := by rw [HA.out, e, h0, accJ_zero]
          subst hacc
          have HN := Lib.hid (show J = ⟨#[47]⟩ by rw [← HJ.out, hnil]; rfl)
          clear hsz e hnil
          go_wp2
          go_ret
          rw [HN.out]
          exact ⟨rfl, rfl⟩
        · obtain ⟨hne, hne2⟩ := ne_tl (s := acc) (by have := fun h => h0 (by have := hsz.1 h; omega); omega)
          have HN := Lib.hid (show J = acc by rw [HE.out (fun j hj => HH.out j hj (by omega)) (by omega), HA.out, e])
          clear hsz e
          go_wp2
          go_ret
          rw [HN.out]
          exact ⟨rfl, rfl⟩
end Go.Proofs.YtaeaccakkielmaaDoor

/- Rows of structs: one element written anew; repaired pieces, walked. -/
set_option linter.unusedVariables false
namespace Go.Proofs.YtaeaccakkielmaaDoor
open Go.RowKit

theorem setAll_cells {g : Nat} {E : TypeId} {m : Nat × Nat} : ∀ (us : List Value) (w : World) (j : Nat) (cs : Array Value), w.heap[g]? = some (.cells cs E (0, 0)) →
    ∃ cs' : Array Value, (setAll w g j us).heap[g]? = some (.cells cs' E (0, 0)) ∧ cs'.size = cs.size ∧ ∀ p, cs'[p]? = if j ≤ p ∧ p < j + us.length ∧ p < cs.size then us[p - j]? else cs[p]?
  | [], w, j, cs, h => ⟨cs, h, rfl, fun p => by rw [if_neg]; simp; omega⟩
  | u :: r, w, j, cs, h => by
    obtain ⟨cs', h1, h2, h3⟩ := setAll_cells (m := m) r (w.setCell ⟨g, j, none⟩ u) (j + 1) (cs.setIfInBounds j u) (heap_setCell_same w g j cs E u h)
    refine ⟨cs', h1, by rw [h2]; simp, fun p => ?_⟩
    rw [h3 p]
    simp only [Array.size_setIfInBounds, List.length_cons]
    by_cases hp : p = j
    · subst hp
      rw [if_neg (by omega)]
      by_cases hs : p < cs.size
      · rw [if_pos (by omega)]; simp [hs]
      · rw [if_neg (by omega), Array.getElem?_eq_none (by simp; omega), Array.getElem?_eq_none (by omega)]
    · rw [Array.getElem?_setIfInBounds_ne (by omega)]
      by_cases hh : j + 1 ≤ p ∧ p < j + 1 + r.length ∧ p < cs.size
      · rw [if_pos hh, if_pos (by omega)]
        have e : p - j = p - (j + 1) + 1 := by omega
        rw [e, List.getElem?_cons_succ]
      · rw [if_neg hh, if_neg (by omega)]
/-- Element i of an owned row written anew. -/
theorem Own.setEl {α : Type} {enc : α → List Value} {w : World} {base size : Nat} {E : TypeId} {g n cap : Nat} {l : List α} (h : Own w base E size enc (.slice (some ⟨g, 0, none⟩) n cap) l) (he : ∀ x, (enc x).length = size) (hsz : 0 < size) {i : Nat} (hi : i < l.length) (x : α) :
    Own (setAll w g (i * size) (enc x)) base E size enc (.slice (some ⟨g, 0, none⟩) n cap) (l.set i x) := by
  rcases h.2 with ⟨hv, hn⟩ | ⟨g', cap', cur, hv, hg, hh, hnc, hcm, hs, ht⟩
  · injection hv with e; cases e
  · injection hv with e1 e2 e3
    injection e1 with e1; injection e1 with e1
    subst e1 e2 e3
    obtain ⟨cs', h1, h2, h3⟩ := setAll_cells (m := (0, 0)) (enc x) w (i * size) cur hh
    refine ⟨flat_length he _, .inr ⟨g, cap, cs', by rw [List.length_set], hg, h1, by rw [List.length_set]; exact hnc, hcm, by rw [h2]; exact hs, ?_⟩⟩
    have hlen : (flat enc (l.set i x)).length = l.length * size := by rw [flat_length he, List.length_set]
    have hls : l.length * size ≤ cur.size := by rw [hs]; exact Nat.mul_le_mul_right _ hnc
    have hi2 : i * size + size ≤ l.length * size := by
      have := Nat.mul_le_mul_right size (show i + 1 ≤ l.length from hi)
      rwa [Nat.succ_mul] at this
    have h0 : (flat enc l).length = l.length * size := flat_length he l
    rw [List.length_set]
    apply List.ext_getElem?
    intro p
    by_cases hp : p < l.length * size
    · rw [List.getElem?_take_of_lt hp, Array.getElem?_toList, h3 p, he]
      have hq : p / size < l.length := Nat.div_lt_of_lt_mul (by rwa [Nat.mul_comm] at hp)
      have hdm : p / size * size + p % size = p := by rw [Nat.mul_comm]; exact Nat.div_add_mod p size
      have hms := Nat.mod_lt p hsz
      have hg2 := flat_get he (l.set i x) (p / size) (by rw [List.length_set]; exact hq) (p % size) hms
      rw [hdm] at hg2
      rw [hg2, List.getElem_set]
      by_cases hqi : i = p / size
      · subst hqi
        rw [if_pos rfl, if_pos (by omega)]
        congr 1; omega
      · rw [if_neg hqi, if_neg]
        · have hg3 := flat_get he l (p / size) hq (p % size) hms
          rw [hdm] at hg3
          rw [← hg3]
          have this : (cur.toList.take (l.length * size))[p]? = (flat enc l)[p]? := by rw [ht]
          rw [List.getElem?_take_of_lt hp, Array.getElem?_toList] at this
          exact this
        · intro hh
          apply hqi
          have a1 : i ≤ p / size := (Nat.le_div_iff_mul_le hsz).2 hh.1
          have a2 : p / size < i + 1 := Nat.div_lt_of_lt_mul (by rw [Nat.mul_comm, Nat.succ_mul]; exact hh.2.1)
          omega
    · rw [List.getElem?_eq_none (by simp; omega), List.getElem?_eq_none (by omega)]
theorem Own.free' {α : Type} {enc : α → List Value} {w : World} {base size : Nat} {E : TypeId} {g n cap : Nat} {l : List α} (h : Own w base E size enc (.slice (some ⟨g, 0, none⟩) n cap) l) (j : Nat) : w.frozen? ⟨g, j, none⟩ = false := by
  rcases h.2 with ⟨hv, hn⟩ | ⟨g', cap', cur, hv, hg, hh, hnc, hcm, hs, ht⟩
  · injection hv with e; cases e
  · injection hv with e1
    injection e1 with e1; injection e1 with e1
    subst e1
    exact frozen_of_row w g j cur E hh
/-- An owned row that is not empty: its head. -/
theorem Own.head {α : Type} {enc : α → List Value} {w : World} {base size : Nat} {E : TypeId} {A : Option Addr} {n c : Nat} {l : List α} (h : Own w base E size enc (.slice A n c) l) (hl : 0 < l.length) : ∃ g, A = some ⟨g, 0, none⟩ ∧ base ≤ g ∧ g < w.heap.size := by
  obtain ⟨A', c', e, _, _, hb⟩ := h.sl
  injection e with e1
  rcases hb with ⟨hz, _⟩ | ⟨g, hg, h1, h2⟩
  · subst hz; simp at hl
  · exact ⟨g, e1.trans hg, h1, h2⟩
theorem Own.apartW {α : Type} {enc : α → List Value} {w w' : World} {g base size : Nat} {E : TypeId} {v : Value} {l : List α} (h : Own w base E size enc v l) (ho : Only g w w') (hb : ∀ q, v.ownBlock = some q → q ≠ g) : Own w' base E size enc v l := by
  refine World.ownsRow.kept h (row := some g) ho ?_
  cases hv : v.ownBlock with
  | none => exact .inl rfl
  | some k => right; intro e; injection e with e; exact hb k hv e

/-! ### plain -/
theorem find_take {α : Type} (f : α → Bool) (l : List α) (j : Nat) (h : j < l.length) : (l.take (j + 1)).find? f = ((l.take j).find? f).or (if f l[j] then some l[j] else none) := by
  rw [List.take_succ_eq_append_getElem h, List.find?_append]
  congr 1
  cases h2 : f l[j] <;> simp [h2]
theorem goodCopy_take {p : Int} {copies : List Pc} {j : Nat} (h : j < copies.length) : goodCopy p (copies.take (j + 1)) = (goodCopy p (copies.take j)).or (if copies[j].1 == p && pieceR copies[j] then some copies[j] else none) :=
  find_take _ copies j h
theorem goodCopy_prefix {p : Int} {copies : List Pc} {j : Nat} {q : Pc} (h : goodCopy p (copies.take j) = some q) : goodCopy p copies = some q := by
  unfold goodCopy at *
  have e : copies = copies.take j ++ copies.drop j := (List.take_append_drop _ _).symm
  rw [e, List.find?_append, h]; rfl
theorem repair1_none {copies : List Pc} {p : Pc} (h : pieceR p = false) (hg : goodCopy p.1 copies = none) : repair1 copies p = (p, 0) := by unfold repair1; rw [if_neg (by simp [h]), hg]
theorem repair1_some {copies : List Pc} {p q : Pc} (h : pieceR p = false) (hg : goodCopy p.1 copies = some q) : repair1 copies p = (q, 1) := by unfold repair1; rw [if_neg (by simp [h]), hg]
theorem repairs_len (copies l : List Pc) : (repairs copies l).length = l.length := by simp [repairs]
theorem repairs_take {copies l : List Pc} {k : Nat} (h : k < l.length) : repairs copies (l.take (k + 1)) = repairs copies (l.take k) ++ [(repair1 copies l[k]).1] := by
  unfold repairs; rw [List.take_succ_eq_append_getElem h, List.map_append]; rfl
/-- The row while it is repaired: the first k are, the rest is not. -/
def halfRep (copies l : List Pc) (k : Nat) : List Pc := repairs copies (l.take k) ++ l.drop k
theorem halfRep_len (copies l : List Pc) (k : Nat) : (halfRep copies l k).length = l.length := by unfold halfRep; rw [List.length_append, repairs_len, List.length_take, List.length_drop]; omega
theorem halfRep_at {copies l : List Pc} {k : Nat} (h : k < l.length) : (halfRep copies l k)[k]'(by rw [halfRep_len]; exact h) = l[k] := by
  have hl : (repairs copies (l.take k)).length = k := by rw [repairs_len, List.length_take]; omega
  unfold halfRep
  rw [List.getElem_append_right (by omega), List.getElem_drop]
  congr 1; omega
theorem halfRep_succ {copies l : List Pc} {k : Nat} (h : k < l.length) : halfRep copies l (k + 1) = (halfRep copies l k).set k (repair1 copies l[k]).1 := by
  have hl : (repairs copies (l.take k)).length = k := by rw [repairs_len, List.length_take]; omega
  unfold halfRep
  rw [repairs_take h, List.set_append_right _ _ (by omega), hl, Nat.sub_self]
  have e : l.drop k = l[k] :: l.drop (k + 1) := List.drop_eq_getElem_cons h
  rw [e, List.set_cons_zero, List.append_assoc]; rfl
theorem halfRep_same {copies l : List Pc} {k : Nat} (h : k < l.length) (hr : (repair1 copies l[k]).1 = l[k]) : halfRep copies l (k + 1) = halfRep copies l k := by
  rw [halfRep_succ h, hr]
  apply List.ext_getElem (by simp)
  intro q h1 h2
  rw [List.getElem_set]
  split
  · rename_i e; subst e; exact (halfRep_at h).symm
  · rfl
theorem halfRep_done {copies l : List Pc} {k : Nat} (h : ¬ k < l.length) : halfRep copies l k = repairs copies l := by
  unfold halfRep; rw [List.take_of_length_le (by omega), List.drop_of_length_le (by omega), List.append_nil]
def RepR (l copies : List Pc) (w : World) (e : Ending) (w' : World) : Prop :=
  ∃ v, e = .returned (.tuple #[v, .int .i64 (many copies l)]) ∧ Own w' w.heap.size 58 2 encP v (repairs copies l) ∧ Below w.heap.size w w'

end Go.Proofs.YtaeaccakkielmaaDoor

/- PathParts of the reference, walked. -/
set_option linter.unusedVariables false
namespace Go.Proofs.YtaeaccakkielmaaDoor
open Go.RowKit
def scanS (acc : List Bs) (c : UInt8) : List Bs := if c = 47 then acc ++ [[]] else acc.set (acc.length - 1) (acc.getLastD [] ++ [c])
def scanL (s : Bs) : List Bs := s.foldl scanS []
theorem scanS_cons {L : List Bs} (p : Bs) (c : UInt8) (hL : L ≠ []) : scanS (p :: L) c = p :: scanS L c := by
  cases L with
  | nil => exact absurd rfl hL
  | cons q r =>
    unfold scanS
    split
    · rfl
    · simp [List.getLastD_eq_getLast?]
theorem splitS_snoc (c : UInt8) : ∀ a : Bs, splitS 47 (a ++ [c]) = scanS (splitS 47 a) c
  | [] => by
    rw [List.nil_append, splitS, splitS]
    unfold scanS
    split <;> simp [splitS]
  | x :: r => by
    have ih := splitS_snoc c r
    rw [List.cons_append, splitS, splitS]
    split
    · rw [ih, scanS_cons _ _ (splitS_ne 47 r)]
    · rw [ih]
      cases hs : splitS 47 r with
      | nil => exact absurd hs (splitS_ne 47 r)
      | cons p ps =>
        cases ps with
        | nil =>
          unfold scanS
          by_cases hc : c = 47 <;> simp [hc]
        | cons q t =>
          have hn : q :: t ≠ [] := by simp
          rw [scanS_cons p c hn]
          show (x :: p) :: scanS (q :: t) c = scanS ((x :: p) :: q :: t) c
          rw [scanS_cons (x :: p) c hn]
theorem scan_split : ∀ (r a : Bs), r.foldl scanS (splitS 47 a) = splitS 47 (a ++ r)
  | [], a => by rw [List.append_nil]; rfl
  | c :: r, a => by
    rw [List.foldl_cons, ← splitS_snoc, scan_split r, List.append_assoc]; rfl
theorem scanL_slash (r : Bs) : scanL (47 :: r) = splitS 47 r := by
  unfold scanL
  rw [List.foldl_cons]
  have e : scanS [] 47 = splitS 47 [] := by decide
  rw [e, scan_split]; rfl
theorem joinP_head (ps : List Bs) : joinP ps = [] ∨ (joinP ps).headD 0 = 47 := by
  unfold joinP
  split
  · split
    · right; rfl
    · rename_i h
      cases ps with
      | nil => exact absurd rfl h
      | cons p r => right; unfold joinB; rw [List.flatMap_cons]; rfl
  · left; rfl
/-- What the scan and the comparison answer. -/
theorem path_scan {s : Bs} (h0 : s ≠ []) (h1 : s ≠ [47]) : pathP s = if joinP (scanL s) = s then some (scanL s) else none := by
  unfold pathP
  rw [if_neg h1]
  cases s with
  | nil => exact absurd rfl h0
  | cons x r =>
    rw [List.headD_cons, List.tail_cons]
    by_cases hx : x = 47
    · subst hx
      rw [if_pos rfl, scanL_slash]
      cases hp : partsV (splitS 47 r)
      · rw [if_neg (by simp), if_neg]
        unfold joinP
        rw [hp]; simp
      · rw [if_pos rfl, if_pos]
        unfold joinP
        rw [hp, if_pos rfl, if_neg (splitS_ne _ _), joinB_split]
    · rw [if_neg hx, if_neg]
      intro e
      rcases joinP_head (scanL (x :: r)) with h | h
      · rw [h] at e; cases e
      · rw [e] at h; exact hx h
theorem path_nil : pathP [] = none := by decide
theorem scanL_take {s : Bs} {k : Nat} (h : k < s.length) : scanL (s.take (k + 1)) = scanS (scanL (s.take k)) s[k] := by
  unfold scanL
  rw [← List.take_append_getElem h, List.foldl_append]; rfl
theorem scanS_len (acc : List Bs) (c : UInt8) : (scanS acc c).length ≤ acc.length + 1 := by
  unfold scanS; split
  · simp
  · rw [List.length_set]; omega
def PathR (s : ByteArray) (w : World) (e : Ending) (w' : World) : Prop :=
  ∃ v, e = .returned (.tuple #[v, .bool (pathP (bs s)).isSome]) ∧ Own w' w.heap.size 9 1 encS v (((pathP (bs s)).getD []).map mk) ∧ Below w.heap.size w w'
def scB (s : ByteArray) (k : Nat) : List ByteArray := (scanL ((bs s).take k)).map mk
theorem scB_zero (s : ByteArray) : scB s 0 = [] := rfl
theorem scB_full (s : ByteArray) : (scB s s.size).map bs = scanL (bs s) := by
  unfold scB
  rw [List.take_of_length_le (by rw [size_bs]; omega), List.map_map]
  exact (List.map_congr_left fun p _ => rfl).trans (List.map_id _)
theorem scB_step {s : ByteArray} {k : Nat} (h : k < s.size) : scB s (k + 1) = (scanS (scanL ((bs s).take k)) s[k]).map mk := by
  unfold scB; rw [scanL_take (by rw [size_bs]; exact h)]; rfl
theorem scB_slash {s : ByteArray} {k : Nat} (h : k < s.size) (hc : s[k] = 47) : scB s (k + 1) = scB s k ++ [⟨#[]⟩] := by
  rw [scB_step h, hc]; unfold scanS scB; rw [if_pos rfl, List.map_append]; rfl
theorem scB_none {s : ByteArray} {k : Nat} (h : k < s.size) (hc : s[k] ≠ 47) (h0 : (scB s k).length = 0) : scB s (k + 1) = scB s k := by
  have e : scanL ((bs s).take k) = [] := by unfold scB at h0; rw [List.length_map] at h0; exact List.length_eq_zero_iff.1 h0
  rw [scB_step h]; unfold scanS scB; rw [if_neg hc, e]; rfl
theorem scB_some {s : ByteArray} {k : Nat} (h : k < s.size) (hc : s[k] ≠ 47) (y : ByteArray) (hy : (scB s k)[(scB s k).length - 1]? = some y) : scB s (k + 1) = (scB s k).set ((scB s k).length - 1) (y ++ s.extract k (k + 1)) := by
  rw [scB_step h]; unfold scanS; rw [if_neg hc, List.map_set]
  unfold scB at hy ⊢
  rw [List.length_map] at hy ⊢
  rw [List.getElem?_map, Option.map_eq_some_iff] at hy
  obtain ⟨z, hz, rfl⟩ := hy
  have e : (scanL ((bs s).take k)).getLastD [] = z := by rw [List.getLastD_eq_getLast?, List.getLast?_eq_getElem?, hz]; rfl
  rw [e, ← mk_append]
  congr 2
  apply ByteArray.ext
  apply Array.ext'
  simp [mk, ByteArray.data_extract]
  rw [List.drop_eq_getElem_cons (by rw [size_bs]; exact h)]; rfl
theorem scB_len (s : ByteArray) : ∀ k, k ≤ s.size → (scB s k).length ≤ k ∧ ∀ y ∈ scB s k, y.size ≤ k
  | 0, _ => ⟨Nat.le_refl _, fun y h => by cases h⟩
  | k + 1, h => by
    obtain ⟨h1, h2⟩ := scB_len s k (by omega)
    by_cases hc : s[k] = 47
    · rw [scB_slash (by omega) hc]
      refine ⟨by simp; omega, fun y hy => ?_⟩
      rcases List.mem_append.1 hy with h | h
      · have := h2 y h; omega
      · simp at h; subst h; simp [ByteArray.size]
    · by_cases h0 : (scB s k).length = 0
      · rw [scB_none (by omega) hc h0]
        exact ⟨by omega, fun y hy => by have := h2 y hy; omega⟩
      · have hlt : (scB s k).length - 1 < (scB s k).length := by omega
        rw [scB_some (by omega) hc _ (List.getElem?_eq_getElem hlt)]
        refine ⟨by rw [List.length_set]; omega, fun y hy => ?_⟩
        rcases List.mem_or_eq_of_mem_set hy with h | h
        · have := h2 y h; omega
        · subst h
          have h3 := h2 _ (List.getElem_mem hlt)
          rw [ByteArray.size_append, ByteArray.size_extract]
          omega
theorem scB_all (s : ByteArray) : scB s s.size = (scanL (bs s)).map mk := by
  unfold scB; rw [List.take_of_length_le (by rw [size_bs]; omega)]
theorem PathR.made {s : ByteArray} {w w1 : World} (hE : pathP (bs s) = none) (hb : Below w.heap.size w w1) : PathR s w (.returned (.tuple #[.slice (some ⟨w1.heap.size, 0, none⟩) 0 0, .bool false])) (w1.alloc madeS) := by
  unfold PathR; rw [hE]
  exact ⟨_, rfl, Own.made hb.size, hb.alloc hb.size _⟩
theorem PathR.yes {s : ByteArray} {w w1 : World} {v : Value} (hE : pathP (bs s) = some (scanL (bs s))) (ho : Own w1 w.heap.size 9 1 encS v (scB s s.size)) (hb : Below w.heap.size w w1) : PathR s w (.returned (.tuple #[v, .bool true])) w1 := by
  unfold PathR; rw [hE]
  rw [scB_all] at ho
  exact ⟨_, rfl, ho, hb⟩
theorem PathR.root {s : ByteArray} {w : World} (h : bs s = [47]) : PathR s w (.returned (.tuple #[.slice (some ⟨w.heap.size, 0, none⟩) 0 0, .bool true])) (w.alloc madeS) := by
  unfold PathR; rw [h]
  have e : pathP [47] = some [] := by decide
  rw [e]
  exact ⟨_, rfl, Own.made (Nat.le_refl _), (Below.refl _ _).alloc (Nat.le_refl _) _⟩
set_option maxHeartbeats 4000000 in
set_option maxRecDepth 100000 in
theorem sPathParts_any (s : ByteArray) (w : World) (hs : s.size ≤ 1048576) : Calls Tryd.prog 25 #[.string s] w (PathR s w) := by
  cases h1 : (s.toList == [47])
  case true =>
    have HE := Lib.hid (show bs s = [47] by rw [ByteArray.toList_eq] at h1; exact beq_iff_eq.1 h1)
    go_enter Tryd.func25, Tryd.ntmps25
    go_wp2
    go_ret2
    exact PathR.root HE.out
  case false =>
    have hne47 : bs s ≠ [47] := fun e => by rw [ByteArray.toList_eq] at h1; change (bs s == [47]) = false at h1; rw [e] at h1; cases h1
    have HSC := Lib.hid (fun h0 => path_scan (s := bs s) h0 hne47)
    have HSZ := Lib.hid (show s.size ≤ 1048576 from hs)
    clear hne47
    go_enter Tryd.func25, Tryd.ntmps25
    go_wp2_with fail
    go_loopw [4, 5] (fun v i wr => ∃ (k : Nat), k ≤ s.size ∧ i = .int .i64 k ∧ Hid (Own wr w.heap.size 9 1 encS v (scB s k)) ∧ Hid (Below w.heap.size w wr)) (fun _ i _ => s.size - (intOf i).toNat)
    case atStart => exact ⟨0, Nat.zero_le _, rfl, Own.made (Nat.le_refl _), (Below.refl _ _).alloc (Nat.le_refl _) _⟩
    case round =>
      obtain ⟨k, hk, rfl, HO, HBW⟩ := hrel
      obtain ⟨hL1, hL2⟩ := scB_len s k hk
      by_cases hlt : k < s.size
      · have hin : (k : Int) < (s.size : Int) := by omega
        by_cases hc : s[k] = 47
        · have HN := Lib.hid (scB_slash hlt hc)
          have hcn : ((s[k].toNat : Nat) : Int) = 47 := by rw [hc]; rfl
          have HL := Lib.hid (show (scB s k).length ≤ 16777216 by omega)
          clear hL2 hc hL1
          generalize scB s k = ls at *
          go_wp2_with (at_builtin; refine app_str (w0 := w) (y := ⟨#[]⟩) rfl rfl (by rfl) (by rfl) HO.out HBW.out HL.out ?_; intro v6 w6 hown6 hb6; have HO6 := Lib.hid hown6; have HB6 := Lib.hid hb6; clear hown6 hb6)
          go_roundw
          case rel => exact ⟨k + 1, by omega, by go_num, by rw [HN.out]; exact HO6.out, HB6.out⟩
          case measure => simp [intOf]; omega
        · have hcn : ¬ ((s[k].toNat : Nat) : Int) = 47 := fun e => hc (UInt8.toNat_inj.1 (show s[k].toNat = 47 by omega))
          by_cases h0 : (scB s k).length = 0
          · have HN := Lib.hid (scB_none hlt hc h0)
            clear hL2 hc hL1
            generalize scB s k = ls at *
            obtain ⟨X, d, rfl, _, _, _⟩ := HO.out.sl
            have h0' : ¬ (0 : Int) < (ls.length : Int) := by omega
            go_wp2
            go_roundw
            case rel => exact ⟨k + 1, by omega, by go_num, by rw [HN.out]; exact HO.out, HBW.out⟩
            case measure => simp [intOf]; omega
          · have hll : (scB s k).length - 1 < (scB s k).length := by omega
            have HN := Lib.hid (scB_some hlt hc _ (List.getElem?_eq_getElem hll))
            have hys := hL2 _ (List.getElem_mem hll)
            clear hL2 hc
            generalize scB s k = ls at *
            have hp1 : (1 : Int) ≤ (ls.length : Int) := by omega
            have hp2 : 0 < ls.length := by omega
            have hp3 : (0 : Int) < (ls.length : Int) := by omega
            obtain ⟨g, cap, rfl, hg, hcap, _, _⟩ := HO.out.row hp2
            obtain ⟨b3, o3, e, hc0⟩ := HO.out.sl'.getS hll
            injection e with e; injection e with e1 e2
            subst e1 e2
            simp only [Nat.zero_add] at hc0
            have hfz := HO.out.free' (ls.length - 1)
            have hxs : (s.extract k (k + 1)).size ≤ 1 := by rw [ByteArray.size_extract]; omega
            have hq := str_add (x := ls[ls.length - 1]) (y := s.extract k (k + 1)) (by omega) (by omega)
            have hset := HO.out.setEl (fun _ => rfl) (by omega) (i := ls.length - 1) (by omega) (ls[ls.length - 1] ++ s.extract k (k + 1))
            rw [← HN.out] at hset
            have hse : setAll wr g ((ls.length - 1) * 1) (encS (ls[ls.length - 1] ++ s.extract k (k + 1))) = wr.setCell ⟨g, ls.length - 1, none⟩ (.string (ls[ls.length - 1] ++ s.extract k (k + 1))) := by rw [Nat.mul_one]; rfl
            rw [hse] at hset
            have HSET := Lib.hid hset
            have HB6 := Lib.hid (HBW.out.setCell (p := ⟨g, ls.length - 1, none⟩) hg (.string (ls[ls.length - 1] ++ s.extract k (k + 1))))
            clear hset hse HN
            generalize ls[ls.length - 1] = y at *
            go_wp2_with fail
            go_region
            all_goals
              go_wp2
              go_roundw
              case rel => exact ⟨k + 1, by omega, by go_num, by first | exact HSET.out | exact HSET.out.drew, by first | exact HB6.out | exact HB6.out.drew⟩
              case measure => simp [intOf]; omega
      · obtain rfl : k = s.size := by omega
        by_cases h0 : s.size = 0
        · have hnil := nil_tl h0
          have HE := Lib.hid (show pathP (bs s) = none by rw [show bs s = [] from List.eq_nil_of_length_eq_zero (by rw [size_bs]; exact h0)]; exact path_nil)
          go_wp2
          go_ret2
          exact PathR.made HE.out HBW.out
        · obtain ⟨hne, hne2⟩ := ne_tl (s := s) (by omega)
          have hsc := HSC.out (fun e => h0 (by rw [← size_bs s, e]; rfl))
          have hJ := fun X d w h => sJoinPath_any X d (scB s s.size) w h (by omega) (fun p hp => by have := hL2 p hp; omega)
          rw [scB_full] at hJ
          obtain ⟨X, d, rfl, _, HSL, _⟩ := HO.out.sl
          have HS1 := Lib.hid HSL
          have HO1 := Lib.hid HO.out
          clear HO HSL
          generalize hln : (scB s s.size).length = n at *
          by_cases he : joinP (scanL (bs s)) = bs s
          · rw [if_pos he] at hsc
            have HE := Lib.hid hsc
            have heq : ((mk (joinP (scanL (bs s)))).toList == s.toList) = true := by rw [eq_tlx]; exact beq_iff_eq.2 he
            generalize mk (joinP (scanL (bs s))) = JJ at *
            have HJ := Lib.hid hJ
            clear hJ hsc he hL1 hL2
            go_wp2_with (go_at_call 47; refine (HJ.out _ _ _ HS1.out).mono ?_; rintro e w' ⟨rfl, rfl⟩)
            go_ret2
            exact PathR.yes HE.out HO1.out HBW.out
          · rw [if_neg he] at hsc
            have HE := Lib.hid hsc
            have heq : ((mk (joinP (scanL (bs s)))).toList == s.toList) = false := by rw [eq_tlx]; exact beq_eq_false_iff_ne.2 he
            generalize mk (joinP (scanL (bs s))) = JJ at *
            have HJ := Lib.hid hJ
            clear hJ hsc he hL1 hL2
            go_wp2_with (go_at_call 47; refine (HJ.out _ _ _ HS1.out).mono ?_; rintro e w' ⟨rfl, rfl⟩)
            go_ret2
            exact PathR.made HE.out HBW.out
end Go.Proofs.YtaeaccakkielmaaDoor

/- QuotasValid of the reference, walked. -/
set_option linter.unusedVariables false
namespace Go.Proofs.YtaeaccakkielmaaDoor
open Go.RowKit
set_option maxHeartbeats 4000000 in
set_option maxRecDepth 100000 in
theorem sQuotasValid_any (A : Option Addr) (c : Nat) (l : List Qt) (w : World) (hs : Sl w encQ 2 A l) (hl : l.length ≤ 16777216) (hf : FitQ l) :
    Calls Tryd.prog 8 #[.slice A l.length c] w fun e w' => e = .returned (.bool (quoV l)) ∧ Below w.heap.size w w' := by
  have HS := Lib.hid hs
  have HF := Lib.hid hf
  have HNO := Lib.hid (fun k (hk : k < l.length) h => @quoV_no l k hk h)
  have HALL := Lib.hid (@quoV_all l)
  generalize quoV l = R at *
  clear hs hf
  go_enter Tryd.func8, Tryd.ntmps8
  go_wp2_with fail
  go_loopw [3] (fun i wr => ∃ (k : Nat), k ≤ l.length ∧ i = .int .i64 k ∧ Hid (∀ j, j < k → quoAt l j = true) ∧ Hid (Below w.heap.size w wr)) (fun i _ => l.length - (intOf i).toNat)
  case atStart => exact ⟨0, Nat.zero_le _, rfl, fun j h => by omega, Below.refl _ _⟩
  case round =>
    obtain ⟨k, hk, rfl, HH, HBW⟩ := hrel
    by_cases hlt : k < l.length
    · have hlt' : (k : Int) < (l.length : Int) := by omega
      obtain ⟨b, o, rfl, hc0, hc1⟩ := (HS.out.below HBW.out).getQ hlt
      have HN := Lib.hid (HNO.out k hlt)
      have hz := HF.out _ (List.getElem_mem hlt)
      have hP := fun w => sPathParts_any l[k].1 w hz
      unfold PathR at hP
      have HQ := Lib.hid (fun h => @quoAt_path l k hlt h)
      have HM := Lib.hid (fun h => @quoAt_most l k hlt h)
      have HT := Lib.hid (fun j h1 h2 => @quoAt_twice l k j hlt h1 h2)
      have HY := Lib.hid (fun h1 h2 h3 => @quoAt_yes l k hlt h1 h2 h3)
      have hq : ∃ q : Qt, q = l[k] := ⟨_, rfl⟩
      obtain ⟨q, hq⟩ := hq
      rw [← hq] at hc0 hc1 hP HQ HM HT HY
      have HEQ := Lib.hid hq
      clear hq hz
      obtain ⟨p, x⟩ := q
      simp only at *
      have hIN := fun w => sl1In_any x 0 1000 w
      generalize ((pathP (bs p)).getD []).map mk = LP at *
      cases hp : (pathP (bs p)).isSome
      · have HR := Lib.hid (HN.out (HQ.out hp))
        rw [hp] at hP
        have HP := Lib.hid hP
        clear hP hp hIN HQ HM HT HY HN
        go_wp2_with fail
        refine (HP.out _).mono ?_
        rintro e w2 ⟨v, rfl, hown, hb⟩
        have HB2 := Lib.hid (Below_then HBW.out hb (Nat.le_refl _))
        clear hb hown
        go_wp2
        go_ret
        exact ⟨ret_bool HR.out.symm, HB2.out⟩
      · have HPS := Lib.hid hp
        rw [hp] at hP
        have HP := Lib.hid hP
        clear hP hp
        cases hx : inI x 0 1000
        · have HR := Lib.hid (HN.out (HM.out hx))
          rw [hx] at hIN
          have HI := Lib.hid hIN
          clear hIN hx HQ HM HT HY HN
          have hlt2 := hlt
          go_wp2_with fail
          refine (HP.out _).mono ?_
          rintro e w2 ⟨v, rfl, hown, hb⟩
          have HB2 := Lib.hid (Below_then HBW.out hb (Nat.le_refl _))
          have hd1 := Below_cells hb _ _ _ hc1
          clear hb hown hc0 hc1
          go_wp2_with (go_at_call 26; refine (HI.out _).mono ?_; rintro e w' ⟨rfl, rfl⟩)
          go_ret
          exact ⟨ret_bool HR.out.symm, HB2.out⟩
        · rw [hx] at hIN
          have HI := Lib.hid hIN
          have HYY := Lib.hid (fun h3 => HY.out HPS.out hx h3)
          clear hIN hx HQ HM HY
          go_wp2_with fail
          refine (HP.out _).mono ?_
          rintro e w2 ⟨v, rfl, hown, hb⟩
          have HB2 := Lib.hid (Below_then HBW.out hb (Nat.le_refl _))
          have hd0 := Below_cells hb _ _ _ hc0
          have hd1 := Below_cells hb _ _ _ hc1
          clear hb hown hc0 hc1
          go_wp2_with (go_at_call 26; refine (HI.out _).mono ?_; rintro e w' ⟨rfl, rfl⟩)
          clear hd0 hd1
          go_loopw [6] (fun i wr => ∃ (j : Nat), j ≤ k ∧ i = .int .i64 j ∧ Hid (∀ i (h : i < l.length), i < j → bs l[i].1 ≠ bs p) ∧ Hid (Below w.heap.size w wr)) (fun i _ => k - (intOf i).toNat)
          case atStart => exact ⟨0, Nat.zero_le _, rfl, fun i h h2 => by omega, HB2.out⟩
          case round =>
            obtain ⟨j, hj, rfl, HJ, HBJ⟩ := hrel
            obtain ⟨b3, o3, e3, hd0, hd1⟩ := (HS.out.below HBJ.out).getQ hlt
            rw [← HEQ.out] at hd0 hd1
            injection e3 with e3; injection e3 with e4 e5
            subst e4 e5
            simp only at hd0 hd1
            by_cases hjl : j < k
            · have hjn : j < l.length := by omega
              have hjl' : (j : Int) < (k : Int) := by omega
              have hjn' : (j : Int) < (l.length : Int) := by omega
              obtain ⟨b2, o2, e, hy0, hy1⟩ := (HS.out.below HBJ.out).getQ hjn
              injection e with e; injection e with e1 e2
              subst e1 e2
              have HTj := Lib.hid (fun h => HN.out (HT.out j hjl h))
              have HSj := Lib.hid (fun (h : bs l[j].1 ≠ bs p) => show ∀ i (hi : i < l.length), i < j + 1 → bs l[i].1 ≠ bs p from fun i hi h2 => by
                by_cases e : i = j
                · subst e; exact h
                · exact HJ.out i hi (by omega))
              generalize l[j].1 = pj at *
              generalize l[j].2 = xj at *
              cases hq : (pj.toList == p.toList)
              · have hne : bs pj ≠ bs p := by rw [eq_tlx] at hq; exact beq_eq_false_iff_ne.1 hq
                have HNX := Lib.hid (HSj.out hne)
                clear hne HTj HSj
                go_wp2_with fail
                go_quiet (fail)
                all_goals
                  go_wp2
                  go_round
                  case rel => exact ⟨j + 1, by omega, by go_num, HNX.out, Below_drewN HBJ.out _⟩
                  case measure => simp [intOf]; omega
              · have heq : bs pj = bs p := by rw [eq_tlx] at hq; exact beq_iff_eq.1 hq
                have HR := Lib.hid (HTj.out heq)
                clear heq HTj HSj
                go_wp2_with fail
                go_quiet (fail)
                all_goals
                  go_wp2
                  go_ret
                  exact ⟨ret_bool HR.out.symm, Below_drewN HBJ.out _⟩
            · have hjk : ¬ (j : Int) < (k : Int) := by omega
              have HNX := Lib.hid (show ∀ j, j < k + 1 → quoAt l j = true from fun i h => by
                by_cases e : i = k
                · subst e; exact HYY.out (fun i hi h2 => HJ.out i hi (by omega))
                · exact HH.out i (by omega))
              go_wp2
              go_roundw
              case rel => exact ⟨k + 1, by omega, by go_num, HNX.out, HBJ.out⟩
              case measure => simp [intOf]; omega
    · have HE := Lib.hid (show decide ((l.length : Int) ≤ 6) = R by rw [HALL.out (fun j h => HH.out j (by omega))]; exact decide_eq_decide.2 (by omega))
      have hlt' : ¬ (k : Int) < (l.length : Int) := by omega
      go_wp2
      go_ret
      exact ⟨ret_bool HE.out, HBW.out⟩
end Go.Proofs.YtaeaccakkielmaaDoor

/- Drawn inputs: quotas. -/
set_option linter.unusedVariables false
namespace Go.Proofs.YtaeaccakkielmaaDoor
open Go.RowKit
def FewQ (l : List Qt) : Prop := l.length ≤ 5 ∧ ∀ q ∈ l, q.1.size ≤ 9
theorem qt_info : (Tryd.prog.info? 33).map (fun i => (i.zero, i.size, i.bytes)) = some (some (.agg #[.string ⟨#[]⟩, .int .i64 0]), 2, 24) := by kernel_rfl
theorem oneQ : ∀ y, ∀ u ∈ encQ y, u.oneCell' = true := by intro y u hu; simp [encQ] at hu; rcases hu with rfl | rfl <;> rfl
/-! ### 'append(append([]Quota{}, l...), y)' in whatever order -/
abbrev rowQ (y : Qt) : Obj := .cells #[.string y.1, .int .i64 y.2] 33
abbrev madeQ : Obj := .cells #[] 33
def RowQ (w : World) (g : Nat) (y : Qt) : Prop := w.cell? ⟨g, 0, none⟩ = some (.string y.1) ∧ w.cell? ⟨g, 1, none⟩ = some (.int .i64 y.2)
theorem RowQ.new (w : World) (y : Qt) : RowQ (w.alloc (rowQ y)) w.heap.size y := ⟨new_cell rfl, new_cell rfl⟩
theorem RowQ.alloc {w : World} {g : Nat} {y : Qt} (h : RowQ w g y) (x : Obj) : RowQ (w.alloc x) g y := ⟨cell_alloc h.1, cell_alloc h.2⟩
theorem RowQ.grew {w w' : World} {g : Nat} {y : Qt} {v : Value} (h : RowQ w g y) (hg : Grew v w w') (hv : v.ownBlock ≠ some g) : RowQ w' g y := ⟨hg.cell hv h.1, hg.cell hv h.2⟩
theorem RowQ.below {w w' : World} {g : Nat} {y : Qt} (h : RowQ w g y) (hb : Below w.heap.size w w') : RowQ w' g y := ⟨Below_cells hb _ _ _ h.1, Below_cells hb _ _ _ h.2⟩
theorem RowQ.drew {w : World} {g : Nat} {y : Qt} (h : RowQ w g y) : RowQ w.drew g y := h
section
variable {ops : Array Oper} {rest : List Oper} {o : Oper} {a : Act} {K : Act → World → Prop} {Q : Exit → Act → World → Prop} {E' : Prop} {w0 w1 wr : World} {l m : List Qt} {A : Option Addr} {c : Nat} {y : Qt} {s x : Operand} {v : Value}
theorem step_qtN {l m : List Qt} (hgd : o.guard = none) (ho : o.op = .call { callee := .builtin .append, args := #[s, x], argTypes := #[25, 25] })
    (hown : Own wr w0.heap.size 33 2 encQ v l) (hb : Below w0.heap.size w0 wr) (hn : l.length + m.length ≤ 33554432) (hsl : Sl wr encQ 2 A m) (hcz : A = none → c = 0)
    (hs : a.eval s = v) (hx : a.eval x = .slice A m.length c)
    (h : ∀ v' w', Own w' w0.heap.size 33 2 encQ v' (l ++ m) → Below w0.heap.size w0 w' → Grew v wr w' → K (a.put o.dst v') w') : if Region.wanted o (yielded ops a.tmps) = true then Oper.wp Tryd.prog o a wr K Q else E' := by
  obtain ⟨i0, hi0, hz0, hz1, hz2⟩ := info_parts qt_info
  exact step_appN Tryd.underlying25 hi0 hz0 hz1 hz2 rfl (by decide) (by decide) hgd s x ho hown hb (Nat.le_refl _) hb.size hn hsl hcz (fun _ => rfl) oneQ hs hx h
theorem step_qt {g : Nat} (hgd : o.guard = none) (ho : o.op = .call { callee := .builtin .append, args := #[s, x], argTypes := #[25, 25] })
    (hown : Own wr w0.heap.size 33 2 encQ v l) (hb : Below w0.heap.size w0 wr) (hn : l.length ≤ 16777216) (hr : RowQ wr g y)
    (hs : a.eval s = v) (hx : a.eval x = .slice (some ⟨g, 0, none⟩) 1 1)
    (h : ∀ v' w', Own w' w0.heap.size 33 2 encQ v' (l ++ [y]) → Below w0.heap.size w0 w' → K (a.put o.dst v') w') : if Region.wanted o (yielded ops a.tmps) = true then Oper.wp Tryd.prog o a wr K Q else E' := by
  obtain ⟨i0, hi0, hz0, hz1, hz2⟩ := info_parts qt_info
  exact step_app1 Tryd.underlying25 hi0 hz0 hz1 hz2 rfl (by decide) (by decide) hgd s x ho hs hx hown hb (Nat.le_refl _) hb.size hn y (by
    intro j u hu
    have hj : j < 2 := by have := (List.getElem?_eq_some_iff.1 hu).1; simp [encQ] at this; omega
    match j, hj with
    | 0, _ => simp [encQ] at hu; rw [← hu]; exact hr.1
    | 1, _ => simp [encQ] at hu; rw [← hu]; exact hr.2) rfl (oneQ y) h
theorem step_qt_a (hsl : Sl w1 encQ 2 A l) (hcz : A = none → c = 0) (hl : l.length ≤ 16777216) (hgd : o.guard = none) (ho : o.op = .call { callee := .builtin .append, args := #[s, x], argTypes := #[25, 25] })
    (hs : a.eval s = .slice (some ⟨w1.heap.size, 0, none⟩) 0 0) (hx : a.eval x = .slice A l.length c)
    (h : ∀ v' w', Own w' w1.heap.size 33 2 encQ v' l → Below w1.heap.size w1 w' → K (a.put o.dst v') w') : if Region.wanted o (yielded ops a.tmps) = true then Oper.wp Tryd.prog o a (w1.alloc madeQ).drew K Q else E' :=
  step_qtN (w0 := w1) (l := []) hgd ho ((Own.made (w := w1) (Nat.le_refl _)).drew) (((Below.refl _ _).alloc (Nat.le_refl _) _).drew) (by simp; omega) ((hsl.alloc _).drew) hcz hs hx fun v' w' h1 h2 _ => h v' w' h1 h2
theorem step_qt_b (hsl : Sl w1 encQ 2 A l) (hcz : A = none → c = 0) (hl : l.length ≤ 16777216) (hgd : o.guard = none) (ho : o.op = .call { callee := .builtin .append, args := #[s, x], argTypes := #[25, 25] })
    (hs : a.eval s = .slice (some ⟨w1.heap.size, 0, none⟩) 0 0) (hx : a.eval x = .slice A l.length c)
    (h : ∀ v' w', Own w' w1.heap.size 33 2 encQ v' l → Below w1.heap.size w1 w' → RowQ w' (w1.heap.size + 1) y → K (a.put o.dst v') w') : if Region.wanted o (yielded ops a.tmps) = true then Oper.wp Tryd.prog o a ((w1.alloc madeQ).alloc (rowQ y)).drew K Q else E' := by
  have hz : w1.heap.size ≤ (w1.alloc madeQ).heap.size := by simp
  have hr := RowQ.new (w1.alloc madeQ) y
  have hzz : (w1.alloc madeQ).heap.size = w1.heap.size + 1 := by simp
  rw [hzz] at hr
  exact step_qtN (w0 := w1) (l := []) hgd ho (((Own.made (w := w1) (Nat.le_refl _)).alloc _).drew) ((((Below.refl _ _).alloc (Nat.le_refl _) _).alloc hz _).drew) (by simp; omega) (((hsl.alloc _).alloc _).drew) hcz hs hx fun v' w' h1 h2 h3 => h v' w' h1 h2 (RowQ.grew (w := ((w1.alloc madeQ).alloc (rowQ y)).drew) hr h3 (by simp [Value.ownBlock]))
theorem step_qt_c (hsl : Sl w1 encQ 2 A l) (hcz : A = none → c = 0) (hl : l.length ≤ 16777216) (hgd : o.guard = none) (ho : o.op = .call { callee := .builtin .append, args := #[s, x], argTypes := #[25, 25] })
    (hs : a.eval s = .slice (some ⟨w1.heap.size + 1, 0, none⟩) 0 0) (hx : a.eval x = .slice A l.length c)
    (h : ∀ v' w', Own w' w1.heap.size 33 2 encQ v' l → Below w1.heap.size w1 w' → RowQ w' w1.heap.size y → K (a.put o.dst v') w') : if Region.wanted o (yielded ops a.tmps) = true then Oper.wp Tryd.prog o a ((w1.alloc (rowQ y)).alloc madeQ).drew K Q else E' := by
  have hz : w1.heap.size ≤ (w1.alloc (rowQ y)).heap.size := by simp
  have hr := (RowQ.new w1 y).alloc madeQ
  have hm := (Own.made (enc := encQ) (E := 33) (size := 2) (w := w1.alloc (rowQ y)) hz).drew
  have hzz : (w1.alloc (rowQ y)).heap.size = w1.heap.size + 1 := by simp
  rw [hzz] at hm
  exact step_qtN (w0 := w1) (l := []) hgd ho hm ((((Below.refl _ _).alloc (Nat.le_refl _) _).alloc hz _).drew) (by simp; omega) (((hsl.alloc _).alloc _).drew) hcz hs hx fun v' w' h1 h2 h3 => h v' w' h1 h2 (RowQ.grew (w := ((w1.alloc (rowQ y)).alloc madeQ).drew) hr h3 (by simp [Value.ownBlock]))
theorem app_qt_only {g : Nat} (hgd : o.guard = none) (ho : o.op = .call { callee := .builtin .append, args := #[s, x], argTypes := #[25, 25] })
    (hs : a.eval s = v) (hx : a.eval x = .slice (some ⟨wr.heap.size, 0, none⟩) 1 1)
    (hown : Own wr w0.heap.size 33 2 encQ v l) (hb : Only g w0 wr) (hn : l.length ≤ 16777216)
    (h : ∀ v' w', Own w' w0.heap.size 33 2 encQ v' (l ++ [y]) → Below w0.heap.size wr w' → wpList Tryd.prog ops Q rest (a.put o.dst v') w') :
    wpList Tryd.prog ops Q (o :: rest) a (wr.alloc (rowQ y)) := by
  obtain ⟨i0, hi0, hz0, hz1, hz2⟩ := info_parts qt_info
  exact wpList_app1 Tryd.underlying25 hi0 hz0 hz1 hz2 rfl (by decide) (by decide) hgd s x ho hs hx hown (Below.refl w0.heap.size wr) (Nat.le_refl _) hb.size hn y _ rfl rfl (oneQ y) h
end
theorem fewQ_snoc {l : List Qt} {k : Nat} {y : Qt} (h : l.length + k ≤ 4) (ha : ∀ q ∈ l, q.1.size ≤ 9) (hy : y.1.size ≤ 9) : FewQ (l ++ [y]) := by
  refine ⟨by simp; omega, fun q hq => ?_⟩
  rw [List.mem_append, List.mem_singleton] at hq
  rcases hq with hq | rfl
  · exact ha q hq
  · exact hy
set_option maxHeartbeats 8000000 in
set_option maxRecDepth 100000 in
theorem l20Quotas_any (n : Int) (g p : Nat) (w : World) (hr : Rdr w g p) (hp : p ≤ 700000000) (hn : n ≤ 1000000000) :
    Calls Tryd.prog 30 #[.pointer (some ⟨g, 0, none⟩), .int .i64 n] w (DrewSl 33 2 encQ FewQ 60 w g p) := by
  have HR := Lib.hid hr
  clear hr
  go_enter Tryd.func30, Tryd.ntmps30
  go_wp2_with fail
  refine (pick_any _ _ _ _ (HR.out.alloc _) (by omega) (by omega)).mono ?_
  rintro e w2 ⟨a, rfl, ha, ho2, hr2⟩
  have ha' : a ≤ 4 := by omega
  have HR2 := Lib.hid hr2
  have HO2 := Lib.hid ((Only.of_below ((Below.refl w.heap.size w).alloc (Nat.le_refl _) _)).trans ho2)
  have HW := Lib.hid ((Own.made (enc := encQ) (E := 33) (size := 2) (Nat.le_refl w.heap.size)).only ho2 HR.out.lt)
  clear hr2 ho2 ha
  go_wp2_with fail
  go_loopw [5, 6, 7] (fun v i b wr => ∃ (k : Nat) (acc : List Qt) (p1 : Nat), k ≤ 4 ∧ i = .int .i64 k ∧ acc.length + k ≤ 4 ∧ Hid (∀ q ∈ acc, q.1.size ≤ 9) ∧ Own wr w.heap.size 33 2 encQ v acc ∧ Only g w wr ∧ Rdr wr g p1 ∧ p1 + 4 * k ≤ p + 40) (fun _ i _ _ => (intOf i).toNat)
  case atStart => exact ⟨a, [], p + 1, ha', rfl, by simp; omega, (by intro p hp; simp at hp), HW.out, HO2.out, HR2.out, by omega⟩
  case round =>
    obtain ⟨k, acc, p1, hk, rfl, hak, hall, hown, ho, hr1, hp1⟩ := hrel
    have HR1 := Lib.hid hr1
    have HO1 := Lib.hid ho
    have HW1 := Lib.hid hown
    clear hr1 ho hown
    by_cases hk0 : 0 < k
    · go_wp2_with fail
      refine (l20Path_any _ _ _ _ HR1.out (by omega) (by omega)).mono ?_
      rintro e w3 ⟨v3, p3, rfl, ⟨s, rfl, hs⟩, ho3, hr3, hp3⟩
      have HR3 := Lib.hid hr3
      have HO3 := Lib.hid (HO1.out.trans ho3)
      have HW3 := Lib.hid (HW1.out.only ho3 HR.out.lt)
      clear hr3 ho3
      go_wp2_with fail
      refine (pick_any 12 _ _ _ HR3.out (by omega) (by omega)).mono ?_
      rintro e w4 ⟨m, rfl, hm, ho4, hr4⟩
      have HR4 := Lib.hid hr4
      have HO4 := Lib.hid (HO3.out.trans ho4)
      have HW4 := Lib.hid (HW3.out.only ho4 HR.out.lt)
      clear hr4 ho4 hm
      generalize (m : Int) = M at *
      obtain ⟨y, rfl, rfl⟩ : ∃ y : Qt, s = y.1 ∧ M = y.2 := ⟨(s, M), rfl, rfl⟩
      have HK5 := Lib.hid (RowQ.new w4 y)
      have HO5 := Lib.hid (HO4.out.alloc (rowQ y))
      have HR5 := Lib.hid (HR4.out.alloc (rowQ y))
      have hW5 := HW4.out.alloc (rowQ y)
      obtain ⟨A, c, rfl, _, hsl, _⟩ := hW5.sl
      have HS1 := Lib.hid hsl
      have HC := Lib.hid hW5.cz
      have HW5 := Lib.hid hW5
      have HL := Lib.hid (show acc.length ≤ 16777216 by omega)
      have HLEN := Lib.hid (show (acc ++ [y]).length = acc.length + 1 by simp)
      have HFQ := Lib.hid (show FitQ (acc ++ [y]) from fun q hq => by
        rw [List.mem_append, List.mem_singleton] at hq
        rcases hq with hq | rfl
        · exact Nat.le_trans (hall.out q hq) (by omega)
        · exact Nat.le_trans hs (by omega))
      have hV2 : ∀ A c w, Sl w encQ 2 A (acc ++ [y]) → Calls Tryd.prog 8 #[.slice A (acc ++ [y]).length c] w fun e w' => e = .returned (.bool (quoV (acc ++ [y]))) ∧ Below w.heap.size w w' := fun A c w h => sQuotasValid_any A c _ w h (by simp; omega) HFQ.out
      rw [HLEN.out] at hV2
      generalize quoV (acc ++ [y]) = β at *
      have HV2 := Lib.hid hV2
      clear hV2 hsl hW5
      go_wp2_with fail
      revert HK5 HO5 HR5 HW5 HS1
      generalize hw5 : w4.alloc (rowQ y) = w5
      intro HK5 HO5 HR5 HS1 HW5
      clear hw5
      have HZ := Lib.hid (show w5.heap.size < (w5.alloc madeQ).heap.size by simp)
      have HZ2 := Lib.hid (show w5.heap.size < (w5.alloc (rowQ y)).heap.size by simp)
      have HKc := HK5.out
      unfold RowQ at HKc
      have HD := Lib.hid (Below.refl w5.heap.size w5).drew
      go_region_held3 (fun w' => w'.cell? ⟨w4.heap.size, 0, none⟩ = some (.string y.1) ∧ w'.cell? ⟨w4.heap.size, 1, none⟩ = some (.int .i64 y.2))
        (first | assumption | exact HK5.out.below HB6.out | exact HK5.out | exact HK5.out.below HD.out | exact HK5.out.below HB3.out | exact HK5.out.below HB2.out | exact HK5.out.below (HB2.out.alloc HB2.out.size _) | exact HK5.out.below ((Below.refl _ _).alloc (Nat.le_refl _) _).drew | exact HK5.out.below (((Below.refl _ _).alloc (Nat.le_refl _) _).alloc (Nat.le_of_lt HZ.out) _).drew | exact HK5.out.below (((Below.refl _ _).alloc (Nat.le_refl _) _).alloc (Nat.le_of_lt HZ2.out) _).drew)
        ((first
          | (refine step_qt_a HS1.out HC.out HL.out rfl rfl (by rfl) (by rfl) ?_; intro v2 w2 hown2 hb2; have HW2 := Lib.hid (hown2.alloc (rowQ y)); have HB2 := Lib.hid hb2; have HBR := Lib.hid (hb2.alloc hb2.size (rowQ y)); have HRR := Lib.hid (RowQ.new w2 y); clear hown2 hb2)
          | (refine step_qt_b (y := y) HS1.out HC.out HL.out rfl rfl (by rfl) (by rfl) ?_; intro v2 w2 hown2 hb2 hr2; have HW2 := Lib.hid hown2; have HB2 := Lib.hid hb2; have HBR := HB2; have HRR := Lib.hid hr2; clear hown2 hb2 hr2)
          | (refine step_qt_c (y := y) HS1.out HC.out HL.out rfl rfl (by rfl) (by rfl) ?_; intro v2 w2 hown2 hb2 hr2; have HW2 := Lib.hid hown2; have HB2 := Lib.hid hb2; have HBR := HB2; have HRR := Lib.hid hr2; clear hown2 hb2 hr2)
          | (refine step_qt rfl rfl HW2.out HBR.out HL.out HRR.out (by rfl) (by rfl) ?_; intro v3 w3 hown3 hb3; obtain ⟨X, d, ev, _, _, _⟩ := hown3.sl; rw [HLEN.out] at ev; subst ev; have HW3 := Lib.hid hown3.sl'; have HB3 := Lib.hid hb3; clear hown3 hb3)
          | (go_at_call 8; refine (HV2.out _ _ _ HW3.out).mono ?_; rintro e w6 ⟨rfl, hb6⟩; have HB6 := Lib.hid (Below_then HB3.out hb6 (Nat.le_refl _)); clear hb6)))
      all_goals
        have HW6 := Lib.hid (HW5.out.below HB6.out)
        have HO6 := Lib.hid (HO5.out.trans (Only.of_below HB6.out))
        have HR6 := Lib.hid (HR5.out.below HB6.out)
        have hk6 := HK5.out.below HB6.out
        have hc0 := hk6.1
        have hc1 := hk6.2
        clear hk6
        cases β
        · go_wp2
          go_roundw
          case rel => exact ⟨k - 1, acc, p3 + 1, by omega, by go_num, by omega, hall.out, HW6.out, HO6.out, HR6.out, by omega⟩
          case measure => simp [intOf]; omega
        · go_wp2_with (at_builtin; refine app_qt_only (y := y) rfl rfl rfl rfl HW6.out HO6.out HL.out ?_; intro v7 w7 hown7 hb7)
          go_roundw
          case rel => exact ⟨k - 1, _, p3 + 1, by omega, by go_num, by simp; omega, (by
            intro q hq
            rw [List.mem_append, List.mem_singleton] at hq
            rcases hq with hq | rfl
            · exact hall.out q hq
            · exact hs), hown7, HO6.out.and_below hb7, HR6.out.under HR.out.lt hb7, by omega⟩
          case measure => simp [intOf]; omega
    · have hk00 : k = 0 := by omega
      subst hk00
      go_wp2_with fail
      refine (odd_any _ _ _ _ HR1.out (by omega) hn).mono ?_
      rintro e w4 ⟨b, p4, rfl, ho4, hr4, hp4⟩
      have HR4 := Lib.hid hr4
      have HO4 := Lib.hid (HO1.out.trans ho4)
      have HW4 := Lib.hid (HW1.out.only ho4 HR.out.lt)
      clear hr4 ho4
      cases b
      · go_wp2_with fail
        go_ret
        exact ⟨_, _, _, rfl, HW4.out, ⟨by omega, hall.out⟩, HO4.out, HR4.out, by omega⟩
      · go_wp2_with fail
        refine (pick_any 4 _ _ _ (HR4.out.alloc _) (by omega) (by omega)).mono ?_
        rintro e w5 ⟨x, rfl, hx, ho5, hr5⟩
        have hx4 : x = 0 ∨ x = 1 ∨ x = 2 ∨ x = 3 := by omega
        have hlt4 := HR4.out.lt
        have HR5 := Lib.hid hr5
        have HO5 := Lib.hid ((HO4.out.alloc _).trans ho5)
        have HW5 := Lib.hid ((HW4.out.alloc _).only ho5 HR.out.lt)
        rcases hx4 with rfl | rfl | rfl | rfl
        · have hc0 := lit_cell ho5 hlt4 (k := 0) rfl
          have hc1 := lit_cell ho5 hlt4 (k := 1) rfl
          clear hr5 ho5
          go_wp2_with (at_builtin; refine app_qt_only (y := (⟨#[]⟩, 0)) rfl rfl rfl rfl HW5.out HO5.out (by omega) ?_; intro v7 w7 hown7 hb7)
          go_ret
          exact ⟨_, _, _, rfl, hown7, fewQ_snoc hak hall.out (by decide), HO5.out.and_below hb7, HR5.out.under HR.out.lt hb7, by omega⟩
        · have hc0 := lit_cell ho5 hlt4 (k := 2) rfl
          have hc1 := lit_cell ho5 hlt4 (k := 3) rfl
          clear hr5 ho5
          go_wp2_with (at_builtin; refine app_qt_only (y := (⟨#[97]⟩, 0)) rfl rfl rfl rfl HW5.out HO5.out (by omega) ?_; intro v7 w7 hown7 hb7)
          go_ret
          exact ⟨_, _, _, rfl, hown7, fewQ_snoc hak hall.out (by decide), HO5.out.and_below hb7, HR5.out.under HR.out.lt hb7, by omega⟩
        · have hc0 := lit_cell ho5 hlt4 (k := 4) rfl
          have hc1 := lit_cell ho5 hlt4 (k := 5) rfl
          clear hr5 ho5
          go_wp2_with (at_builtin; refine app_qt_only (y := (⟨#[47, 122]⟩, -1)) rfl rfl rfl rfl HW5.out HO5.out (by omega) ?_; intro v7 w7 hown7 hb7)
          go_ret
          exact ⟨_, _, _, rfl, hown7, fewQ_snoc hak hall.out (by decide), HO5.out.and_below hb7, HR5.out.under HR.out.lt hb7, by omega⟩
        · have hc0 := lit_cell ho5 hlt4 (k := 6) rfl
          have hc1 := lit_cell ho5 hlt4 (k := 7) rfl
          clear hr5 ho5
          go_wp2_with (at_builtin; refine app_qt_only (y := (⟨#[47, 122]⟩, 1001)) rfl rfl rfl rfl HW5.out HO5.out (by omega) ?_; intro v7 w7 hown7 hb7)
          go_ret
          exact ⟨_, _, _, rfl, hown7, fewQ_snoc hak hall.out (by decide), HO5.out.and_below hb7, HR5.out.under HR.out.lt hb7, by omega⟩
def DrawnQts (w : World) (e : Ending) (w' : World) : Prop :=
  ∃ (v : Value) (l : List Qt), e = .returned v ∧ Own w' w.heap.size 33 2 encQ v l ∧ FewQ l ∧ Below w.heap.size w w'
set_option maxHeartbeats 2000000 in
set_option maxRecDepth 100000 in
theorem DrawQuotasValid_any (A : Option Addr) (n c : Nat) (w : World) (hb : BytesIn w A n c) :
    Calls Tryd.prog 12 #[.slice A n c] w (DrawnQts w) := by
  go_enter Tryd.func12, Tryd.ntmps12
  go_wp2_with fail
  refine (l20Open_any _ _ _ _ hb).mono ?_
  rintro e w1 ⟨rfl, hb1, hr1, hz1⟩
  have HR1 := Lib.hid hr1
  have HB1 := Lib.hid hb1
  clear hr1 hb1 hz1
  go_wp2_with fail
  refine (l20Quotas_any _ _ _ _ HR1.out (by omega) (by omega)).mono ?_
  rintro e w2 ⟨v1, l1, p2, rfl, hown, hf1, ho2, hr2, hp2⟩
  have HO2 := Lib.hid ho2
  have HW2 := Lib.hid hown
  have HF1 := Lib.hid hf1
  clear hr2 ho2 hown hf1
  go_wp2
  go_ret
  exact ⟨_, l1, rfl, HW2.out.mono HB1.out.size, HF1.out, HB1.out.trans (HO2.out.below (Nat.le_refl _) HB1.out.size)⟩
end Go.Proofs.YtaeaccakkielmaaDoor

/- Words of a text, and repaired pieces, in plain Lean. -/
set_option linter.unusedVariables false
namespace Go.Proofs.YtaeaccakkielmaaDoor

def addW (acc : List Bs) (w : Bs) : List Bs := if wordV w && !acc.contains w then acc ++ [w] else acc
/-- The parts between spaces; 'cur' is what of the first part was read. -/
def spl : Bs → Bs → List Bs
  | cur, [] => [cur]
  | cur, c :: r => if c = 32 then cur :: spl [] r else spl (cur ++ [c]) r
def wordsOf (s : Bs) : List Bs := if textV s then (spl [] s).foldl addW [] else []
/-- The reference's way: byte by byte. -/
def wrun : List Bs → Bs → Bs → List Bs × Bs
  | out, w, [] => (out, w)
  | out, w, c :: r => if c = 32 then wrun (addW out w) [] r else wrun out (w ++ [c]) r
theorem wrun_spl : ∀ (r : Bs) (out : List Bs) (w : Bs), addW (wrun out w r).1 (wrun out w r).2 = (spl w r).foldl addW out
  | [], out, w => rfl
  | c :: r, out, w => by
    rw [wrun, spl]
    split
    · rw [wrun_spl r]; rfl
    · rw [wrun_spl r]
theorem wrun_snoc : ∀ (r : Bs) (out : List Bs) (w : Bs) (c : UInt8), wrun out w (r ++ [c]) = if c = 32 then (addW (wrun out w r).1 (wrun out w r).2, []) else ((wrun out w r).1, (wrun out w r).2 ++ [c])
  | [], out, w, c => by simp only [List.nil_append, wrun]
  | d :: r, out, w, c => by
    rw [List.cons_append, wrun, wrun]
    split
    · exact wrun_snoc r _ _ c
    · exact wrun_snoc r _ _ c
/-- All valid, none twice. -/
def WordsOk (l : List Bs) : Prop := (∀ w ∈ l, wordV w = true) ∧ l.Nodup
theorem addW_ok {l : List Bs} (w : Bs) (h : WordsOk l) : WordsOk (addW l w) := by
  unfold addW
  split
  · rename_i hh
    simp only [Bool.and_eq_true, Bool.not_eq_true', List.contains_eq_mem, decide_eq_false_iff_not] at hh
    refine ⟨fun x hx => ?_, ?_⟩
    · rw [List.mem_append, List.mem_singleton] at hx
      rcases hx with hx | rfl
      · exact h.1 x hx
      · exact hh.1
    · rw [List.nodup_append]
      refine ⟨h.2, by simp, fun a ha b hb => ?_⟩
      rw [List.mem_singleton] at hb; subst hb
      rintro rfl
      exact hh.2 ha
  · exact h
theorem foldl_ok : ∀ (ps : List Bs) (l : List Bs), WordsOk l → WordsOk (ps.foldl addW l)
  | [], l, h => h
  | p :: ps, l, h => foldl_ok ps _ (addW_ok p h)
theorem wordsOf_ok (s : Bs) : WordsOk (wordsOf s) := by
  unfold wordsOf
  split
  · exact foldl_ok _ _ ⟨by simp, List.nodup_nil⟩
  · exact ⟨by simp, List.nodup_nil⟩
theorem spl_append : ∀ (r : Bs) (cur q : Bs), spl cur (r ++ 32 :: q) = spl cur r ++ spl [] q
  | [], cur, q => by simp [spl]
  | c :: r, cur, q => by
    rw [List.cons_append, spl, spl]
    split
    · rw [spl_append r]; rfl
    · rw [spl_append r]
theorem wordsOf_zoo {s : Bs} (h : textV (s ++ [32, 122, 111, 111]) = true) : textV s = true ∧ wordsOf (s ++ [32, 122, 111, 111]) = addW (wordsOf s) [122, 111, 111] := by
  have hs : textV s = true := by
    unfold textV at *
    rw [Bool.and_eq_true, decide_eq_true_eq] at *
    rw [List.all_append, Bool.and_eq_true] at h
    refine ⟨?_, h.2.1⟩
    have := h.1; simp at this; omega
  refine ⟨hs, ?_⟩
  unfold wordsOf
  rw [if_pos h, if_pos hs, spl_append, List.foldl_append]
  rfl
theorem spl_len : ∀ (r cur : Bs), (spl cur r).length ≤ r.length + 1
  | [], cur => by simp [spl]
  | c :: r, cur => by
    rw [spl]; split
    · have := spl_len r []; simp; omega
    · have := spl_len r (cur ++ [c]); simp; omega
theorem foldl_len : ∀ (ps l : List Bs), (ps.foldl addW l).length ≤ l.length + ps.length
  | [], l => by simp
  | p :: ps, l => by
    have := foldl_len ps (addW l p)
    have h2 : (addW l p).length ≤ l.length + 1 := by unfold addW; split <;> simp
    simp only [List.foldl_cons, List.length_cons]; omega
theorem textV_le {s : Bs} (h : textV s = true) : s.length ≤ 60 := by
  unfold textV at h; rw [Bool.and_eq_true] at h; simpa using h.1
theorem wordsOf_len (s : Bs) : (wordsOf s).length ≤ 61 := by
  unfold wordsOf; split
  · rename_i h
    have h1 := foldl_len (spl [] s) []
    have h2 := spl_len s []
    have h3 := textV_le h
    simp at h1; omega
  · simp
/-- Every part is no longer than the text. -/
theorem spl_short : ∀ (r cur : Bs), ∀ p ∈ spl cur r, p.length ≤ cur.length + r.length
  | [], cur, p, h => by simp [spl] at h; subst h; simp
  | c :: r, cur, p, h => by
    rw [spl] at h
    split at h
    · rw [List.mem_cons] at h
      rcases h with rfl | h
      · omega
      · have := spl_short r [] p h; simp at this ⊢; omega
    · have := spl_short r _ p h; simp at this ⊢; omega
def commonW (a b : Bs) : List Bs := (wordsOf a).filter fun w => (wordsOf b).contains w
theorem commonW_self (a : Bs) : commonW a a = wordsOf a := by
  unfold commonW; rw [List.filter_eq_self]; intro w hw; simpa using hw
theorem commonW_len (a b : Bs) : (commonW a b).length = (commonW b a).length := by
  have h1 := wordsOf_ok a
  have h2 := wordsOf_ok b
  have hp : (commonW a b).Perm (commonW b a) := by
    refine (List.perm_ext_iff_of_nodup (h1.2.filter _) (h2.2.filter _)).2 fun w => ?_
    simp only [List.mem_filter, List.contains_eq_mem, decide_eq_true_eq]
    exact And.comm
  exact hp.length_eq
theorem commonW_le (a b : Bs) : (commonW a b).length ≤ (wordsOf a).length := List.length_filter_le _ _
end Go.Proofs.YtaeaccakkielmaaDoor

/- Cutting a text at a byte, in plain Lean: the library's words and ours. -/
set_option linter.unusedVariables false
namespace Go.Proofs.YtaeaccakkielmaaDoor
open Go.Lib (splitK index indexByte)
theorem index_hit (x : UInt8) (r : Bs) : index (x :: r) [x] = 0 := by rw [Go.Lib.index_one, indexByte]; simp
theorem index_skip {x c : UInt8} (h : c ≠ x) (r : Bs) : index (c :: r) [x] = if index r [x] == -1 then -1 else index r [x] + 1 := by
  rw [Go.Lib.index_one, Go.Lib.index_one, indexByte]
  have : (c == x) = false := by simpa using h
  rw [this]; simp
theorem index_nil (x : UInt8) : index [] [x] = -1 := rfl
theorem splitK_hit (x : UInt8) (k : Nat) (r : Bs) : splitK [x] 0 (k + 1) (x :: r) = [] :: splitK [x] 0 k r := by
  rw [splitK, index_hit]; rfl
theorem splitK_ne (x : UInt8) : ∀ (k : Nat) (s : Bs), splitK [x] 0 k s ≠ []
  | 0, s => by simp [splitK]
  | k + 1, s => by rw [splitK]; split <;> simp
/-- One byte more ahead, which is not the one at which it is cut. -/
def onHead (c : UInt8) : List Bs → List Bs
  | [] => []
  | p :: ps => (c :: p) :: ps
theorem splitK_skip {x c : UInt8} (h : c ≠ x) : ∀ (k : Nat) (r : Bs), splitK [x] 0 k (c :: r) = onHead c (splitK [x] 0 k r)
  | 0, r => rfl
  | k + 1, r => by
    have hge := Go.Lib.index_ge r [x]
    rw [splitK, splitK, index_skip h]
    by_cases e : index r [x] = -1
    · simp [e, onHead]
    · have e1 : (index r [x] == -1) = false := by simpa using e
      have e2 : (index r [x] + 1 == -1) = false := by simp; omega
      rw [e1]
      simp only [Bool.false_eq_true, if_false, e2]
      have e3 : (index r [x] + 1).toNat = (index r [x]).toNat + 1 := by omega
      rw [e3]
      simp [onHead]
theorem index_count (x : UInt8) : ∀ (s : Bs), (index s [x] = -1 → s.count x = 0) ∧ (∀ i : Nat, index s [x] = i → i < s.length ∧ s.count x = 1 + (s.drop (i + 1)).count x)
  | [] => ⟨fun _ => rfl, fun i h => by rw [index_nil] at h; omega⟩
  | c :: r => by
    have ih := index_count x r
    have hge := Go.Lib.index_ge r [x]
    by_cases e : c = x
    · subst e
      rw [index_hit]
      refine ⟨fun h => by omega, fun i h => ?_⟩
      have : i = 0 := by omega
      subst this
      simp; omega
    · rw [index_skip e, List.count_cons_of_ne (by simpa using e)]
      by_cases e2 : index r [x] = -1
      · rw [e2]
        refine ⟨fun _ => ih.1 e2, fun i h => ?_⟩
        simp at h
      · have e3 : (index r [x] == -1) = false := by simpa using e2
        rw [e3]
        simp only [Bool.false_eq_true, if_false]
        refine ⟨fun h => by omega, fun i h => ?_⟩
        obtain ⟨j, hj⟩ := Int.eq_ofNat_of_zero_le (show 0 ≤ index r [x] by omega)
        have h2 := ih.2 j hj
        have : i = j + 1 := by omega
        subst this
        simp only [List.length_cons, List.drop_succ_cons]
        exact ⟨by omega, h2.2⟩
theorem countFrom_one (x : UInt8) : ∀ (f : Nat) (s : Bs), s.length < f → Go.Lib.countFrom [x] f s = s.count x
  | 0, s, h => by omega
  | f + 1, s, h => by
    rw [Go.Lib.countFrom]
    have hc := index_count x s
    have hge := Go.Lib.index_ge s [x]
    by_cases e : index s [x] = -1
    · rw [e, hc.1 e]; rfl
    · have e2 : (index s [x] == -1) = false := by simpa using e
      rw [e2]
      simp only [Bool.false_eq_true, if_false]
      obtain ⟨j, hj⟩ := Int.eq_ofNat_of_zero_le (show 0 ≤ index s [x] by omega)
      have h2 := hc.2 j hj
      rw [hj, Int.toNat_natCast, h2.2]
      congr 1
      exact countFrom_one x f _ (by simp; omega)
theorem count_one (s : Bs) (x : UInt8) : Go.Lib.count s [x] = s.count x := countFrom_one x _ s (by omega)
theorem spl_splitK : ∀ (s : Bs) (k : Nat) (cur : Bs), s.count 32 ≤ k → spl cur s = match splitK [32] 0 k s with | p :: ps => (cur ++ p) :: ps | [] => []
  | [], k, cur, _ => by
    cases k <;> simp [splitK, spl, index_nil]
  | c :: r, k, cur, h => by
    rw [spl]
    by_cases e : c = 32
    · subst e
      rw [if_pos rfl]
      cases k with
      | zero => simp at h
      | succ k =>
        rw [splitK_hit]
        have ih := spl_splitK r k [] (by simp at h; omega)
        rw [ih]
        cases hs : splitK [32] 0 k r with
        | nil => exact absurd hs (splitK_ne _ _ _)
        | cons p ps => simp
    · rw [if_neg e]
      have ih := spl_splitK r k (cur ++ [c]) (by rw [List.count_cons_of_ne (by simpa using e)] at h; exact h)
      rw [ih, splitK_skip e]
      cases hs : splitK [32] 0 k r with
      | nil => exact absurd hs (splitK_ne _ _ _)
      | cons p ps => simp [onHead]
theorem split_spl (s : Bs) : splitK [32] 0 (Go.Lib.count s [32]) s = spl [] s := by
  have h := spl_splitK s (Go.Lib.count s [32]) [] (by rw [count_one]; exact Nat.le_refl _)
  rw [h]
  cases hs : splitK [32] 0 (Go.Lib.count s [32]) s with
  | nil => exact absurd hs (splitK_ne _ _ _)
  | cons p ps => simp
theorem spl_count : ∀ (r cur : Bs), (spl cur r).length = r.count 32 + 1
  | [], cur => by simp [spl]
  | c :: r, cur => by
    rw [spl]
    by_cases e : c = 32
    · subst e; rw [if_pos rfl, List.length_cons, spl_count r []]; simp
    · rw [if_neg e, spl_count r, List.count_cons_of_ne (by simpa using e)]
/-- The library's pieces, as texts. -/
theorem splitB_spl (s : ByteArray) : Go.Lib.splitB ⟨#[32]⟩ 0 (Go.Lib.countB s ⟨#[32]⟩) s = (spl [] s.data.toList).map mk := by
  have h := Go.Lib.splitB_data ⟨#[32]⟩ 0 (Go.Lib.countB s ⟨#[32]⟩) s
  have h2 : (Go.Lib.splitB ⟨#[32]⟩ 0 (Go.Lib.countB s ⟨#[32]⟩) s).map (·.data.toList) = spl [] s.data.toList := by
    rw [h]; exact split_spl _
  rw [← h2, List.map_map]
  have e : (mk ∘ fun x : ByteArray => x.data.toList) = id := by funext x; exact mk_bs x
  rw [e, List.map_id]
theorem countB_spl (s : ByteArray) : Go.Lib.countB s ⟨#[32]⟩ + 1 = (spl [] s.data.toList).length := by
  rw [spl_count]; show Go.Lib.count s.data.toList [32] + 1 = _; rw [count_one]
end Go.Proofs.YtaeaccakkielmaaDoor

/- The library's contracts at this dump, in plain words: written by the kit's tools lay-shelf, lay-plain; kept: strings_Cut, strings_CutPrefix, strings_SplitN, strings_Join, strings_Join_none, strings_Join_one and what they lean on. -/
set_option linter.unusedVariables false
namespace Go.Proofs
open Go.Shelf
def Tryd.lays156_ren : Go.Shelf.Ren := ⟨fun | 156 => 66 | 165 => 82 | 166 => 83 | 169 => 84 | 240 => 105 | 241 => 106 | 276 => 120 | 277 => 121 | n => n, fun | 31 => 37 | 9 => 9 | 3 => 3 | 4 => 4 | 0 => 0 | 20 => 20 | 72 => 100 | 76 => 104 | 70 => 98 | 37 => 29 | 75 => 103 | 127 => 125 | 164 => 138 | 5 => 5 | 80 => 106 | n => n, fun | n => n⟩
theorem Tryd.lays156 : Go.Proofs.Lays.n156 Tryd.prog Tryd.lays156_ren := {
  mixed := by kernel_rfl
  f156 := Tryd.func66.trans (congrArg some (by kernel_rfl))
  f165 := Tryd.func82.trans (congrArg some (by kernel_rfl))
  f166 := Tryd.func83.trans (congrArg some (by kernel_rfl))
  f169 := Tryd.func84.trans (congrArg some (by kernel_rfl))
  f240 := Tryd.func105.trans (congrArg some (by kernel_rfl))
  f241 := Tryd.func106.trans (congrArg some (by kernel_rfl))
  f276 := Tryd.func120.trans (congrArg some (by kernel_rfl))
  f277 := Tryd.func121.trans (congrArg some (by kernel_rfl))
  t0 := Tryd.underlying0
  a0 := Tryd.isAgg0
  z0 := Tryd.sizeOf0
  v0 := Tryd.zeroValue0
  t3 := Tryd.underlying3
  a3 := Tryd.isAgg3
  z3 := Tryd.sizeOf3
  v3 := Tryd.zeroValue3
  t4 := Tryd.underlying4
  a4 := Tryd.isAgg4
  z4 := Tryd.sizeOf4
  v4 := Tryd.zeroValue4
  t9 := Tryd.underlying9
  a9 := Tryd.isAgg9
  z9 := Tryd.sizeOf9
  v9 := Tryd.zeroValue9
  t20 := Tryd.underlying20
  a20 := Tryd.isAgg20
  z20 := Tryd.sizeOf20
  v20 := Tryd.zeroValue20
  t31 := Tryd.underlying37
  a31 := Tryd.isAgg37
  z31 := Tryd.sizeOf37
  v31 := Tryd.zeroValue37
  t37 := Tryd.underlying29
  a37 := Tryd.isAgg29
  z37 := Tryd.sizeOf29
  v37 := Tryd.zeroValue29
  t70 := Tryd.underlying98
  a70 := Tryd.isAgg98
  z70 := Tryd.sizeOf98
  v70 := Tryd.zeroValue98
  t72 := Tryd.underlying100
  a72 := Tryd.isAgg100
  z72 := Tryd.sizeOf100
  v72 := Tryd.zeroValue100
  t75 := Tryd.underlying103
  a75 := Tryd.isAgg103
  z75 := Tryd.sizeOf103
  v75 := Tryd.zeroValue103
  t76 := Tryd.underlying104
  a76 := Tryd.isAgg104
  z76 := Tryd.sizeOf104
  v76 := Tryd.zeroValue104
  t127 := Tryd.underlying125
  a127 := Tryd.isAgg125
  z127 := Tryd.sizeOf125
  v127 := Tryd.zeroValue125
  t164 := Tryd.underlying138
  a164 := Tryd.isAgg138
  z164 := Tryd.sizeOf138
  v164 := Tryd.zeroValue138 }
theorem Tryd.Builder_Extra_156 : Builder.Extra Tryd.prog Tryd.lays156_ren := {
  sizeBuilder := by kernel_rfl
  liesBuilder := by kernel_rfl
  t5 := Tryd.underlying5
  a5 := Tryd.isAgg5
  z5 := Tryd.sizeOf5
  v5 := Tryd.zeroValue5
  infoByte := by kernel_rfl
  cellsByte := by kernel_rfl
  sizeByte := by kernel_rfl
  neB5 := by decide }
open Go.RowKit in
theorem Tryd.strings_Join_none (a : Option Addr) (c : Nat) (sep : ByteArray) (w : World) :
    Calls Tryd.prog 66 #[.slice a 0 c, .string sep] w fun e w' => e = .returned (.string ⟨#[]⟩) ∧ w' = w := Any.strings_Join_none Tryd.lays156 Tryd.Builder_Extra_156 a c sep w
open Go.RowKit in
theorem Tryd.strings_Join (bk o c : Nat) (xs : List ByteArray) (sep : ByteArray) (w : World) (hcells : ∀ (j : Nat) x, xs[j]? = some x → w.cell? ⟨bk, o + j, none⟩ = some (.string x)) (hbk : bk < w.heap.size) (hN : xs.length ≤ 140737488355328) (hcap : xs.length ≤ c) (hlen : (Lib.join (xs.map (·.data.toList)) sep.data.toList).length ≤ 140737488355328) :
    Calls Tryd.prog 66 #[.slice (some ⟨bk, o, none⟩) xs.length c, .string sep] w fun e w' => e = .returned (.string ⟨(Lib.join (xs.map (·.data.toList)) sep.data.toList).toArray⟩) ∧ Below w.heap.size w w' := Any.strings_Join Tryd.lays156 Tryd.Builder_Extra_156 bk o c xs sep w hcells hbk hN hcap hlen
def Tryd.lays103_ren : Go.Shelf.Ren := ⟨fun | 103 => 48 | 210 => 64 | 206 => 78 | n => n, fun | 9 => 9 | 4 => 4 | 24 => 68 | 3 => 3 | n => n, fun | n => n⟩
theorem Tryd.lays103 : Go.Proofs.Lays.n103 Tryd.prog Tryd.lays103_ren := {
  mixed := by kernel_rfl
  f103 := Tryd.func48.trans (congrArg some (by kernel_rfl))
  f206 := Tryd.func78.trans (congrArg some (by kernel_rfl))
  f210 := Tryd.func64.trans (congrArg some (by kernel_rfl))
  t3 := Tryd.underlying3
  a3 := Tryd.isAgg3
  z3 := Tryd.sizeOf3
  v3 := Tryd.zeroValue3
  t4 := Tryd.underlying4
  a4 := Tryd.isAgg4
  z4 := Tryd.sizeOf4
  v4 := Tryd.zeroValue4
  t9 := Tryd.underlying9
  a9 := Tryd.isAgg9
  z9 := Tryd.sizeOf9
  v9 := Tryd.zeroValue9
  t24 := Tryd.underlying68
  a24 := Tryd.isAgg68
  z24 := Tryd.sizeOf68
  v24 := Tryd.zeroValue68 }
open Go.RowKit in
theorem Tryd.strings_CutPrefix (s p : ByteArray) (w : World) :
    Calls Tryd.prog 48 #[.string s, .string p] w fun e w' => e = .returned (.tuple #[.string ⟨(Lib.trimPrefix s.data.toList p.data.toList).toArray⟩, .bool (Lib.hasPrefix s.data.toList p.data.toList)]) ∧ w' = w := Any.strings_CutPrefix Tryd.lays103 s p w
def Tryd.lays145_ren : Go.Shelf.Ren := ⟨fun | 145 => 38 | 220 => 59 | 219 => 72 | 217 => 96 | 225 => 97 | 224 => 98 | 267 => 99 | 266 => 116 | 314 => 117 | n => n, fun | 9 => 9 | 4 => 4 | 59 => 61 | 3 => 3 | 5 => 5 | 46 => 122 | 146 => 135 | 51 => 132 | n => n, fun | 1 => 0 | n => n⟩
theorem Tryd.lays145 : Go.Proofs.Lays.n145 Tryd.prog Tryd.lays145_ren := {
  mixed := by kernel_rfl
  f145 := Tryd.func38.trans (congrArg some (by kernel_rfl))
  f217 := Tryd.func96.trans (congrArg some (by kernel_rfl))
  f219 := Tryd.func72.trans (congrArg some (by kernel_rfl))
  f220 := Tryd.func59.trans (congrArg some (by kernel_rfl))
  f224 := Tryd.func98.trans (congrArg some (by kernel_rfl))
  f225 := Tryd.func97.trans (congrArg some (by kernel_rfl))
  f266 := Tryd.func116.trans (congrArg some (by kernel_rfl))
  f267 := Tryd.func99.trans (congrArg some (by kernel_rfl))
  f314 := Tryd.func117.trans (congrArg some (by kernel_rfl))
  t3 := Tryd.underlying3
  a3 := Tryd.isAgg3
  z3 := Tryd.sizeOf3
  v3 := Tryd.zeroValue3
  t4 := Tryd.underlying4
  a4 := Tryd.isAgg4
  z4 := Tryd.sizeOf4
  v4 := Tryd.zeroValue4
  t5 := Tryd.underlying5
  a5 := Tryd.isAgg5
  z5 := Tryd.sizeOf5
  v5 := Tryd.zeroValue5
  t9 := Tryd.underlying9
  a9 := Tryd.isAgg9
  z9 := Tryd.sizeOf9
  v9 := Tryd.zeroValue9
  t46 := Tryd.underlying122
  a46 := Tryd.isAgg122
  z46 := Tryd.sizeOf122
  v46 := Tryd.zeroValue122
  t51 := Tryd.underlying132
  a51 := Tryd.isAgg132
  z51 := Tryd.sizeOf132
  v51 := Tryd.zeroValue132
  t59 := Tryd.underlying61
  a59 := Tryd.isAgg61
  z59 := Tryd.sizeOf61
  v59 := Tryd.zeroValue61
  t146 := Tryd.underlying135
  a146 := Tryd.isAgg135
  z146 := Tryd.sizeOf135
  v146 := Tryd.zeroValue135
  g1 := by kernel_rfl }
open Go.RowKit Go.Lib in
theorem Tryd.strings_Cut (s sep : ByteArray) (m : Int) (w : World) (hs : s.size < 4294967281) (hm : w.cell? ⟨0, 0, none⟩ = some (.int .i64 m)) :
    Calls Tryd.prog 38 #[.string s, .string sep] w fun e w' => e = .returned (.tuple #[.string ⟨(Lib.cut s.data.toList sep.data.toList).1.toArray⟩, .string ⟨(Lib.cut s.data.toList sep.data.toList).2.1.toArray⟩, .bool (Lib.cut s.data.toList sep.data.toList).2.2]) ∧ ∃ n, w' = w.drewN n := Any.strings_Cut Tryd.lays145 s sep m w hs hm
def Tryd.lays147_ren : Go.Shelf.Ren := ⟨fun | 147 => 49 | 221 => 65 | 268 => 79 | 138 => 80 | 143 => 81 | 195 => 102 | 197 => 103 | 218 => 104 | 219 => 72 | 260 => 119 | 217 => 96 | 225 => 97 | 224 => 98 | 267 => 99 | 266 => 116 | 314 => 117 | n => n, fun | 9 => 9 | 3 => 3 | 31 => 37 | 4 => 4 | 0 => 0 | 105 => 123 | 21 => 21 | 5 => 5 | 46 => 122 | 119 => 143 | 139 => 146 | 138 => 145 | 146 => 135 | 51 => 132 | n => n, fun | 1 => 0 | 3 => 2 | 4 => 3 | n => n⟩
theorem Tryd.lays147 : Go.Proofs.Lays.n147 Tryd.prog Tryd.lays147_ren := {
  mixed := by kernel_rfl
  f138 := Tryd.func80.trans (congrArg some (by kernel_rfl))
  f143 := Tryd.func81.trans (congrArg some (by kernel_rfl))
  f147 := Tryd.func49.trans (congrArg some (by kernel_rfl))
  f195 := Tryd.func102.trans (congrArg some (by kernel_rfl))
  f197 := Tryd.func103.trans (congrArg some (by kernel_rfl))
  f217 := Tryd.func96.trans (congrArg some (by kernel_rfl))
  f218 := Tryd.func104.trans (congrArg some (by kernel_rfl))
  f219 := Tryd.func72.trans (congrArg some (by kernel_rfl))
  f221 := Tryd.func65.trans (congrArg some (by kernel_rfl))
  f224 := Tryd.func98.trans (congrArg some (by kernel_rfl))
  f225 := Tryd.func97.trans (congrArg some (by kernel_rfl))
  f260 := Tryd.func119.trans (congrArg some (by kernel_rfl))
  f266 := Tryd.func116.trans (congrArg some (by kernel_rfl))
  f267 := Tryd.func99.trans (congrArg some (by kernel_rfl))
  f268 := Tryd.func79.trans (congrArg some (by kernel_rfl))
  f314 := Tryd.func117.trans (congrArg some (by kernel_rfl))
  t0 := Tryd.underlying0
  a0 := Tryd.isAgg0
  z0 := Tryd.sizeOf0
  v0 := Tryd.zeroValue0
  t3 := Tryd.underlying3
  a3 := Tryd.isAgg3
  z3 := Tryd.sizeOf3
  v3 := Tryd.zeroValue3
  t4 := Tryd.underlying4
  a4 := Tryd.isAgg4
  z4 := Tryd.sizeOf4
  v4 := Tryd.zeroValue4
  t5 := Tryd.underlying5
  a5 := Tryd.isAgg5
  z5 := Tryd.sizeOf5
  v5 := Tryd.zeroValue5
  t9 := Tryd.underlying9
  a9 := Tryd.isAgg9
  z9 := Tryd.sizeOf9
  v9 := Tryd.zeroValue9
  t21 := Tryd.underlying21
  a21 := Tryd.isAgg21
  z21 := Tryd.sizeOf21
  v21 := Tryd.zeroValue21
  t31 := Tryd.underlying37
  a31 := Tryd.isAgg37
  z31 := Tryd.sizeOf37
  v31 := Tryd.zeroValue37
  t46 := Tryd.underlying122
  a46 := Tryd.isAgg122
  z46 := Tryd.sizeOf122
  v46 := Tryd.zeroValue122
  t51 := Tryd.underlying132
  a51 := Tryd.isAgg132
  z51 := Tryd.sizeOf132
  v51 := Tryd.zeroValue132
  t105 := Tryd.underlying123
  a105 := Tryd.isAgg123
  z105 := Tryd.sizeOf123
  v105 := Tryd.zeroValue123
  t119 := Tryd.underlying143
  a119 := Tryd.isAgg143
  z119 := Tryd.sizeOf143
  t138 := Tryd.underlying145
  a138 := Tryd.isAgg145
  z138 := Tryd.sizeOf145
  v138 := Tryd.zeroValue145
  t139 := Tryd.underlying146
  a139 := Tryd.isAgg146
  z139 := Tryd.sizeOf146
  v139 := Tryd.zeroValue146
  t146 := Tryd.underlying135
  a146 := Tryd.isAgg135
  z146 := Tryd.sizeOf135
  v146 := Tryd.zeroValue135
  g1 := by kernel_rfl
  g3 := by kernel_rfl
  g4 := by kernel_rfl }
open Go.RowKit Go.Lib in
theorem Tryd.strings_SplitN (s sep : ByteArray) (n : Nat) (m : Int) (w : World) (hs : s.size < 4294967281) (hm : w.cell? ⟨0, 0, none⟩ = some (.int .i64 m)) (h1 : 1 ≤ sep.size) (hn : 1 ≤ n) (hn63 : n ≤ 9223372036854775807) :
    Calls Tryd.prog 49 #[.string s, .string sep, .int .i64 n] w fun e w' =>
      e = .returned (.slice (some ⟨w.heap.size, 0, none⟩) (Lib.splitB sep 0 (min n (s.size + 1) - 1) s).length (min n (s.size + 1))) ∧ w' = w.alloc (.cells (Lib.cellsOf (Lib.splitB sep 0 (min n (s.size + 1) - 1) s) (min n (s.size + 1))) 9) := Any.strings_SplitN Tryd.lays147 (by kernel_rfl) s sep n m w hs hm h1 hn hn63
end Go.Proofs

/- The library's variable MaxLen. -/
set_option linter.unusedVariables false
namespace Go.Proofs.YtaeaccakkielmaaDoor
open Go.RowKit
/-- The library's own variable holds some number. -/
def MaxL (w : World) : Prop := ∃ m, w.cell? ⟨0, 0, none⟩ = some (.int .i64 m)
theorem MaxL.below {w w' : World} (h : MaxL w) (hb : Below w.heap.size w w') : MaxL w' := by
  obtain ⟨m, hm⟩ := h; exact ⟨m, Below_cells hb _ _ _ hm⟩
theorem MaxL.lt {w : World} (h : MaxL w) : 0 < w.heap.size := by
  obtain ⟨m, hm⟩ := h; exact World.block_lt_of_cell? w _ hm
end Go.Proofs.YtaeaccakkielmaaDoor

/- strings.Cut at a byte. -/
set_option linter.unusedVariables false
namespace Go.Proofs.YtaeaccakkielmaaDoor
open Go.RowKit
def headC (c : UInt8) (s : Bs) : Bs := s.takeWhile fun x => x != c
def cutC (c : UInt8) (s : Bs) : Option (Bs × Bs) := if (headC c s).length < s.length then some (headC c s, s.drop ((headC c s).length + 1)) else none
theorem headC_le (c : UInt8) (s : Bs) : (headC c s).length ≤ s.length := (List.takeWhile_sublist _).length_le
theorem headC_cons (c x : UInt8) (r : Bs) : headC c (x :: r) = if x = c then [] else x :: headC c r := by
  unfold headC; rw [List.takeWhile_cons]
  by_cases h : x = c <;> simp [h]
theorem headC_take (c : UInt8) : ∀ s : Bs, headC c s = s.take (headC c s).length
  | [] => rfl
  | x :: r => by
    rw [headC_cons]
    split
    · rfl
    · rw [List.length_cons, List.take_succ_cons, ← headC_take c r]
theorem headC_ne (c : UInt8) : ∀ (s : Bs) (j : Nat) (h : j < s.length), j < (headC c s).length → s[j] ≠ c
  | [], j, h, _ => by simp at h
  | x :: r, j, h, hj => by
    rw [headC_cons] at hj
    split at hj
    · simp at hj
    · rename_i hx
      cases j with
      | zero => simpa using hx
      | succ j => simpa using headC_ne c r j (by simpa using h) (by simpa using hj)
theorem headC_at (c : UInt8) : ∀ (s : Bs) (h : (headC c s).length < s.length), s[(headC c s).length] = c
  | [], h => by simp at h
  | x :: r, h => by
    by_cases hx : x = c
    · have e : headC c (x :: r) = [] := by rw [headC_cons, if_pos hx]
      simp only [e, List.length_nil, List.getElem_cons_zero]; exact hx
    · have e : headC c (x :: r) = x :: headC c r := by rw [headC_cons, if_neg hx]
      have h' : (headC c r).length < r.length := by rw [e] at h; simpa using h
      have := headC_at c r h'
      simp only [e, List.length_cons, List.getElem_cons_succ]; exact this
theorem idx_head (c : UInt8) : ∀ s : Bs, Lib.indexByte s c = if (headC c s).length < s.length then ((headC c s).length : Int) else -1
  | [] => rfl
  | x :: r => by
    unfold Lib.indexByte headC
    rw [List.takeWhile_cons]
    by_cases h : x = c
    · subst h; simp
    · have ih := idx_head c r
      have h1 : (x == c) = false := beq_eq_false_iff_ne.2 h
      have h2 : (x != c) = true := by simp [h]
      unfold headC at ih
      rw [h1, h2, ih]
      simp only [Bool.false_eq_true, if_false, if_true, List.length_cons, Nat.add_lt_add_iff_right]
      split
      · have e : ((((r.takeWhile fun x => x != c).length : Nat) : Int) == -1) = false := by rw [beq_eq_false_iff_ne]; omega
        rw [e]; simp
      · simp
theorem cut_at (c : UInt8) (s : Bs) : Lib.cut s [c] = match cutC c s with | some (a, b) => (a, b, true) | none => (s, [], false) := by
  unfold Lib.cut cutC
  rw [Lib.index_one, idx_head]
  split
  · rename_i h
    rw [if_pos (by omega)]
    simp only [Int.toNat_natCast, List.length_singleton]
    rw [← headC_take]
  · rw [if_neg (by omega)]
def cutV (c : UInt8) (s : ByteArray) : Value := match cutC c (bs s) with | some (a, b) => .tuple #[.string (mk a), .string (mk b), .bool true] | none => .tuple #[.string s, .string ⟨#[]⟩, .bool false]
theorem cutC_some {c : UInt8} {s a b : Bs} (h : cutC c s = some (a, b)) : s = a ++ c :: b ∧ a = headC c s := by
  unfold cutC at h
  split at h
  · rename_i hlt
    injection h with h; injection h with h1 h2
    have h3 := headC_at c s hlt
    refine ⟨?_, h1.symm⟩
    rw [← h1, ← h2]
    conv => lhs; rw [← List.take_append_drop (headC c s).length s, ← headC_take, List.drop_eq_getElem_cons hlt, h3]
  · cases h
theorem cutC_len {c : UInt8} {s : ByteArray} {a b : Bs} (h : cutC c (bs s) = some (a, b)) : a.length + b.length + 1 = s.size := by
  have h1 := (cutC_some h).1
  have h2 := size_bs s
  rw [h1, List.length_append, List.length_cons] at h2; omega
theorem Cut_any (s : ByteArray) (c : UInt8) (w : World) (hs : s.size ≤ 16777216) (hm : MaxL w) :
    Calls Tryd.prog 38 #[.string s, .string ⟨#[c]⟩] w fun e w' => e = .returned (cutV c s) ∧ Below w.heap.size w w' := by
  obtain ⟨m, hm⟩ := hm
  refine (Tryd.strings_Cut s ⟨#[c]⟩ m w (by omega) hm).mono fun e w' ⟨h1, n, h2⟩ => ?_
  have e2 : Lib.cut s.data.toList (⟨#[c]⟩ : ByteArray).data.toList = Lib.cut (bs s) [c] := rfl
  rw [e2, cut_at] at h1
  refine ⟨?_, by rw [h2]; exact Below_drewN (Below.refl _ _) n⟩
  rw [h1]
  unfold cutV
  cases cutC c (bs s) with
  | none =>
    rw [show (⟨(bs s).toArray⟩ : ByteArray) = s from mk_bs s]
  | some x => rfl
end Go.Proofs.YtaeaccakkielmaaDoor

/- What a reader of folders has come to, in plain Lean. No program in sight. -/
set_option linter.unusedVariables false
namespace Go.Proofs.YtaeaccakkielmaaDoor
--BEGIN
/-- 'acc' is read, 'rest' is left: so it is with each folder whose text is s. -/
def FC (s : Bs) (acc : List En) (rest : Bs) : Prop := ∀ l, entsV l = true → foldB l = s → ∃ m, l = acc ++ m ∧ rest = m.flatMap entT
theorem FC.start (s : Bs) : FC s [] (s.drop 1) := fun l _ h => ⟨l, rfl, by rw [← h]; rfl⟩
theorem headC_stop {c : UInt8} {a b : Bs} (h : ∀ x ∈ a, x ≠ c) : headC c (a ++ c :: b) = a := takeWhile_stop (fun x hx => by simpa using h x hx) (by simp)
theorem cutC_stop {c : UInt8} {a b : Bs} (h : ∀ x ∈ a, x ≠ c) : cutC c (a ++ c :: b) = some (a, b) := by
  unfold cutC
  rw [headC_stop h, if_pos (by simp), drop_past]
theorem ent_cut {e : En} (h : entOk e = true) (r : Bs) : cutC 59 (entT e ++ r) = some (tx e.1 ++ 61 :: hexT e.2, r) ∧ cutC 61 (tx e.1 ++ 61 :: hexT e.2) = some (tx e.1, hexT e.2) := by
  have h1 : ∀ x ∈ tx e.1, x ≠ 61 ∧ x ≠ 59 := fun x hx => by
    have := range_ne (word_range (word_chars (entOk_iff.1 h).1 x hx)); exact ⟨this.1, this.2.1⟩
  have h2 : ∀ x ∈ hexT e.2, x ≠ 59 := fun x hx => (range_ne (hex_range (hexT_chars _ x hx))).2.1
  refine ⟨?_, cutC_stop fun x hx => (h1 x hx).1⟩
  have e1 : entT e ++ r = (tx e.1 ++ 61 :: hexT e.2) ++ 59 :: r := by unfold entT; simp
  rw [e1]
  refine cutC_stop fun x hx => ?_
  rcases List.mem_append.1 hx with hx | hx
  · exact (h1 x hx).2
  · rcases List.mem_cons.1 hx with rfl | hx
    · decide
    · exact h2 x hx
theorem FC.head {s : Bs} {acc : List En} {rest : Bs} (h : FC s acc rest) (hne : rest ≠ []) {l : List En} (hv : entsV l = true) (hl : foldB l = s) : ∃ e m, l = acc ++ e :: m ∧ rest = entT e ++ m.flatMap entT ∧ entOk e = true := by
  obtain ⟨m, h1, h2⟩ := h l hv hl
  cases m with
  | nil => exact absurd h2 hne
  | cons e m => exact ⟨e, m, h1, by rw [h2, List.flatMap_cons], entsV_ok hv (by rw [h1]; simp)⟩
theorem FC.fail1 {s : Bs} {acc : List En} {rest : Bs} (h : FC s acc rest) (hne : rest ≠ []) (hc : cutC 59 rest = none) : readF s = none := readF_none fun l hv hl => by
  obtain ⟨e, m, _, h2, h3⟩ := h.head hne hv hl
  rw [h2, (ent_cut h3 _).1] at hc; cases hc
theorem FC.fail2 {s : Bs} {acc : List En} {rest p a : Bs} (h : FC s acc rest) (hne : rest ≠ []) (hc : cutC 59 rest = some (p, a)) (hd : cutC 61 p = none) : readF s = none := readF_none fun l hv hl => by
  obtain ⟨e, m, _, h2, h3⟩ := h.head hne hv hl
  rw [h2, (ent_cut h3 _).1] at hc
  injection hc with hc; injection hc with h4 h5
  rw [← h4, (ent_cut h3 []).2] at hd; cases hd
theorem FC.fail3 {s : Bs} {acc : List En} {rest : Bs} (h : FC s acc rest) (hne : rest ≠ []) (hc : 3 ≤ acc.length) : readF s = none := readF_none fun l hv hl => by
  obtain ⟨e, m, h1, _, _⟩ := h.head hne hv hl
  have := entsV_len hv
  rw [h1, List.length_append, List.length_cons] at this; omega
theorem FC.step {s : Bs} {acc : List En} {rest p a n d : Bs} (h : FC s acc rest) (hne : rest ≠ []) (hc : cutC 59 rest = some (p, a)) (hd : cutC 61 p = some (n, d)) : FC s (acc ++ [(mk n, readH d)]) a := fun l hv hl => by
  obtain ⟨e, m, h1, h2, h3⟩ := h.head hne hv hl
  rw [h2, (ent_cut h3 _).1] at hc
  injection hc with hc; injection hc with h4 h5
  rw [← h4, (ent_cut h3 []).2] at hd
  injection hd with hd; injection hd with h6 h7
  refine ⟨m, ?_, h5.symm⟩
  rw [← h6, ← h7, readH_hexT (entOk_iff.1 h3).2, mk_tx, h1]
  simp
theorem FC.done {s : Bs} {acc : List En} (h : FC s acc []) (hs : s ≠ []) : readF s = if foldT acc = s then some acc else none := by
  split
  · rename_i he
    have hv : entsV acc = true := by
      cases hv : entsV acc
      · unfold foldT at he; rw [hv] at he; exact absurd he.symm hs
      · rfl
    unfold foldT at he
    rw [hv, if_pos rfl] at he
    exact readF_iff.2 ⟨hv, he⟩
  · rename_i he
    refine readF_none fun l hv hl => ?_
    obtain ⟨m, h1, h2⟩ := h l hv hl
    have hm : m = [] := by
      cases m with
      | nil => rfl
      | cons e m => rw [List.flatMap_cons] at h2; exact absurd h2.symm (entT_ne _ _)
    subst hm
    rw [List.append_nil] at h1; subst h1
    apply he
    unfold foldT; rw [hv, if_pos rfl, hl]
theorem FC.sfail {s : Bs} {acc : List En} {rest : Bs} (h : FC s acc rest) (hne : rest ≠ []) (hc : ¬ (headC 61 rest).length + (headC 59 (rest.drop (headC 61 rest).length)).length < rest.length) : readF s = none := readF_none fun l hv hl => by
  obtain ⟨e, m, _, h2, h3⟩ := h.head hne hv hl
  apply hc
  have h1 : ∀ x ∈ tx e.1, x ≠ 61 := fun x hx => (range_ne (word_range (word_chars (entOk_iff.1 h3).1 x hx))).1
  have h5 : ∀ x ∈ 61 :: hexT e.2, x ≠ 59 := fun x hx => by
    rcases List.mem_cons.1 hx with rfl | hx
    · decide
    · exact (range_ne (hex_range (hexT_chars _ x hx))).2.1
  have e1 : rest = tx e.1 ++ 61 :: (hexT e.2 ++ 59 :: m.flatMap entT) := by rw [h2]; unfold entT; simp
  have e2 : headC 61 rest = tx e.1 := by rw [e1]; exact headC_stop h1
  have e3 : rest.drop (tx e.1).length = (61 :: hexT e.2) ++ 59 :: m.flatMap entT := by rw [e1, List.drop_left]; rfl
  rw [e2, e3, headC_stop h5, e1]
  simp
theorem FC.sstep {s : Bs} {acc : List En} {rest : Bs} (h : FC s acc rest) (hne : rest ≠ []) :
    FC s (acc ++ [(mk (rest.take (headC 61 rest).length), readH ((rest.drop ((headC 61 rest).length + 1)).take ((headC 59 (rest.drop (headC 61 rest).length)).length - 1)))]) (rest.drop ((headC 61 rest).length + (headC 59 (rest.drop (headC 61 rest).length)).length + 1)) := fun l hv hl => by
  obtain ⟨e, m, h1', h2, h3⟩ := h.head hne hv hl
  have h1 : ∀ x ∈ tx e.1, x ≠ 61 := fun x hx => (range_ne (word_range (word_chars (entOk_iff.1 h3).1 x hx))).1
  have h5 : ∀ x ∈ 61 :: hexT e.2, x ≠ 59 := fun x hx => by
    rcases List.mem_cons.1 hx with rfl | hx
    · decide
    · exact (range_ne (hex_range (hexT_chars _ x hx))).2.1
  have e1 : rest = tx e.1 ++ 61 :: (hexT e.2 ++ 59 :: m.flatMap entT) := by rw [h2]; unfold entT; simp
  have e2 : headC 61 rest = tx e.1 := by rw [e1]; exact headC_stop h1
  have e3 : rest.drop (tx e.1).length = (61 :: hexT e.2) ++ 59 :: m.flatMap entT := by rw [e1, List.drop_left]; rfl
  have e4 : rest.drop ((tx e.1).length + 1) = hexT e.2 ++ 59 :: m.flatMap entT := by rw [← List.drop_drop, e3]; rfl
  have e5 : rest.drop ((tx e.1).length + (61 :: hexT e.2).length + 1) = m.flatMap entT := by
    rw [Nat.add_assoc, ← List.drop_drop, e3, drop_past]
  refine ⟨m, ?_, ?_⟩
  · rw [e2, e3, headC_stop h5, e4]
    have e6 : rest.take (tx e.1).length = tx e.1 := by rw [e1]; exact List.take_left' rfl
    rw [e6, List.length_cons, Nat.add_sub_cancel, List.take_left' rfl, readH_hexT (entOk_iff.1 h3).2, mk_tx, h1']
    simp
  · rw [e2, e3, headC_stop h5, e5]
--END
end Go.Proofs.YtaeaccakkielmaaDoor

/- Entries: the type's facts, slices.Clone, append of one. -/
set_option linter.unusedVariables false
namespace Go.Proofs.YtaeaccakkielmaaDoor
open Go.RowKit
theorem en_info : (Tryd.prog.info? 109).map (fun i => (i.zero, i.size, i.bytes)) = some (some (.agg #[.string ⟨#[]⟩, .int .i64 0]), 2, 24) := by kernel_rfl
theorem oneE : ∀ y, ∀ u ∈ encE y, u.oneCell' = true := by intro y u hu; simp [encE] at hu; rcases hu with rfl | rfl <;> rfl
section
variable {ops : Array Oper} {rest : List Oper} {o : Oper} {a : Act} {Q : Exit → Act → World → Prop} {w0 wr : World} {v : Value}
theorem app_enN {l m : List En} {A : Option Addr} {c : Nat} {s x : Operand} (hgd : o.guard = none) (ho : o.op = .call { callee := .builtin .append, args := #[s, x], argTypes := #[87, 87] })
    (hown : Own wr w0.heap.size 109 2 encE v l) (hb : Below w0.heap.size w0 wr) (hn : l.length + m.length ≤ 33554432) (hsl : Sl wr encE 2 A m) (hcz : A = none → c = 0)
    (hs : a.eval s = v) (hx : a.eval x = .slice A m.length c)
    (h : ∀ v' w', Own w' w0.heap.size 109 2 encE v' (l ++ m) → Below w0.heap.size w0 w' → Grew v wr w' → wpList Tryd.prog ops Q rest (a.put o.dst v') w') : wpList Tryd.prog ops Q (o :: rest) a wr := by
  obtain ⟨i0, hi0, hz0, hz1, hz2⟩ := info_parts en_info
  exact wpList_appN Tryd.underlying87 hi0 hz0 hz1 hz2 rfl (by decide) (by decide) hgd s x ho hown hb (Nat.le_refl _) hb.size hn hsl hcz (fun _ => rfl) oneE hs hx h
theorem app_en {base : Nat} {l : List En} {y : En} {s x : Operand} (hgd : o.guard = none) (ho : o.op = .call { callee := .builtin .append, args := #[s, x], argTypes := #[87, 87] })
    (hs : a.eval s = v) (hx : a.eval x = .slice (some ⟨wr.heap.size, 0, none⟩) 1 1)
    (hown : Own wr base 109 2 encE v l) (hb : Below w0.heap.size w0 wr) (hB : w0.heap.size ≤ base) (hbase : base ≤ wr.heap.size) (hn : l.length ≤ 16777216)
    (h : ∀ v' w', Own w' base 109 2 encE v' (l ++ [y]) → Below w0.heap.size w0 w' → wpList Tryd.prog ops Q rest (a.put o.dst v') w') : wpList Tryd.prog ops Q (o :: rest) a (wr.alloc (.cells #[.string y.1, .int .i64 y.2] 109)) := by
  obtain ⟨i0, hi0, hz0, hz1, hz2⟩ := info_parts en_info
  exact wpList_app1 Tryd.underlying87 hi0 hz0 hz1 hz2 rfl (by decide) (by decide) hgd s x ho hs hx hown hb hB hbase hn y _ rfl rfl (oneE y) h
end
end Go.Proofs.YtaeaccakkielmaaDoor

/- Where a name stands: cmp.Compare of texts, slices.BinarySearchFunc, findEntry, printNamed, walked. -/
set_option linter.unusedVariables false
namespace Go.Proofs.YtaeaccakkielmaaDoor
open Go.RowKit

def FitE (l : List En) : Prop := ∀ p ∈ l, p.1.size ≤ 16777216
def cmpS (a b : ByteArray) : Int := if lessB (tx a) (tx b) then -1 else if lessB (tx b) (tx a) then 1 else 0
theorem less_tl (a b : ByteArray) : Op.bytesLess a.toList b.toList = lessB (tx a) (tx b) := by rw [ByteArray.toList_eq, ByteArray.toList_eq]
theorem eq_tl (a b : ByteArray) : (a.toList == b.toList) = (tx a == tx b) := by rw [ByteArray.toList_eq, ByteArray.toList_eq]
theorem less_ne {a b : ByteArray} (h : lessB (tx a) (tx b) = true) : (tx a == tx b) = false := by
  rw [beq_eq_false_iff_ne]; intro e; rw [e, lessB_irrefl] at h; cases h
def PnRes (l : List En) (x : ByteArray) (w : World) (e : Ending) (w' : World) : Prop := e = .returned (.tuple #[.int .i64 ((getE l (tx x)).getD (-1)), .bool (getE l (tx x)).isSome]) ∧ Below w.heap.size w w'
end Go.Proofs.YtaeaccakkielmaaDoor

/- Trees: levels, roots, proofs. -/
set_option linter.unusedVariables false
namespace Go.Proofs.YtaeaccakkielmaaDoor
open Go.RowKit
theorem new_cell1 (w : World) (u : Value) (E : TypeId) : (w.alloc (.cells #[u] E)).drew.cell? ⟨w.heap.size, 0, none⟩ = some u := by
  show (w.alloc (.cells #[u] E)).cell? ⟨w.heap.size, 0, none⟩ = some u
  rw [cell_of_row _ _ 0 _ E (0, 0) (heap_alloc_new w _)]; rfl
theorem lvlUp_two {l : List Int} {k : Nat} (h : k + 1 < l.length) : lvlUp (l.drop k) = prPair l[k] l[k + 1] :: lvlUp (l.drop (k + 2)) := by
  rw [List.drop_eq_getElem_cons (by omega), List.drop_eq_getElem_cons (by omega)]; rfl
theorem lvlUp_one {l : List Int} {k : Nat} (h : k < l.length) (h2 : ¬ k + 1 < l.length) : lvlUp (l.drop k) = [l[k]] := by
  rw [List.drop_eq_getElem_cons (by omega), List.drop_of_length_le (by omega)]; rfl
theorem lvlUp_none {l : List Int} {k : Nat} (h : ¬ k < l.length) : lvlUp (l.drop k) = [] := by
  rw [List.drop_of_length_le (by omega)]; rfl
theorem lvlUp_drop_end {l : List Int} {k : Nat} (h : k < l.length) (h2 : ¬ k + 1 < l.length) : lvlUp (l.drop (k + 2)) = [] := by
  rw [List.drop_of_length_le (by omega)]; rfl

end Go.Proofs.YtaeaccakkielmaaDoor

/- Trees: valid leaves, the root, and the same of texts. -/
set_option linter.unusedVariables false
namespace Go.Proofs.YtaeaccakkielmaaDoor
open Go.RowKit

theorem lvlUp_length : ∀ (n : Nat) (l : List Int), l.length ≤ n → (lvlUp l).length = (l.length + 1) / 2
  | 0, l, h => by have : l = [] := List.eq_nil_of_length_eq_zero (by omega); subst this; rfl
  | n + 1, l, h => by
    match l, h with
    | [], _ => rfl
    | [a], _ => simp [lvlUp]
    | a :: b :: r, h =>
      have := lvlUp_length n r (by simp at h; omega)
      simp only [lvlUp, List.length_cons, this]; omega
theorem lvlUp_len (l : List Int) : (lvlUp l).length = (l.length + 1) / 2 := lvlUp_length _ l (Nat.le_refl _)
theorem lvlUp_pv : ∀ (n : Nat) (l : List Int), l.length ≤ n → l.all pv = true → (lvlUp l).all pv = true
  | 0, l, h, _ => by have : l = [] := List.eq_nil_of_length_eq_zero (by omega); subst this; rfl
  | n + 1, l, h, ha => by
    match l, h, ha with
    | [], _, _ => rfl
    | [a], _, ha => exact ha
    | a :: b :: r, h, ha =>
      simp only [List.all_cons, Bool.and_eq_true] at ha
      simp only [lvlUp, List.all_cons, Bool.and_eq_true]
      exact ⟨prPair_pv ha.1 ha.2.1, lvlUp_pv n r (by simp at h; omega) ha.2.2⟩
theorem topF_step {f : Nat} {l : List Int} (h : 1 < l.length) : topF (f + 1) l = topF f (lvlUp l) := by
  rw [topF, if_pos h]
theorem topF_one {f : Nat} {l : List Int} (h : l.length = 1) : topF f l = l.headD 0 := by
  cases f with
  | zero => rfl
  | succ f => rw [topF, if_neg (by omega)]
theorem treeRoot_bad {l : List Int} (h : leavesV l = false) : treeRoot l = -1 := by unfold treeRoot; simp [h]
theorem treeRoot_ok {l : List Int} (h : leavesV l = true) : treeRoot l = topF 5 l := by unfold treeRoot; simp [h]
theorem leavesV_iff {l : List Int} : leavesV l = true ↔ 1 ≤ l.length ∧ l.length ≤ 16 ∧ l.all pv = true := by
  unfold leavesV; rw [Bool.and_eq_true, decide_eq_true_eq, and_assoc]
theorem leavesV_len {l : List Int} (h : ¬ (1 ≤ l.length ∧ l.length ≤ 16)) : leavesV l = false := by
  cases hl : leavesV l with
  | false => rfl
  | true => exact absurd ⟨(leavesV_iff.1 hl).1, (leavesV_iff.1 hl).2.1⟩ h
theorem leavesV_all {l : List Int} (h : l.all pv = false) : leavesV l = false := by
  cases hl : leavesV l with
  | false => rfl
  | true => rw [(leavesV_iff.1 hl).2.2] at h; cases h

def lenOf : Value → Nat | .slice _ n _ => n | _ => 0
def Level (l : List Int) (v : Value) (wr : World) : Prop := ∃ (A : Option Addr) (c f : Nat) (m : List Int), v = .slice A m.length c ∧ Sl wr encI 1 A m ∧ 1 ≤ m.length ∧ m.length ≤ 16 ∧ m.length ≤ 2 ^ f ∧ topF 5 l = topF f m

end Go.Proofs.YtaeaccakkielmaaDoor

/- Trees in plain Lean: proofs, roots of proofs; that they meet. -/
set_option linter.unusedVariables false
namespace Go.Proofs.YtaeaccakkielmaaDoor

/-- The root to which a proof leads. -/
def rootF : List Int → Int → Nat → Nat → Int
  | [], p, _, m => if 1 < m then -1 else p
  | x :: r, p, n, m =>
    if m = 1 then -1
    else if m ≤ n ^^^ 1 then (if x = -1 then rootF r p (n / 2) ((m + 1) / 2) else -1)
    else if pv x then rootF r (if n % 2 = 0 then prPair p x else prPair x p) (n / 2) ((m + 1) / 2)
    else -1
def inTree (p n m : Int) : Bool := pv p && decide (1 ≤ m ∧ m ≤ 16) && decide (0 ≤ n ∧ n < m)
def proofRoot (p n m : Int) (l : List Int) : Int := if inTree p n m then rootF l p n.toNat m.toNat else -1

theorem xor1 (n : Nat) : n ^^^ 1 = n + 1 - n % 2 * 2 := by
  have h2 : (n ^^^ 1) / 2 = n / 2 := by
    have := Nat.xor_div_two (a := n) (b := 1)
    simpa using this
  have h := Nat.xor_mod_two_pow (a := n) (b := 1) (n := 1)
  have h3 : n % 2 = 0 ∨ n % 2 = 1 := by omega
  have e0 : (0 ^^^ 1 % 2 : Nat) = 1 := rfl
  have e1 : (1 ^^^ 1 % 2 : Nat) = 0 := rfl
  simp only [Nat.pow_one] at h
  rcases h3 with h3 | h3
  · rw [h3, e0] at h; omega
  · rw [h3, e1] at h; omega
theorem xor1_even {n : Nat} (h : n % 2 = 0) : n ^^^ 1 = n + 1 := by rw [xor1]; omega
theorem xor1_odd {n : Nat} (h : n % 2 = 1) : n ^^^ 1 = n - 1 := by rw [xor1]; omega

theorem proofF_done {f : Nat} {m : List Int} {n : Nat} (h : m.length = 1) : proofF f m n = [] := by
  cases f with
  | zero => rfl
  | succ f => rw [proofF, if_neg (by omega)]
theorem proofF_step {f : Nat} {m : List Int} {n : Nat} (h : 1 < m.length) : proofF (f + 1) m n = (if n ^^^ 1 < m.length then m.getD (n ^^^ 1) 0 else -1) :: proofF f (lvlUp m) (n / 2) := by
  rw [proofF, if_pos h]
theorem proofF_len (f : Nat) : ∀ (m : List Int) (n : Nat), (proofF f m n).length ≤ f := by
  induction f with
  | zero => intro m n; simp [proofF]
  | succ f ih =>
    intro m n; rw [proofF]; split
    · simp; exact ih _ _
    · simp
theorem treeProof_bad {l : List Int} {n : Int} (h : leavesV l = false ∨ n < 0 ∨ (l.length : Int) ≤ n) : treeProof l n = [] := by
  unfold treeProof; rw [if_neg]; rintro ⟨h1, h2, h3⟩
  rcases h with h | h | h
  · rw [h] at h1; cases h1
  · omega
  · omega
theorem treeProof_ok {l : List Int} {n : Int} (h : leavesV l = true) (h0 : 0 ≤ n) (h1 : n < l.length) : treeProof l n = proofF 5 l n.toNat := by
  unfold treeProof; rw [if_pos ⟨h, h0, h1⟩]
theorem treeProof_len (l : List Int) (n : Int) : (treeProof l n).length ≤ 5 := by
  unfold treeProof; split
  · exact proofF_len _ _ _
  · simp

theorem lvlUp_at : ∀ (k : Nat) (l : List Int) (d : Int), (lvlUp l).getD k d = if 2 * k + 1 < l.length then prPair (l.getD (2 * k) d) (l.getD (2 * k + 1) d) else l.getD (2 * k) d
  | 0, [], d => rfl
  | 0, [a], d => rfl
  | 0, a :: b :: r, d => by simp [lvlUp]
  | k + 1, [], d => by simp [lvlUp]
  | k + 1, [a], d => by simp [lvlUp]
  | k + 1, a :: b :: r, d => by
    have ih := lvlUp_at k r d
    show (prPair a b :: lvlUp r).getD (k + 1) d = _
    have e : 2 * (k + 1) = 2 * k + 1 + 1 := by omega
    rw [List.getD_cons_succ, ih, e]
    simp only [List.length_cons, List.getD_cons_succ]
    have e2 : 2 * k + 1 + 1 + 1 < r.length + 1 + 1 ↔ 2 * k + 1 < r.length := by omega
    simp only [e2]
theorem getD_pv {l : List Int} (h : l.all pv = true) {k : Nat} (hk : k < l.length) (d : Int) : pv (l.getD k d) = true := by
  rw [List.getD_eq_getElem?_getD, List.getElem?_eq_getElem hk]
  exact List.all_eq_true.1 h _ (by simp)

/-- A proof leads to the root. -/
theorem root_of_proof (f : Nat) : ∀ (l : List Int) (n : Nat), l.all pv = true → n < l.length → l.length ≤ 2 ^ f → rootF (proofF f l n) (l.getD n 0) n l.length = topF f l := by
  induction f with
  | zero =>
    intro l n hp hn hl
    have h1 : l.length = 1 := by simp at hl; omega
    obtain ⟨x, rfl⟩ : ∃ x, l = [x] := by
      match l, h1 with
      | [x], _ => exact ⟨x, rfl⟩
    have : n = 0 := by simp at hn; omega
    subst this
    simp [proofF, rootF, topF]
  | succ f ih =>
    intro l n hp hn hl
    by_cases h1 : 1 < l.length
    · rw [proofF_step h1, topF_step h1]
      have hlen := lvlUp_len l
      have hup := lvlUp_pv _ l (Nat.le_refl _) hp
      have hih := ih (lvlUp l) (n / 2) hup (by omega) (by rw [hlen]; simp only [Nat.pow_succ] at hl; omega)
      have hat := lvlUp_at (n / 2) l 0
      rw [rootF, if_neg (by omega)]
      by_cases hb : n ^^^ 1 < l.length
      · rw [if_neg (by omega), if_pos hb, if_pos (getD_pv hp hb 0), ← hih]
        rw [hlen]
        congr 1
        rw [hat]
        by_cases he : n % 2 = 0
        · rw [if_pos he, xor1_even he] at *
          have e : 2 * (n / 2) = n := by omega
          rw [e, if_pos hb]
        · have ho : n % 2 = 1 := by omega
          rw [if_neg he, xor1_odd ho] at *
          have e : 2 * (n / 2) = n - 1 := by omega
          have e2 : n - 1 + 1 = n := by omega
          rw [e, e2, if_pos hn]
      · rw [if_pos (by omega), if_neg hb, if_pos rfl, ← hih, hlen]
        congr 1
        rw [hat]
        have he : n % 2 = 0 := by
          by_cases he : n % 2 = 0
          · exact he
          · exfalso; rw [xor1_odd (by omega)] at hb; omega
        rw [xor1_even he] at hb
        have e : 2 * (n / 2) = n := by omega
        rw [e, if_neg hb]
    · have h2 : l.length = 1 := by omega
      rw [proofF_done h2, topF_one h2, rootF, if_neg (by omega)]
      have : n = 0 := by omega
      subst this
      cases l <;> rfl
theorem topF_pv (f : Nat) : ∀ l : List Int, l.all pv = true → 1 ≤ l.length → pv (topF f l) = true := by
  induction f with
  | zero => intro l hp hl; rw [topF]; cases l with
    | nil => simp at hl
    | cons a r => simp only [List.all_cons, Bool.and_eq_true] at hp; exact hp.1
  | succ f ih =>
    intro l hp hl
    rw [topF]
    split
    · exact ih _ (lvlUp_pv _ l (Nat.le_refl _) hp) (by rw [lvlUp_len]; omega)
    · cases l with
      | nil => simp at hl
      | cons a r => simp only [List.all_cons, Bool.and_eq_true] at hp; exact hp.1
theorem treeRoot_pv {l : List Int} (h : leavesV l = true) : pv (treeRoot l) = true := by
  obtain ⟨h1, h2, h3⟩ := leavesV_iff.1 h
  rw [treeRoot_ok h]; exact topF_pv 5 l h3 h1
theorem treeRoot_bd (l : List Int) : -1 ≤ treeRoot l ∧ treeRoot l ≤ 16777212 := by
  cases h : leavesV l
  · rw [treeRoot_bad h]; omega
  · have := pv_iff.1 (treeRoot_pv h); omega
theorem treeRoot_neg {l : List Int} (h : treeRoot l < 0) : leavesV l = false := by
  cases hl : leavesV l
  · rfl
  · have := pv_iff.1 (treeRoot_pv hl); omega
theorem treeRoot_nonneg {l : List Int} (h : ¬ treeRoot l < 0) : leavesV l = true := by
  cases hl : leavesV l
  · rw [treeRoot_bad hl] at h; omega
  · rfl
/-- The proof of a leaf leads to the root. -/
theorem proofRoot_tree {l : List Int} {n : Int} (h : leavesV l = true) (h0 : 0 ≤ n) (h1 : n < l.length) : proofRoot (l.getD n.toNat 0) n l.length (treeProof l n) = treeRoot l := by
  obtain ⟨hl1, hl2, hp⟩ := leavesV_iff.1 h
  have hin : inTree (l.getD n.toNat 0) n l.length = true := by
    unfold inTree
    rw [getD_pv hp (by omega), Bool.true_and, Bool.and_eq_true]
    exact ⟨decide_eq_true (by omega), decide_eq_true (by omega)⟩
  unfold proofRoot
  rw [if_pos hin, treeProof_ok h h0 h1, treeRoot_ok h]
  have := root_of_proof 5 l n.toNat hp (by omega) (by omega)
  simpa using this
theorem rootF_bd : ∀ (l : List Int) (p : Int) (n m : Nat), -1 ≤ p ∧ p ≤ 16777212 → -1 ≤ rootF l p n m ∧ rootF l p n m ≤ 16777212
  | [], p, n, m, h => by rw [rootF]; split <;> omega
  | x :: r, p, n, m, h => by
    rw [rootF]
    split
    · omega
    · split
      · split
        · exact rootF_bd r p _ _ h
        · omega
      · split
        · refine rootF_bd r _ _ _ ?_
          split <;> exact prPair_bd _ _
        · omega
theorem proofRoot_bd (p n m : Int) (l : List Int) : -1 ≤ proofRoot p n m l ∧ proofRoot p n m l ≤ 16777212 := by
  unfold proofRoot; split
  · rename_i h
    have hp : pv p = true := by unfold inTree at h; simp only [Bool.and_eq_true] at h; exact h.1.1
    have := pv_iff.1 hp
    exact rootF_bd _ _ _ _ (by omega)
  · omega
end Go.Proofs.YtaeaccakkielmaaDoor

/- Trees: proofs, walked. -/
set_option linter.unusedVariables false
namespace Go.Proofs.YtaeaccakkielmaaDoor
open Go.RowKit

theorem i64_xor_nat (a b : Nat) (ha : a < 9223372036854775808) (hb : b < 9223372036854775808) : bits .xor .i64 (a : Int) (b : Int) = ((a ^^^ b : Nat) : Int) := by
  show IntKind.i64.wrap ((BitVec.ofInt 64 (a : Int) ^^^ BitVec.ofInt 64 (b : Int)).toNat : Int) = _
  rw [BitVec.toNat_xor, ofInt_i64 a ha, ofInt_i64 b hb, IntKind.wrap_i64]
  have := Nat.xor_lt_two_pow (n := 63) (x := a) (y := b) (by simpa using ha) (by simpa using hb)
  omega
theorem xor1_int (N : Nat) (h : N ≤ 1000) : bits .xor .i64 (N : Int) 1 = ((N ^^^ 1 : Nat) : Int) := i64_xor_nat N 1 (by omega) (by omega)

/-- One level of a tree on the way of a proof: what was written so far, what is to come. -/
def ProofAt (l : List Int) (n : Nat) (acc m : List Int) (N : Nat) : Prop := ∃ f, m.length ≤ 2 ^ f ∧ proofF 5 l n = acc ++ proofF f m N
theorem ProofAt.start {l : List Int} {n : Nat} (h : l.length ≤ 16) : ProofAt l n [] l n := ⟨5, by omega, rfl⟩
theorem ProofAt.len {l : List Int} {n : Nat} {acc m : List Int} {N : Nat} (h : ProofAt l n acc m N) : acc.length ≤ 5 := by
  obtain ⟨f, _, e⟩ := h
  have := proofF_len 5 l n
  rw [e, List.length_append] at this; omega
theorem ProofAt.step {l : List Int} {n : Nat} {acc m : List Int} {N : Nat} (h : ProofAt l n acc m N) (h1 : 1 < m.length) (x : Int) (hx : x = if N ^^^ 1 < m.length then m.getD (N ^^^ 1) 0 else -1) : ProofAt l n (acc ++ [x]) (lvlUp m) (N / 2) := by
  obtain ⟨f, hf, e⟩ := h
  cases f with
  | zero => simp at hf; omega
  | succ f =>
    refine ⟨f, ?_, ?_⟩
    · rw [lvlUp_len]; simp only [Nat.pow_succ] at hf; omega
    · rw [e, proofF_step h1, ← hx]; simp
theorem ProofAt.done {l : List Int} {n : Nat} {acc m : List Int} {N : Nat} (h : ProofAt l n acc m N) (h1 : m.length = 1) : proofF 5 l n = acc := by
  obtain ⟨f, hf, e⟩ := h
  rw [e, proofF_done h1, List.append_nil]
theorem getD_of_lt {m : List Int} {k : Nat} (h : k < m.length) : m.getD k 0 = m[k] := by rw [List.getD_eq_getElem?_getD, List.getElem?_eq_getElem h]; rfl
/-- A level that is read: no part of what is written. -/
def LvlIn (w0 wr : World) (v : Value) (m : List Int) (A : Option Addr) : Prop := Sl wr encI 1 A m ∧ Apart A v

end Go.Proofs.YtaeaccakkielmaaDoor

/- Roots of proofs, walked. -/
set_option linter.unusedVariables false
namespace Go.Proofs.YtaeaccakkielmaaDoor
open Go.RowKit

theorem rootF_one {x p : Int} {r : List Int} {N : Nat} : rootF (x :: r) p N 1 = -1 := by rw [rootF, if_pos rfl]
theorem rootF_alone {p : Int} {r : List Int} {N M : Nat} (h1 : M ≠ 1) (h2 : M ≤ N ^^^ 1) : rootF (-1 :: r) p N M = rootF r p (N / 2) ((M + 1) / 2) := by rw [rootF, if_neg h1, if_pos h2, if_pos rfl]
theorem rootF_alone_bad {x p : Int} {r : List Int} {N M : Nat} (h1 : M ≠ 1) (h2 : M ≤ N ^^^ 1) (hx : x ≠ -1) : rootF (x :: r) p N M = -1 := by rw [rootF, if_neg h1, if_pos h2, if_neg hx]
theorem rootF_bad {x p : Int} {r : List Int} {N M : Nat} (h1 : M ≠ 1) (h2 : ¬ M ≤ N ^^^ 1) (hx : pv x = false) : rootF (x :: r) p N M = -1 := by rw [rootF, if_neg h1, if_neg h2, if_neg (by rw [hx]; simp)]
theorem rootF_left {x p : Int} {r : List Int} {N M : Nat} (h1 : M ≠ 1) (h2 : ¬ M ≤ N ^^^ 1) (hx : pv x = true) (h : N % 2 = 0) : rootF (x :: r) p N M = rootF r (prPair p x) (N / 2) ((M + 1) / 2) := by rw [rootF, if_neg h1, if_neg h2, if_pos hx, if_pos h]
theorem rootF_right {x p : Int} {r : List Int} {N M : Nat} (h1 : M ≠ 1) (h2 : ¬ M ≤ N ^^^ 1) (hx : pv x = true) (h : ¬ N % 2 = 0) : rootF (x :: r) p N M = rootF r (prPair x p) (N / 2) ((M + 1) / 2) := by rw [rootF, if_neg h1, if_neg h2, if_pos hx, if_neg h]
theorem rootF_end {p : Int} {N M : Nat} : rootF [] p N M = if 1 < M then -1 else p := rfl
theorem inTree_iff {p n m : Int} : inTree p n m = true ↔ pv p = true ∧ (1 ≤ m ∧ m ≤ 16) ∧ (0 ≤ n ∧ n < m) := by
  unfold inTree; simp only [Bool.and_eq_true, decide_eq_true_eq, and_assoc]
theorem proofRoot_out {p n m : Int} {l : List Int} (h : inTree p n m = false) : proofRoot p n m l = -1 := by unfold proofRoot; rw [h]; rfl
theorem inTree_bad {p n m : Int} (h : ¬ (pv p = true ∧ (1 ≤ m ∧ m ≤ 16) ∧ (0 ≤ n ∧ n < m))) : inTree p n m = false := by
  cases hh : inTree p n m
  · rfl
  · exact absurd (inTree_iff.1 hh) h
/-- How a proof is read: what is left to be reckoned. -/
def RootAt (l : List Int) (R : Int) (k : Nat) (p : Int) (N M : Nat) : Prop := R = rootF (l.drop k) p N M
theorem RootAt.cons {l : List Int} {R p : Int} {k N M : Nat} (h : RootAt l R k p N M) (hk : k < l.length) : R = rootF (l[k] :: l.drop (k + 1)) p N M := by
  unfold RootAt at h; rw [h, List.drop_eq_getElem_cons hk]
theorem RootAt.nil {l : List Int} {R p : Int} {k N M : Nat} (h : RootAt l R k p N M) (hk : ¬ k < l.length) : R = if 1 < M then -1 else p := by
  unfold RootAt at h; rw [h, List.drop_of_length_le (by omega)]; rfl

theorem inI_pv {x : Int} (h : inI x (-1) 16777212 = true) (hx : x ≠ -1) : pv x = true := by
  simp only [inI, decide_eq_true_eq] at h; exact pv_iff.2 (by omega)
theorem inI_bad {x : Int} (h : inI x (-1) 16777212 = false) : pv x = false ∧ x ≠ -1 := by
  simp only [inI, decide_eq_false_iff_not] at h
  exact ⟨pv_false.2 (by omega), by omega⟩
theorem alone_iff {N M : Nat} (hN : N < M) : M ≤ N ^^^ 1 ↔ N % 2 = 0 ∧ N + 1 = M := by
  by_cases h : N % 2 = 0
  · rw [xor1_even h]; omega
  · rw [xor1_odd (by omega)]; omega
end Go.Proofs.YtaeaccakkielmaaDoor

/- StoreValid, BundlePrint, walked. -/
set_option linter.unusedVariables false
namespace Go.Proofs.YtaeaccakkielmaaDoor
open Go.RowKit

theorem storeAt_eq {l : List Pc} {k : Nat} (hk : k < l.length) : storeAt l k = ((textV (bs l[k].2) && (prOf (bs l[k].2) == l[k].1)) && (k == 0 || decide ((l.getD (k - 1) pc0).1 < l[k].1))) := by
  unfold storeAt pieceOk; rw [getD_pc hk]
theorem storeAt_txt {l : List Pc} {k : Nat} (hk : k < l.length) (h : textV (bs l[k].2) = false) : storeAt l k = false := by rw [storeAt_eq hk, h]; rfl
theorem storeAt_pr {l : List Pc} {k : Nat} (hk : k < l.length) (h : ¬ prOf (bs l[k].2) = l[k].1) : storeAt l k = false := by
  rw [storeAt_eq hk, (show (prOf (bs l[k].2) == l[k].1) = false by simpa using h), Bool.and_false]; rfl
theorem storeAt_asc {l : List Pc} {k : Nat} (hk : k < l.length) (h0 : k ≠ 0) (h : ¬ (l.getD (k - 1) pc0).1 < l[k].1) : storeAt l k = false := by
  rw [storeAt_eq hk, decide_eq_false h, (show (k == 0) = false by simpa using h0), Bool.or_false, Bool.and_false]
theorem storeAt_ok {l : List Pc} {k : Nat} (hk : k < l.length) (h1 : textV (bs l[k].2) = true) (h2 : prOf (bs l[k].2) = l[k].1) (h3 : k = 0 ∨ (l.getD (k - 1) pc0).1 < l[k].1) : storeAt l k = true := by
  rw [storeAt_eq hk, h1, (show (prOf (bs l[k].2) == l[k].1) = true by simpa using h2)]
  rcases h3 with h3 | h3
  · subst h3; rfl
  · rw [decide_eq_true h3, Bool.or_true]; rfl
theorem cell_allocP {u : Value} {w : World} {x : Obj} {a : Addr} (hc : w.cell? a = some u) : (w.alloc x).cell? a = some u :=
  (World.cell?_alloc_lt w x a (World.block_lt_of_cell? w _ hc)).trans hc
/-- The cell of the piece before. -/
theorem prev_cell {w : World} {b o : Nat} {l : List Pc} {k : Nat} (h : Sl w encP 2 (some ⟨b, o, none⟩) l) (hk : k < l.length) (h0 : k ≠ 0) : w.cell? ⟨b, o + (k - 1) * 2, none⟩ = some (.int .i64 (l.getD (k - 1) pc0).1) := by
  obtain ⟨b', o', e, h', _⟩ := h.getP (k := k - 1) (by omega)
  injection e with e; injection e with e1 e2
  rw [e1, e2, getD_pc (by omega)]; exact h'
set_option maxHeartbeats 4000000 in
set_option maxRecDepth 100000 in
theorem iStoreValid_any (A : Option Addr) (c : Nat) (l : List Pc) (w : World) (hs : Sl w encP 2 A l) (hl : l.length ≤ 16777216) (hf : FitP l) :
    Calls Tryd.prog 23 #[.slice A l.length c] w fun e w' => e = .returned (.bool (storeV l)) ∧ Below w.heap.size w w' := by
  have HS := Lib.hid hs
  have HF := Lib.hid hf
  clear hs hf
  by_cases h40 : l.length ≤ 40
  case neg =>
    have E := Lib.hid (storeV_long h40)
    go_enter Tryd.func23, Tryd.ntmps23
    go_wp2
    go_ret
    exact ⟨ret_bool E.out.symm, Below.refl _ _⟩
  go_enter Tryd.func23, Tryd.ntmps23
  go_wp2
  go_loopw [10] (fun i wr => ∃ (k : Nat), k ≤ l.length ∧ i = .int .i64 k ∧ Hid (StoreUpto l k) ∧ Hid (Below w.heap.size w wr)) (fun i _ => l.length - (intOf i).toNat)
  case atStart => exact ⟨0, Nat.zero_le _, rfl, StoreUpto.zero l, Below.refl _ _⟩
  case round =>
    obtain ⟨k, hk, rfl, hh, HB⟩ := hrel
    by_cases hlt : k < l.length
    · have hsk := HS.out.below HB.out
      obtain ⟨b, o, rfl, hc0, hc1⟩ := hsk.getP hlt
      have hfk := HF.out.at hlt
      have hpv := @prev_cell _ _ _ _ k hsk hlt
      have H1 := Lib.hid (fun h => storeV_bad hlt (storeAt_txt hlt h))
      have H2 := Lib.hid (fun h => storeV_bad hlt (storeAt_pr hlt h))
      have H3 := Lib.hid (fun h0 h => storeV_bad hlt (storeAt_asc hlt h0 h))
      have H4 := Lib.hid (fun h1 h2 h3 => hh.out.succ (storeAt_ok hlt h1 h2 h3))
      have HB2 := Lib.hid (HB.out.alloc HB.out.size (.cells #[.int .i64 l[k].1, .string l[k].2] 58))
      have hx0 := far_cell (new_cell (w := wr) (cs := #[.int .i64 l[k].1, .string l[k].2]) (E := 58) (k := 0) rfl)
      have hx1 := far_cell (new_cell (w := wr) (cs := #[.int .i64 l[k].1, .string l[k].2]) (E := 58) (k := 1) rfl)
      clear hsk
      generalize (l.getD (k - 1) pc0).1 = z at *
      generalize l[k] = p at *
      obtain ⟨a, t⟩ := p
      simp only at *
      have hTV := fun w => iTextValid_any t w hfk
      cases h1 : textV (bs t)
      · have HE := Lib.hid (H1.out h1)
        rw [h1] at hTV
        have HTV := Lib.hid hTV
        clear hTV h1 H1 H2 H3 H4 hpv
        go_wp2
        refine wp_region_far (by kernel_rfl) (by kernel_rfl) ?_
        repeat (go_big_quiet_step ((go_at_call 45; exact far_same (HTV.out _))))
        refine wpQuiet_nil ?_
        intro _ hwF
        obtain ⟨pF, hwF⟩ := hwF
        subst hwF
        have HB5 := Lib.hid (Below_then HB2.out (far_below _ pF) (Nat.le_refl _))
        generalize far _ pF = wF at *
        go_wp2
        go_ret
        exact ⟨ret_bool HE.out.symm, HB5.out⟩
      · rw [h1] at hTV
        have HTV := Lib.hid hTV
        have hPO := fun w => iPrintOf_any t w hfk
        generalize hq : prOf (bs t) = q at *
        have HPO := Lib.hid hPO
        clear hTV hPO
        by_cases h2 : q = a
        · subst h2
          have hq2 : (q != q) = false := by simp
          by_cases h0 : k = 0
          · have HN := Lib.hid (H4.out h1 rfl (.inl h0))
            clear H1 H2 H3 H4 hpv
            have hk0 : decide (0 < k) = false := decide_eq_false (by omega)
            clear h0
            go_wp2
            refine wp_region_far (by kernel_rfl) (by kernel_rfl) ?_
            repeat (go_big_quiet_step ((first | (go_at_call 45; exact far_same (HTV.out _)) | (go_at_call 46; exact far_same (HPO.out _)))))
            refine wpQuiet_nil ?_
            intro _ hwF
            obtain ⟨pF, hwF⟩ := hwF
            subst hwF
            have HB5 := Lib.hid (Below_then HB2.out (far_below _ pF) (Nat.le_refl _))
            generalize far _ pF = wF at *
            go_wp2
            refine wp_region_far (by kernel_rfl) (by kernel_rfl) ?_
            repeat (go_big_quiet_step (fail))
            refine wpQuiet_nil ?_
            intro _ hwF
            obtain ⟨pF, hwF⟩ := hwF
            subst hwF
            have HB6 := Lib.hid (Below_then HB5.out (far_below _ pF) (Nat.le_refl _))
            generalize far _ pF = wG at *
            go_wp2
            go_roundw
            case rel => exact ⟨k + 1, by omega, by go_num, HN.out, HB6.out⟩
            case measure => simp [intOf]; omega
          · have hp1 := far_cell (cell_allocP (x := (.cells #[.int .i64 q, .string t] 58)) (hpv h0))
            have hk1 : 0 < k := by omega
            have hk2 : IntKind.i64.wrap ((k : Int) - 1) = (k : Int) - 1 := IntWalk.i64_in _ (by omega)
            have hk3 : (0 : Int) ≤ (k : Int) - 1 := by omega
            have hk4 : (k : Int) - 1 < (l.length : Int) := by omega
            have hk5 : ((k : Int) - 1).toNat = k - 1 := by omega
            by_cases h3 : z < q
            · have HN := Lib.hid (H4.out h1 rfl (.inr h3))
              clear H1 H2 H3 H4 hpv
              go_wp2
              refine wp_region_far (by kernel_rfl) (by kernel_rfl) ?_
              repeat (go_big_quiet_step ((first | (go_at_call 45; exact far_same (HTV.out _)) | (go_at_call 46; exact far_same (HPO.out _)))))
              refine wpQuiet_nil ?_
              intro _ hwF
              obtain ⟨pF, hwF⟩ := hwF
              subst hwF
              have HB5 := Lib.hid (Below_then HB2.out (far_below _ pF) (Nat.le_refl _))
              have hy0 := far_cell (hx0 pF)
              have hy1 := far_cell (hp1 pF)
              clear hx0 hx1 hp1
              generalize far _ pF = wF at *
              go_wp2
              refine wp_region_far (by kernel_rfl) (by kernel_rfl) ?_
              repeat (go_big_quiet_step (fail))
              refine wpQuiet_nil ?_
              intro _ hwF
              obtain ⟨pF, hwF⟩ := hwF
              subst hwF
              have HB6 := Lib.hid (Below_then HB5.out (far_below _ pF) (Nat.le_refl _))
              clear hy0 hy1
              generalize far _ pF = wG at *
              go_wp2
              go_roundw
              case rel => exact ⟨k + 1, by omega, by go_num, HN.out, HB6.out⟩
              case measure => simp [intOf]; omega
            · have HE := Lib.hid (H3.out h0 h3)
              clear H1 H2 H3 H4 hpv
              go_wp2
              refine wp_region_far (by kernel_rfl) (by kernel_rfl) ?_
              repeat (go_big_quiet_step ((first | (go_at_call 45; exact far_same (HTV.out _)) | (go_at_call 46; exact far_same (HPO.out _)))))
              refine wpQuiet_nil ?_
              intro _ hwF
              obtain ⟨pF, hwF⟩ := hwF
              subst hwF
              have HB5 := Lib.hid (Below_then HB2.out (far_below _ pF) (Nat.le_refl _))
              have hy0 := far_cell (hx0 pF)
              have hy1 := far_cell (hp1 pF)
              clear hx0 hx1 hp1
              generalize far _ pF = wF at *
              go_wp2
              refine wp_region_far (by kernel_rfl) (by kernel_rfl) ?_
              repeat (go_big_quiet_step (fail))
              refine wpQuiet_nil ?_
              intro _ hwF
              obtain ⟨pF, hwF⟩ := hwF
              subst hwF
              have HB6 := Lib.hid (Below_then HB5.out (far_below _ pF) (Nat.le_refl _))
              clear hy0 hy1
              generalize far _ pF = wG at *
              go_wp2
              go_ret
              exact ⟨ret_bool HE.out.symm, HB6.out⟩
        · have HE := Lib.hid (H2.out h2)
          have hq2 : (a != q) = true := by simpa using fun e => h2 e.symm
          clear H1 H2 H3 H4 hpv
          go_wp2
          refine wp_region_far (by kernel_rfl) (by kernel_rfl) ?_
          repeat (go_big_quiet_step ((first | (go_at_call 45; exact far_same (HTV.out _)) | (go_at_call 46; exact far_same (HPO.out _)))))
          refine wpQuiet_nil ?_
          intro _ hwF
          obtain ⟨pF, hwF⟩ := hwF
          subst hwF
          have HB5 := Lib.hid (Below_then HB2.out (far_below _ pF) (Nat.le_refl _))
          generalize far _ pF = wF at *
          go_wp2
          go_ret
          exact ⟨ret_bool HE.out.symm, HB5.out⟩
    · have HE := Lib.hid (hh.out.done hlt h40)
      go_wp2
      go_ret
      exact ⟨ret_bool HE.out.symm, HB.out⟩
set_option maxHeartbeats 8000000 in
set_option maxRecDepth 100000 in
theorem sStoreValid_any (A : Option Addr) (c : Nat) (l : List Pc) (w : World) (hs : Sl w encP 2 A l) (hl : l.length ≤ 16777216) (hf : FitP l) :
    Calls Tryd.prog 18 #[.slice A l.length c] w fun e w' => e = .returned (.bool (storeV l)) ∧ Below w.heap.size w w' := by
  have HS := Lib.hid hs
  have HF := Lib.hid hf
  clear hs hf
  go_enter Tryd.func18, Tryd.ntmps18
  go_wp2
  go_loopw [3] (fun i wr => ∃ (k : Nat), k ≤ l.length ∧ i = .int .i64 k ∧ Hid (StoreUpto l k) ∧ Hid (Below w.heap.size w wr)) (fun i _ => l.length - (intOf i).toNat)
  case atStart => exact ⟨0, Nat.zero_le _, rfl, StoreUpto.zero l, Below.refl _ _⟩
  case round =>
    obtain ⟨k, hk, rfl, hh, HB⟩ := hrel
    by_cases hlt : k < l.length
    · have hsk := HS.out.below HB.out
      obtain ⟨b, o, rfl, hc0, hc1⟩ := hsk.getP hlt
      have hfk := HF.out.at hlt
      have hpv := @prev_cell _ _ _ _ k hsk hlt
      have H1 := Lib.hid (fun h => storeV_bad hlt (storeAt_txt hlt h))
      have H2 := Lib.hid (fun h => storeV_bad hlt (storeAt_pr hlt h))
      have H3 := Lib.hid (fun h0 h => storeV_bad hlt (storeAt_asc hlt h0 h))
      have H4 := Lib.hid (fun h1 h2 h3 => hh.out.succ (storeAt_ok hlt h1 h2 h3))
      have hx0 := far_cell hc0
      have hx1 := far_cell hc1
      clear hsk hc0 hc1
      generalize (l.getD (k - 1) pc0).1 = z at *
      generalize l[k] = p at *
      obtain ⟨a, t⟩ := p
      simp only at *
      have hTV := fun w => sTextValid_any t w hfk
      cases h1 : textV (bs t)
      · have HE := Lib.hid (H1.out h1)
        rw [h1] at hTV
        have HTV := Lib.hid hTV
        clear hTV h1 H1 H2 H3 H4 hpv
        go_wp2
        refine wp_region_far (by kernel_rfl) (by kernel_rfl) ?_
        repeat (go_big_quiet_step ((go_at_call 36; exact far_same (HTV.out _))))
        refine wpQuiet_nil ?_
        intro _ hwF
        obtain ⟨pF, hwF⟩ := hwF
        subst hwF
        have HB5 := Lib.hid (Below_then HB.out (far_below _ pF) (Nat.le_refl _))
        generalize far _ pF = wF at *
        go_wp2
        go_ret
        exact ⟨ret_bool HE.out.symm, HB5.out⟩
      · rw [h1] at hTV
        have HTV := Lib.hid hTV
        have hPO := fun w => sPrintOf_any t w hfk
        generalize hq : prOf (bs t) = q at *
        have HPO := Lib.hid hPO
        clear hTV hPO
        by_cases h2 : q = a
        · subst h2
          by_cases h0 : k = 0
          · have HN := Lib.hid (H4.out h1 rfl (.inl h0))
            clear H1 H2 H3 H4 hpv
            have hk0 : decide (0 < k) = false := decide_eq_false (by omega)
            clear h0
            go_wp2
            refine wp_region_far (by kernel_rfl) (by kernel_rfl) ?_
            repeat (go_big_quiet_step ((first | (go_at_call 36; exact far_same (HTV.out _)) | (go_at_call 37; exact far_same (HPO.out _)))))
            refine wpQuiet_nil ?_
            intro _ hwF
            obtain ⟨pF, hwF⟩ := hwF
            subst hwF
            have HB5 := Lib.hid (Below_then HB.out (far_below _ pF) (Nat.le_refl _))
            generalize far _ pF = wF at *
            go_wp2
            go_roundw
            case rel => exact ⟨k + 1, by omega, by go_num, HN.out, HB5.out⟩
            case measure => simp [intOf]; omega
          · have hp1 := far_cell (hpv h0)
            have hk1 : 0 < k := by omega
            have hk2 : IntKind.i64.wrap ((k : Int) - 1) = (k : Int) - 1 := IntWalk.i64_in _ (by omega)
            have hk3 : (0 : Int) ≤ (k : Int) - 1 := by omega
            have hk4 : (k : Int) - 1 < (l.length : Int) := by omega
            have hk5 : ((k : Int) - 1).toNat = k - 1 := by omega
            by_cases h3 : z < q
            · have HN := Lib.hid (H4.out h1 rfl (.inr h3))
              clear H1 H2 H3 H4 hpv
              go_wp2
              refine wp_region_far (by kernel_rfl) (by kernel_rfl) ?_
              repeat (go_big_quiet_step ((first | (go_at_call 36; exact far_same (HTV.out _)) | (go_at_call 37; exact far_same (HPO.out _)))))
              refine wpQuiet_nil ?_
              intro _ hwF
              obtain ⟨pF, hwF⟩ := hwF
              subst hwF
              have HB5 := Lib.hid (Below_then HB.out (far_below _ pF) (Nat.le_refl _))
              clear hx0 hx1 hp1
              generalize far _ pF = wF at *
              go_wp2
              go_roundw
              case rel => exact ⟨k + 1, by omega, by go_num, HN.out, HB5.out⟩
              case measure => simp [intOf]; omega
            · have HE := Lib.hid (H3.out h0 h3)
              clear H1 H2 H3 H4 hpv
              go_wp2
              refine wp_region_far (by kernel_rfl) (by kernel_rfl) ?_
              repeat (go_big_quiet_step ((first | (go_at_call 36; exact far_same (HTV.out _)) | (go_at_call 37; exact far_same (HPO.out _)))))
              refine wpQuiet_nil ?_
              intro _ hwF
              obtain ⟨pF, hwF⟩ := hwF
              subst hwF
              have HB5 := Lib.hid (Below_then HB.out (far_below _ pF) (Nat.le_refl _))
              clear hx0 hx1 hp1
              generalize far _ pF = wF at *
              go_wp2
              go_ret
              exact ⟨ret_bool HE.out.symm, HB5.out⟩
        · have HE := Lib.hid (H2.out h2)
          have hq2 : (q != a) = true := by simpa using h2
          clear H1 H2 H3 H4 hpv
          go_wp2
          refine wp_region_far (by kernel_rfl) (by kernel_rfl) ?_
          repeat (go_big_quiet_step ((first | (go_at_call 36; exact far_same (HTV.out _)) | (go_at_call 37; exact far_same (HPO.out _)))))
          refine wpQuiet_nil ?_
          intro _ hwF
          obtain ⟨pF, hwF⟩ := hwF
          subst hwF
          have HB5 := Lib.hid (Below_then HB.out (far_below _ pF) (Nat.le_refl _))
          generalize far _ pF = wF at *
          go_wp2
          go_ret
          exact ⟨ret_bool HE.out.symm, HB5.out⟩
    · have HD := Lib.hid (fun h40 => hh.out.done hlt h40)
      have HL := Lib.hid (@storeV_long l)
      by_cases h40 : l.length ≤ 40
      · have HE := Lib.hid (HD.out h40)
        go_wp2
        go_ret
        exact ⟨ret_bool (by rw [HE.out]; simp; omega), HB.out⟩
      · have HE := Lib.hid (HL.out h40)
        go_wp2
        go_ret
        exact ⟨ret_bool (by rw [HE.out]; simp; omega), HB.out⟩
def bundF (l : List Pc) : Int := l.foldl (fun n p => prPair n p.1) 13
def bundP (l : List Pc) : Int := if storeV l then bundF l else -1
theorem bundF_take {l : List Pc} {k : Nat} (h : k < l.length) : bundF (l.take (k + 1)) = prPair (bundF (l.take k)) l[k].1 := by
  unfold bundF; rw [List.take_succ_eq_append_getElem h, List.foldl_append]; rfl
end Go.Proofs.YtaeaccakkielmaaDoor
