/- Common words. -/
import Derived.Test.YtedcgbmdfmgcgaaGreatDoorWq
import Derived.Test.YtedcgbmdfmgcgaaGreatDoorGa1
set_option linter.unusedVariables false
namespace Go.Proofs.YtedcgbmdfmgcgaaGreatDoor
open Go.RowKit

def commonB (a b : ByteArray) : List ByteArray := (commonW (bs a) (bs b)).map mk
theorem commonB_len (a b : ByteArray) : (commonB a b).length ≤ 61 := by
  unfold commonB; rw [List.length_map]; exact Nat.le_trans (commonW_le _ _) (wordsOf_len _)
theorem filter_upto {p : Bs → Bool} {l : List Bs} {k : Nat} (h : k < l.length) : (l.take (k + 1)).filter p = (l.take k).filter p ++ if p l[k] then [l[k]] else [] := by
  rw [List.take_succ_eq_append_getElem h, List.filter_append]
  cases hp : p l[k] <;> simp [hp]
set_option maxHeartbeats 4000000 in
set_option maxRecDepth 100000 in
theorem iCommonWords_any (a b : ByteArray) (w : World) (ha : a.size ≤ 16777216) (hb : b.size ≤ 16777216) (hm : MaxL w) :
    Calls Tryz.prog 24 #[.string a, .string b] w (OwnRes 9 1 encS (commonB a b) w) := by
  have HM := Lib.hid hm
  have HA := Lib.hid (fun w h => iWordsOf_any a w ha h)
  have HBB := Lib.hid (fun w h => iWordsOf_any b w hb h)
  have E : Hid (commonB a b = ((wordsOf (bs a)).filter fun w => (wordsOf (bs b)).contains w).map mk) := rfl
  have hla := wordsOf_len (bs a)
  have hlb := wordsOf_len (bs b)
  unfold wordsB at HA HBB
  unfold OwnRes at HA HBB
  generalize wordsOf (bs a) = xs at *
  generalize wordsOf (bs b) = ys at *
  generalize hyb : ys.map mk = yb at *
  generalize hxb : xs.map mk = xb at *
  have HYB := Lib.hid hyb
  have HXB := Lib.hid hxb
  have hyl : yb.length = ys.length := by rw [← hyb, List.length_map]
  have hxl : xb.length = xs.length := by rw [← hxb, List.length_map]
  have HXL := Lib.hid hxl
  have hyl2 : yb.length ≤ 61 := by omega
  have hxl2 : xb.length ≤ 61 := by omega
  clear hm hyb hxb hyl hxl
  go_enter Tryz.func24, Tryz.ntmps24
  go_wp2_with fail
  refine (HBB.out _ HM.out).mono ?_
  rintro e w1 ⟨v1, rfl, hown1, hb1⟩
  obtain ⟨Y, d1, rfl, _, hs1, _⟩ := hown1.sl
  have HS1 := Lib.hid hs1
  have HB1 := Lib.hid hb1
  have HM1 := Lib.hid (HM.out.below hb1)
  clear hown1 hs1 hb1
  go_wp2_with fail
  refine (HA.out _ HM1.out).mono ?_
  rintro e w2 ⟨v2, rfl, hown2, hb2⟩
  obtain ⟨X, d2, rfl, _, hs2, _⟩ := hown2.sl
  have HX2 := Lib.hid hs2
  have HY2 := Lib.hid (HS1.out.below hb2)
  have HB2 := Lib.hid (Below_then HB1.out hb2 (Nat.le_refl _))
  clear hown2 hs2 hb2
  go_wp2_with fail
  go_loopw [6, 14] (fun v i wr => ∃ (k : Nat) (acc : List ByteArray), k ≤ xb.length ∧ i = .int .i64 k ∧ acc.length ≤ k ∧ Hid (acc = ((xs.take k).filter fun w => ys.contains w).map mk) ∧ Own wr w2.heap.size 9 1 encS v acc ∧ Below w2.heap.size w2 wr) (fun _ i _ => xb.length - (intOf i).toNat)
  case atStart => exact ⟨0, [], Nat.zero_le _, rfl, Nat.le_refl _, rfl, Own.nil, Below.refl _ _⟩
  case round =>
    obtain ⟨k, acc, hk, rfl, hak, hh, hown, hb⟩ := hrel
    have HW := Lib.hid hown
    have HB := Lib.hid hb
    have HY := Lib.hid (HY2.out.below hb)
    have HX := Lib.hid (HX2.out.below hb)
    clear hown hb
    by_cases hlt : k < xb.length
    · obtain ⟨bb, o, rfl, hc⟩ := HX.out.getS hlt
      have hlx : k < xs.length := by have := HXL.out; omega
      have hxe : xb[k] = mk xs[k] := by
        have h1 := HXB.out
        have : xb[k]? = some (mk xs[k]) := by rw [← h1, List.getElem?_map, List.getElem?_eq_getElem hlx]; rfl
        rw [List.getElem?_eq_getElem hlt] at this; injection this
      have hf := filter_upto (p := fun w => ys.contains w) hlx
      rw [hxe] at hc
      have hCN := fun w h => ContainsS_any Y d1 yb (mk xs[k]) w h (by omega)
      have hhs : hasS yb (mk xs[k]) = ys.contains xs[k] := by rw [← HYB.out, hasS_map]
      rw [hhs] at hCN
      generalize xs[k] = q at *
      have HF := Lib.hid hf
      clear hf hhs hxe
      cases hcn : ys.contains q
      · rw [hcn] at hCN
        have HCN := Lib.hid hCN
        have HC := Lib.hid hcn
        clear hCN hcn
        go_wp2_with (go_at_call 53; refine (HCN.out _ HY.out).mono ?_; rintro e w' ⟨rfl, rfl⟩)
        go_roundw
        case rel => exact ⟨k + 1, acc, by omega, by go_num, by omega, by show _ = _; rw [HF.out, HC.out, hh.out]; simp, HW.out, HB.out⟩
        case measure => simp [intOf]; omega
      · rw [hcn] at hCN
        have HCN := Lib.hid hCN
        have HC := Lib.hid hcn
        have hl1 : acc.length ≤ 16777216 := by omega
        clear hCN hcn
        go_wp2_with (first
          | (go_at_call 53; refine (HCN.out _ HY.out).mono ?_; rintro e w' ⟨rfl, rfl⟩)
          | (at_builtin; refine app_str (w0 := w2) rfl rfl rfl rfl HW.out HB.out hl1 ?_; intro v1 w3 hown3 hb3; have HW3 := Lib.hid hown3; have HB3 := Lib.hid hb3; clear hown3 hb3))
        go_roundw
        case rel => exact ⟨k + 1, acc ++ [mk q], by omega, by go_num, by simp; omega, by show _ = _; rw [HF.out, HC.out, hh.out]; simp, HW3.out, HB3.out⟩
        case measure => simp [intOf]; omega
    · go_wp2
      go_ret
      refine ⟨_, rfl, ?_, Below_then HB2.out HB.out (Nat.le_refl _)⟩
      have hkl : xs.length ≤ k := by have := HXL.out; omega
      rw [E.out]
      have := hh.out
      rw [List.take_of_length_le hkl] at this
      rw [← this]; exact HW.out.mono HB2.out.size
end Go.Proofs.YtedcgbmdfmgcgaaGreatDoor
