/- Common words. -/
import Derived.Test.YthbdcmaloojngaaDoorWq
import Derived.Test.YthbdcmaloojngaaDoorAp3
set_option linter.unusedVariables false
namespace Go.Proofs.YthbdcmaloojngaaDoor
open Go.RowKit

def commonB (a b : ByteArray) : List ByteArray := (commonW (bs a) (bs b)).map mk
theorem commonB_len (a b : ByteArray) : (commonB a b).length ≤ 61 := by
  unfold commonB; rw [List.length_map]; exact Nat.le_trans (commonW_le _ _) (wordsOf_len _)
theorem filter_upto {p : Bs → Bool} {l : List Bs} {k : Nat} (h : k < l.length) : (l.take (k + 1)).filter p = (l.take k).filter p ++ if p l[k] then [l[k]] else [] := by
  rw [List.take_succ_eq_append_getElem h, List.filter_append]
  cases hp : p l[k] <;> simp [hp]
set_option maxHeartbeats 4000000 in
set_option maxRecDepth 100000 in
theorem iCommonWords_any (a b : ByteArray) (w : World) (ha : a.size ≤ 16777216) (hb : b.size ≤ 16777216) (hm : MaxL w) :
    Calls Tryd.prog 24 #[.string a, .string b] w (OwnRes 9 1 encS (commonB a b) w) := by
  have HM := Lib.hid hm
  have HA := Lib.hid (fun w h => iWordsOf_any a w ha h)
  have HBB := Lib.hid (fun w h => iWordsOf_any b w hb h)
  have E : Hid (commonB a b = ((wordsOf (bs a)).filter fun w => (wordsOf (bs b)).contains w).map mk) := rfl
  have hla := wordsOf_len (bs a)
  have hlb := wordsOf_len (bs b)
  unfold wordsB at HA HBB
  unfold OwnRes at HA HBB
  generalize wordsOf (bs a) = xs at *
  generalize wordsOf (bs b) = ys at *
  generalize hyb : ys.map mk = yb at *
  generalize hxb : xs.map mk = xb at *
  have HYB := Lib.hid hyb
  have HXB := Lib.hid hxb
  have hyl : yb.length = ys.length := by rw [← hyb, List.length_map]
  have hxl : xb.length = xs.length := by rw [← hxb, List.length_map]
  have HXL := Lib.hid hxl
  have hyl2 : yb.length ≤ 61 := by omega
  have hxl2 : xb.length ≤ 61 := by omega
  clear hm hyb hxb hyl hxl
  go_enter Tryd.func24, Tryd.ntmps24
  go_wp2_with fail
  refine (HBB.out _ HM.out).mono ?_
  rintro e w1 ⟨v1, rfl, hown1, hb1⟩
  obtain ⟨Y, d1, rfl, _, hs1, _⟩ := hown1.sl
  have HS1 := Lib.hid hs1
  have HB1 := Lib.hid hb1
  have HM1 := Lib.hid (HM.out.below hb1)
  clear hown1 hs1 hb1
  go_wp2_with fail
  refine (HA.out _ HM1.out).mono ?_
  rintro e w2 ⟨v2, rfl, hown2, hb2⟩
  obtain ⟨X, d2, rfl, _, hs2, _⟩ := hown2.sl
  have HX2 := Lib.hid hs2
  have HY2 := Lib.hid (HS1.out.below hb2)
  have HB2 := Lib.hid (Below_then HB1.out hb2 (Nat.le_refl _))
  clear hown2 hs2 hb2
  go_wp2_with fail
  go_loopw [6, 14] (fun v i wr => ∃ (k : Nat) (acc : List ByteArray), k ≤ xb.length ∧ i = .int .i64 k ∧ acc.length ≤ k ∧ Hid (acc = ((xs.take k).filter fun w => ys.contains w).map mk) ∧ Own wr w2.heap.size 9 1 encS v acc ∧ Below w2.heap.size w2 wr) (fun _ i _ => xb.length - (intOf i).toNat)
  case atStart => exact ⟨0, [], Nat.zero_le _, rfl, Nat.le_refl _, rfl, Own.nil, Below.refl _ _⟩
  case round =>
    obtain ⟨k, acc, hk, rfl, hak, hh, hown, hb⟩ := hrel
    have HW := Lib.hid hown
    have HB := Lib.hid hb
    have HY := Lib.hid (HY2.out.below hb)
    have HX := Lib.hid (HX2.out.below hb)
    clear hown hb
    by_cases hlt : k < xb.length
    · obtain ⟨bb, o, rfl, hc⟩ := HX.out.getS hlt
      have hlx : k < xs.length := by have := HXL.out; omega
      have hxe : xb[k] = mk xs[k] := by
        have h1 := HXB.out
        have : xb[k]? = some (mk xs[k]) := by rw [← h1, List.getElem?_map, List.getElem?_eq_getElem hlx]; rfl
        rw [List.getElem?_eq_getElem hlt] at this; injection this
      have hf := filter_upto (p := fun w => ys.contains w) hlx
      rw [hxe] at hc
      have hCN := fun w h => ContainsS_any Y d1 yb (mk xs[k]) w h (by omega)
      have hhs : hasS yb (mk xs[k]) = ys.contains xs[k] := by rw [← HYB.out, hasS_map]
      rw [hhs] at hCN
      generalize xs[k] = q at *
      have HF := Lib.hid hf
      clear hf hhs hxe
      cases hcn : ys.contains q
      · rw [hcn] at hCN
        have HCN := Lib.hid hCN
        have HC := Lib.hid hcn
        clear hCN hcn
        go_wp2_with (go_at_call 32; refine (HCN.out _ HY.out).mono ?_; rintro e w' ⟨rfl, rfl⟩)
        go_roundw
        case rel => exact ⟨k + 1, acc, by omega, by go_num, by omega, by show _ = _; rw [HF.out, HC.out, hh.out]; simp, HW.out, HB.out⟩
        case measure => simp [intOf]; omega
      · rw [hcn] at hCN
        have HCN := Lib.hid hCN
        have HC := Lib.hid hcn
        have hl1 : acc.length ≤ 16777216 := by omega
        clear hCN hcn
        go_wp2_with (first
          | (go_at_call 32; refine (HCN.out _ HY.out).mono ?_; rintro e w' ⟨rfl, rfl⟩)
          | (at_builtin; refine app_str (w0 := w2) rfl rfl rfl rfl HW.out HB.out hl1 ?_; intro v1 w3 hown3 hb3; have HW3 := Lib.hid hown3; have HB3 := Lib.hid hb3; clear hown3 hb3))
        go_roundw
        case rel => exact ⟨k + 1, acc ++ [mk q], by omega, by go_num, by simp; omega, by show _ = _; rw [HF.out, HC.out, hh.out]; simp, HW3.out, HB3.out⟩
        case measure => simp [intOf]; omega
    · go_wp2
      go_ret
      refine ⟨_, rfl, ?_, Below_then HB2.out HB.out (Nat.le_refl _)⟩
      have hkl : xs.length ≤ k := by have := HXL.out; omega
      rw [E.out]
      have := hh.out
      rw [List.take_of_length_le hkl] at this
      rw [← this]; exact HW.out.mono HB2.out.size
set_option maxHeartbeats 8000000 in
set_option maxRecDepth 100000 in
theorem sCommonWords_any (a b : ByteArray) (w : World) (ha : a.size ≤ 16777216) (hb : b.size ≤ 16777216) :
    Calls Tryd.prog 23 #[.string a, .string b] w (OwnRes 9 1 encS (commonB a b) w) := by
  have HA := Lib.hid (fun w => sWordsOf_any a w ha)
  have HBB := Lib.hid (fun w => sWordsOf_any b w hb)
  have E : Hid (commonB a b = ((wordsOf (bs a)).filter fun w => (wordsOf (bs b)).contains w).map mk) := rfl
  have hla := wordsOf_len (bs a)
  have hlb := wordsOf_len (bs b)
  have hnd := (wordsOf_ok (bs b)).2
  unfold wordsB at HA HBB
  unfold OwnRes at HA HBB
  generalize wordsOf (bs a) = xs at *
  generalize wordsOf (bs b) = ys at *
  generalize hyb : ys.map mk = yb at *
  generalize hxb : xs.map mk = xb at *
  have HYB := Lib.hid hyb
  have HXB := Lib.hid hxb
  have HND := Lib.hid hnd
  have hyl : yb.length = ys.length := by rw [← hyb, List.length_map]
  have hxl : xb.length = xs.length := by rw [← hxb, List.length_map]
  have HXL := Lib.hid hxl
  have HYL := Lib.hid hyl
  have hyl2 : yb.length ≤ 61 := by omega
  have hxl2 : xb.length ≤ 61 := by omega
  clear hyb hxb hyl hxl hnd
  have hat : ∀ (l : List Bs) (lb : List ByteArray) (k : Nat) (h1 : k < l.length) (h2 : k < lb.length), l.map mk = lb → lb[k] = mk l[k] := by
    intro l lb k h1 h2 e
    have : lb[k]? = some (mk l[k]) := by rw [← e, List.getElem?_map, List.getElem?_eq_getElem h1]; rfl
    rw [List.getElem?_eq_getElem h2] at this; injection this
  have HAT := Lib.hid hat
  clear hat
  have HW0 := Lib.hid (Own.made (enc := encS) (E := 9) (size := 1) (Nat.le_refl w.heap.size))
  have HB0 := Lib.hid ((Below.refl w.heap.size w).alloc (Nat.le_refl _) (.cells #[] 9))
  go_enter Tryd.func23, Tryd.ntmps23
  go_wp2_with fail
  refine (HA.out _).mono ?_
  rintro e w1 ⟨v1, rfl, hown1, hb1⟩
  obtain ⟨X, d1, rfl, _, hs1, _⟩ := hown1.sl
  have HW1 := Lib.hid (HW0.out.below hb1)
  have HB1 := Lib.hid (HB0.out.trans (hb1.mono (by simp)))
  have HX1 := Lib.hid hown1
  have HZ1 := Lib.hid (show w.heap.size < w1.heap.size by have := hb1.size; simp at this; omega)
  clear hown1 hs1 hb1
  go_wp2_with fail
  refine (HBB.out _).mono ?_
  rintro e w2 ⟨v2, rfl, hown2, hb2⟩
  obtain ⟨Y, d2, rfl, _, hs2, _⟩ := hown2.sl
  have HW2 := Lib.hid (HW1.out.below hb2)
  have HB2 := Lib.hid (HB1.out.trans (hb2.mono HB1.out.size))
  have hx2 := HX1.out.below hb2
  have HSX2 := Lib.hid hx2.sl'
  have HSY2 := Lib.hid hown2.sl'
  have HLX := Lib.hid hx2.ltA
  have HLY := Lib.hid hown2.ltA
  have HAX := Lib.hid (hx2.apart (v := .slice (some ⟨w.heap.size, 0, none⟩) 0 0) (by intro g hg; have hg : some w.heap.size = some g := hg; injection hg with hg; subst hg; simp))
  have HAY := Lib.hid (hown2.apart (v := .slice (some ⟨w.heap.size, 0, none⟩) 0 0) (by intro g hg; have hg : some w.heap.size = some g := hg; injection hg with hg; subst hg; exact HZ1.out))
  clear hown2 hs2 hb2 hx2
  go_wp2_with fail
  go_loopw [5, 8] (fun v i wr => ∃ (k : Nat) (acc : List ByteArray), k ≤ xb.length ∧ i = .int .i64 k ∧ acc.length ≤ k ∧ Hid (acc = ((xs.take k).filter fun w => ys.contains w).map mk) ∧ Own wr w.heap.size 9 1 encS v acc ∧ Below w.heap.size w wr ∧ Sl wr encS 1 X xb ∧ Sl wr encS 1 Y yb ∧ Apart X v ∧ Apart Y v ∧ w2.heap.size ≤ wr.heap.size) (fun _ i _ => xb.length - (intOf i).toNat)
  case atStart => exact ⟨0, [], Nat.zero_le _, rfl, Nat.le_refl _, rfl, HW2.out, HB2.out, HSX2.out, HSY2.out, HAX.out, HAY.out, Nat.le_refl _⟩
  case round =>
    obtain ⟨k, acc, hk, rfl, hak, hh, hown, hb, hsx, hsy, hax, hay, hz⟩ := hrel
    have HW := Lib.hid hown
    have HB := Lib.hid hb
    have HX := Lib.hid hsx
    have HY := Lib.hid hsy
    have HPX := Lib.hid hax
    have HPY := Lib.hid hay
    clear hown hb hsx hsy hax hay
    by_cases hlt : k < xb.length
    · have hlx : k < xs.length := by have := HXL.out; omega
      have hxe := HAT.out xs xb k hlx hlt HXB.out
      have hf := filter_upto (p := fun w => ys.contains w) hlx
      have HGX := Lib.hid (fun (w : World) (h : Sl w encS 1 X xb) => h.getS hlt)
      rw [hxe] at HGX
      generalize xs[k] = q at *
      have HF := Lib.hid hf
      clear hf hxe
      go_wp2_with fail
      go_loopw [5, 9] (fun v i wr2 => ∃ (j : Nat) (acc2 : List ByteArray), j ≤ yb.length ∧ i = .int .i64 j ∧ acc2.length ≤ k + 1 ∧ Hid (acc2 = acc ++ if (ys.take j).contains q then [mk q] else []) ∧ Own wr2 w.heap.size 9 1 encS v acc2 ∧ Below w.heap.size w wr2 ∧ Sl wr2 encS 1 X xb ∧ Sl wr2 encS 1 Y yb ∧ Apart X v ∧ Apart Y v ∧ w2.heap.size ≤ wr2.heap.size) (fun _ i _ => yb.length - (intOf i).toNat)
      case atStart => exact ⟨0, acc, Nat.zero_le _, rfl, by omega, by show _ = _; simp, HW.out, HB.out, HX.out, HY.out, HPX.out, HPY.out, hz⟩
      case round =>
        obtain ⟨j, acc2, hj, rfl, hak2, hh2, hown, hb, hsx, hsy, hax, hay, hz2⟩ := hrel
        by_cases hjl : j < yb.length
        · have hjy : j < ys.length := by have := HYL.out; omega
          have hye := HAT.out ys yb j hjy hjl HYB.out
          obtain ⟨b1, o1, e1, hc1⟩ := HGX.out _ hsx
          obtain ⟨b2, o2, e2, hc2⟩ := hsy.getS hjl
          rw [hye] at hc2
          have htk : ys.take (j + 1) = ys.take j ++ [ys[j]] := List.take_succ_eq_append_getElem hjy
          have hndj : (ys.take j).contains ys[j] = false := by
            rw [List.contains_eq_mem, decide_eq_false_iff_not]
            intro hm
            have h1 : (ys.take j ++ ys.drop j).Nodup := by rw [List.take_append_drop]; exact HND.out
            rw [List.nodup_append] at h1
            exact h1.2.2 _ hm ys[j] (by rw [List.drop_eq_getElem_cons hjy]; exact List.mem_cons_self) rfl
          have hgq : ∀ z : Bs, ((mk q).toList == (mk z).toList) = (q == z) := fun z => eq_toList (mk q) (mk z)
          have heq := hgq ys[j]
          generalize ys[j] = y at *
          have HW3 := Lib.hid hown
          have HB3 := Lib.hid hb
          have HX3 := Lib.hid hsx
          have HY3 := Lib.hid hsy
          have HPX3 := Lib.hid hax
          have HPY3 := Lib.hid hay
          have HTK := Lib.hid htk
          have HNDJ := Lib.hid hndj
          have hl1 : acc2.length ≤ 16777216 := by omega
          clear hown hb hsx hsy hax hay htk hndj hgq hye
          subst e1 e2
          cases hqy : (q == y)
          · have hq1 : ((mk q).toList == (mk y).toList) = false := by rw [heq, hqy]
            have HQY := Lib.hid hqy
            clear heq hqy
            go_wp2
            go_quiet (fail)
            go_wp2
            go_roundw
            case rel => exact ⟨j + 1, acc2, by omega, by go_num, by omega, by
              show _ = _
              have hqy := HQY.out
              have : (ys.take (j + 1)).contains q = (ys.take j).contains q := by rw [HTK.out, List.contains_append, List.contains_cons, hqy, List.contains_nil, Bool.or_false, Bool.or_false]
              rw [this, ← hh2.out], HW3.out.drewN _, Below_drewN HB3.out _, HX3.out.drewN _, HY3.out.drewN _, HPX3.out, HPY3.out, hz2⟩
            case measure => simp [intOf]; omega
          · have hq1 : ((mk q).toList == (mk y).toList) = true := by rw [heq, hqy]
            have HQY := Lib.hid hqy
            have hlx : LtA (some ⟨b1, o1, none⟩) wr.heap.size := HLX.out.mono hz2
            have hly : LtA (some ⟨b2, o2, none⟩) wr.heap.size := HLY.out.mono hz2
            have HLX3 := Lib.hid hlx
            have HLY3 := Lib.hid hly
            clear heq hqy hlx hly
            go_wp2
            go_quiet (fail)
            go_wp2_with (at_builtin; refine app_str3 rfl rfl rfl rfl (HW3.out.drewN _) (Below_drewN HB3.out _) hl1 ?_; intro v4 w4 hown4 hb4 hg4 hk4; have HW4 := Lib.hid hown4; have HB4 := Lib.hid hb4; have HX4 := Lib.hid ((HX3.out.drewN _).grew hg4 HPX3.out); have HY4 := Lib.hid ((HY3.out.drewN _).grew hg4 HPY3.out); have HPX4 := Lib.hid (HPX3.out.kin HLX3.out hk4); have HPY4 := Lib.hid (HPY3.out.kin HLY3.out hk4); have HZ4 := Lib.hid (Nat.le_trans hz2 hg4.size); clear hown4 hb4 hg4 hk4)
            go_roundw
            case rel => exact ⟨j + 1, acc2 ++ [mk q], by omega, by go_num, (by
              have hqy := beq_iff_eq.1 HQY.out
              have h1 := hh2.out
              rw [hqy, HNDJ.out] at h1
              simp at h1
              rw [h1, List.length_append]; simp; omega), by
              show _ = _
              have hqy := beq_iff_eq.1 HQY.out
              have h1 := hh2.out
              rw [hqy, HNDJ.out] at h1
              have : (ys.take (j + 1)).contains q = true := by rw [HTK.out, List.contains_append, List.contains_cons, hqy, beq_self_eq_true, Bool.true_or, Bool.or_true]
              rw [this, h1]; simp, HW4.out, HB4.out, HX4.out, HY4.out, HPX4.out, HPY4.out, HZ4.out⟩
            case measure => simp [intOf]; omega
        · have HW3 := Lib.hid hown
          have HB3 := Lib.hid hb
          have HX3 := Lib.hid hsx
          have HY3 := Lib.hid hsy
          have HPX3 := Lib.hid hax
          have HPY3 := Lib.hid hay
          clear hown hb hsx hsy hax hay
          have hfin : acc2 = ((xs.take (k + 1)).filter fun w => ys.contains w).map mk := by
            have hjy : ys.length ≤ j := by have := HYL.out; omega
            have h1 := hh2.out
            rw [List.take_of_length_le hjy] at h1
            rw [HF.out, List.map_append, ← hh.out, h1]
            cases ys.contains q <;> simp
          have hlen : acc2.length ≤ k + 1 := hak2
          have HFIN := Lib.hid hfin
          clear hfin
          go_wp2
          go_roundw
          case rel => exact ⟨k + 1, acc2, by omega, by go_num, hlen, HFIN.out, HW3.out, HB3.out, HX3.out, HY3.out, HPX3.out, HPY3.out, hz2⟩
          case measure => simp [intOf]; omega
    · go_wp2
      go_ret
      refine ⟨_, rfl, ?_, HB.out⟩
      have hkl : xs.length ≤ k := by have := HXL.out; omega
      rw [E.out]
      have := hh.out
      rw [List.take_of_length_le hkl] at this
      rw [← this]; exact HW.out
end Go.Proofs.YthbdcmaloojngaaDoor
