/- FilesWith of both. -/
import Derived.Test.YtedcgbmdfmgcgaaGreatDoorUs
import Derived.Test.YtedcgbmdfmgcgaaGreatDoorWr
set_option linter.unusedVariables false
namespace Go.Proofs.YtedcgbmdfmgcgaaGreatDoor
open Go.RowKit
set_option maxHeartbeats 8000000 in
set_option maxRecDepth 100000 in
theorem iFilesWith_any (A : Option Addr) (c : Nat) (l : List Pc) (root : Int) (word : ByteArray) (w : World) (hs : Sl w encP 2 A l) (hl : l.length ≤ 16777216) (hf : FitP l) (hp : word.size ≤ 16777216) (ht : TzL w) (hm : MaxL w) :
    Calls Tryz.prog 20 #[.slice A l.length c, .int .i64 root, .string word] w (OwnRes 9 1 encS (withB l root (bs word)) w) := by
  obtain ⟨q, rfl⟩ : ∃ q, word = mk q := ⟨bs word, (mk_tx word).symm⟩
  rw [show bs (mk q) = q from rfl]
  have HS := Lib.hid hs
  have HT := Lib.hid ht
  have HM := Lib.hid hm
  have HB := Lib.hid (Below.refl w.heap.size w)
  have hA := fun w h h2 h3 => iAllFiles_any A c l root w h hl hf h2 h3
  unfold OwnRes at hA
  rw [show (allF l root).map mk = filesB l root from rfl] at hA
  have E : Hid (withB l root q = (filesB l root).filter fun f => hasW l root q (bs f)) := rfl
  have hn27 := filesB_len l root
  have HSZ := Lib.hid (filesB_size l root)
  have HRA := Lib.hid (fun p w h hp h2 h3 => iReadAt_any A c l root p w h hl hf hp h2 h3)
  generalize withB l root q = R at *
  generalize filesB l root = F at *
  have HA := Lib.hid hA
  clear hA hs ht hm
  go_enter Tryz.func20, Tryz.ntmps20
  go_wp2_with fail
  refine (HA.out _ HS.out HT.out HM.out).mono ?_
  rintro e w3 ⟨v, rfl, hown, hb⟩
  obtain ⟨X_F, d_F, rfl, hle_F, hs_, _⟩ := hown.sl
  have HO_F := Lib.hid (hown.mono HB.out.size)
  have HS_F := Lib.hid hs_
  have HC_F := Lib.hid hown.cz
  clear hs_ hown
  replace HB := Lib.hid (Below_then HB.out hb (Nat.le_refl _))
  replace HS := Lib.hid (HS.out.below hb)
  replace HT := Lib.hid (HT.out.below hb)
  replace HM := Lib.hid (HM.out.below hb)
  clear hb
  go_wp2_with fail
  go_loopw [7, 16] (fun v i wr => ∃ (k : Nat) (acc : List ByteArray), k ≤ F.length ∧ i = .int .i64 k ∧ acc.length ≤ k ∧ Hid (acc = (F.take k).filter fun f => hasW l root q (bs f)) ∧ Own wr w3.heap.size 9 1 encS v acc ∧ Hid (Below w3.heap.size w3 wr)) (fun _ i _ => F.length - (intOf i).toNat)
  case atStart => exact ⟨0, [], Nat.zero_le _, rfl, Nat.le_refl _, rfl, Own.nil, Below.refl _ _⟩
  case round =>
    obtain ⟨k, acc, hk, rfl, hak, hh, hown, HBW⟩ := hrel
    have HW := Lib.hid hown
    have HBA := Lib.hid (Below_then HB.out HBW.out (Nat.le_refl _))
    clear hown
    by_cases hlt : k < F.length
    · have hlt' : (k : Int) < (F.length : Int) := by omega
      obtain ⟨b, o, rfl, hc⟩ := (HS_F.out.below HBW.out).getS hlt
      have HSW := Lib.hid (HS.out.below HBW.out)
      have HTW := Lib.hid (HT.out.below HBW.out)
      have HMW := Lib.hid (HM.out.below HBW.out)
      have hz := HSZ.out _ (List.getElem_mem hlt)
      have hRA := fun w h h2 h3 => HRA.out F[k] w h (by omega) h2 h3
      have hrl := readAt_len l root (bs F[k])
      have hfu := filterB_upto (p := fun f => hasW l root q (bs f)) hlt
      have hhw : hasW l root q (bs F[k]) = hasS (wordsB (mk ((readAt l root (bs F[k])).getD []))) (mk q) := by
        unfold wordsB hasW; rw [hasS_map]; rfl
      rw [hhw] at hfu
      unfold FoRes at hRA
      rw [← mk_size] at hrl
      generalize F[k] = x at *
      generalize mk ((readAt l root (bs x)).getD []) = CT at *
      generalize (readAt l root (bs x)).isSome = okr at *
      have hWO := fun w h => iWordsOf_any CT w (by omega) h
      unfold OwnRes at hWO
      have hw61 := wordsB_len CT
      generalize wordsB CT = ws at *
      have hCN := fun Y d w h => ContainsS_any Y d ws (mk q) w h (by omega)
      have HRX := Lib.hid hRA
      have HWO := Lib.hid hWO
      have HF := Lib.hid hfu
      clear hfu hRA hhw hWO
      have hl1 : acc.length ≤ 16777216 := by omega
      cases hcn : hasS ws (mk q)
      · rw [hcn] at hCN
        have HCN := Lib.hid hCN
        have HC := Lib.hid hcn
        clear hCN hcn
        go_wp2_with fail
        refine (HRX.out _ HSW.out HTW.out HMW.out).mono ?_
        rintro e w' ⟨rfl, hb⟩
        replace HBW := Lib.hid (Below_then HBW.out hb (Nat.le_refl _))
        replace HBA := Lib.hid (Below_then HBA.out hb (Nat.le_refl _))
        replace HMW := Lib.hid (HMW.out.below hb)
        replace HW := Lib.hid (HW.out.below hb)
        clear hb
        go_wp2_with fail
        refine (HWO.out _ HMW.out).mono ?_
        rintro e w' ⟨v, rfl, hown, hb⟩
        obtain ⟨X_Y, d_Y, rfl, hle_Y, hs_, _⟩ := hown.sl
        have HO_Y := Lib.hid (hown.mono HBA.out.size)
        have HS_Y := Lib.hid hs_
        have HC_Y := Lib.hid hown.cz
        clear hs_ hown
        replace HBW := Lib.hid (Below_then HBW.out hb (Nat.le_refl _))
        replace HW := Lib.hid (HW.out.below hb)
        clear hb
        go_wp2_with (go_at_call 53; refine (HCN.out _ _ _ HS_Y.out).mono ?_; rintro e w' ⟨rfl, rfl⟩)
        go_roundw
        case rel => exact ⟨k + 1, acc, by omega, by go_num, by omega, by show _ = _; rw [HF.out, HC.out, hh.out]; simp, HW.out, HBW.out⟩
        case measure => simp [intOf]; omega
      · rw [hcn] at hCN
        have HCN := Lib.hid hCN
        have HC := Lib.hid hcn
        clear hCN hcn
        go_wp2_with fail
        refine (HRX.out _ HSW.out HTW.out HMW.out).mono ?_
        rintro e w' ⟨rfl, hb⟩
        replace HBW := Lib.hid (Below_then HBW.out hb (Nat.le_refl _))
        replace HBA := Lib.hid (Below_then HBA.out hb (Nat.le_refl _))
        replace HMW := Lib.hid (HMW.out.below hb)
        replace HW := Lib.hid (HW.out.below hb)
        clear hb
        go_wp2_with fail
        refine (HWO.out _ HMW.out).mono ?_
        rintro e w' ⟨v, rfl, hown, hb⟩
        obtain ⟨X_Y, d_Y, rfl, hle_Y, hs_, _⟩ := hown.sl
        have HO_Y := Lib.hid (hown.mono HBA.out.size)
        have HS_Y := Lib.hid hs_
        have HC_Y := Lib.hid hown.cz
        clear hs_ hown
        replace HBW := Lib.hid (Below_then HBW.out hb (Nat.le_refl _))
        replace HW := Lib.hid (HW.out.below hb)
        clear hb
        go_wp2_with (first
          | (go_at_call 53; refine (HCN.out _ _ _ HS_Y.out).mono ?_; rintro e w' ⟨rfl, rfl⟩)
          | (at_builtin; refine app_str (w0 := w3) rfl rfl rfl rfl HW.out HBW.out hl1 ?_; intro v1 w6 hown6 hb6; have HW6 := Lib.hid hown6; have HB6 := Lib.hid hb6; clear hown6 hb6))
        go_roundw
        case rel => exact ⟨k + 1, acc ++ [x], by omega, by go_num, by simp; omega, by show _ = _; rw [HF.out, HC.out, hh.out]; simp, HW6.out, HB6.out⟩
        case measure => simp [intOf]; omega
    · have hlt' : ¬ (k : Int) < (F.length : Int) := by omega
      go_wp2
      go_ret
      refine ⟨_, rfl, ?_, HBA.out⟩
      rw [E.out]
      have := hh.out
      rw [List.take_of_length_le (by omega)] at this
      rw [← this]; exact HW.out.mono HB.out.size
set_option maxHeartbeats 16000000 in
set_option maxRecDepth 100000 in
theorem sFilesWith_any (A : Option Addr) (c : Nat) (l : List Pc) (root : Int) (word : ByteArray) (w : World) (hs : Sl w encP 2 A l) (hl : l.length ≤ 16777216) (hf : FitP l) :
    Calls Tryz.prog 22 #[.slice A l.length c, .int .i64 root, .string word] w (OwnRes 9 1 encS (withB l root (bs word)) w) := by
  obtain ⟨q, rfl⟩ : ∃ q, word = mk q := ⟨bs word, (mk_tx word).symm⟩
  rw [show bs (mk q) = q from rfl]
  have HS := Lib.hid (hs.alloc (.cells #[] 9))
  have HB := Lib.hid ((Below.refl w.heap.size w).alloc (Nat.le_refl _) (.cells #[] 9))
  have HW := Lib.hid (Own.made (enc := encS) (E := 9) (size := 1) (Nat.le_refl w.heap.size))
  have hA := fun w h => sAllFiles_any A c l root w h hl hf
  unfold OwnRes at hA
  rw [show (allF l root).map mk = filesB l root from rfl] at hA
  have E : Hid (withB l root q = (filesB l root).filter fun f => hasW l root q (bs f)) := rfl
  have hn27 := filesB_len l root
  have HSZ := Lib.hid (filesB_size l root)
  have HRA := Lib.hid (fun p w h hp => sReadAt_any A c l root p w h hl hf hp)
  have HLS := Lib.hid hs
  generalize withB l root q = R at *
  generalize filesB l root = F at *
  have HA := Lib.hid hA
  clear hA hs
  go_enter Tryz.func22, Tryz.ntmps22
  go_wp2_with fail
  refine (HA.out _ HS.out).mono ?_
  rintro e w2 ⟨v, rfl, hown, hb⟩
  obtain ⟨X, d, rfl, hle, _, _⟩ := hown.sl
  have HSX := Lib.hid hown.sl'
  have HLX := Lib.hid hown.ltA
  have HAX := Lib.hid (hown.apart (v := .slice (some ⟨w.heap.size, 0, none⟩) 0 0) (by intro g hg; have hg : some w.heap.size = some g := hg; injection hg with hg; subst hg; simp))
  replace HB := Lib.hid (HB.out.trans (hb.mono (by simp)))
  replace HW := Lib.hid (HW.out.below hb)
  clear hb hown
  go_wp2_with fail
  go_loopw [7, 9] (fun v i wr => ∃ (k : Nat) (acc : List ByteArray), k ≤ F.length ∧ i = .int .i64 k ∧ acc.length ≤ k ∧ Hid (acc = (F.take k).filter fun f => hasW l root q (bs f)) ∧ Own wr w.heap.size 9 1 encS v acc ∧ Hid (Below w.heap.size w wr) ∧ Hid (Sl wr encS 1 X F) ∧ Hid (Apart X v) ∧ w2.heap.size ≤ wr.heap.size) (fun _ i _ => F.length - (intOf i).toNat)
  case atStart => exact ⟨0, [], Nat.zero_le _, rfl, Nat.le_refl _, rfl, HW.out, HB.out, HSX.out, HAX.out, Nat.le_refl _⟩
  case round =>
    obtain ⟨k, acc, hk, rfl, hak, hh, hown, HBW, HXW, HAW, hzw⟩ := hrel
    have HWW := Lib.hid hown
    clear hown
    by_cases hlt : k < F.length
    · have hlt' : (k : Int) < (F.length : Int) := by omega
      obtain ⟨b, o, rfl, hc⟩ := HXW.out.getS hlt
      have HSW := Lib.hid (HLS.out.below HBW.out)
      have hz := HSZ.out _ (List.getElem_mem hlt)
      have hRA := fun w h => HRA.out F[k] w h (by omega)
      have hrl := readAt_len l root (bs F[k])
      have hfu := filterB_upto (p := fun f => hasW l root q (bs f)) hlt
      have hhw : hasW l root q (bs F[k]) = (wordsOf (bs (mk ((readAt l root (bs F[k])).getD [])))).contains q := rfl
      rw [hhw] at hfu
      have HGX := Lib.hid (fun (w : World) (h : Sl w encS 1 (some ⟨b, o, none⟩) F) => h.getS hlt)
      unfold FoRes at hRA
      rw [← mk_size] at hrl
      generalize F[k] = x at *
      generalize mk ((readAt l root (bs x)).getD []) = CT at *
      generalize (readAt l root (bs x)).isSome = okr at *
      have hWO := fun w => sWordsOf_any CT w (by omega)
      unfold OwnRes wordsB at hWO
      have hys61 := wordsOf_len (bs CT)
      have HND := Lib.hid (wordsOf_ok (bs CT)).2
      generalize wordsOf (bs CT) = ys at *
      generalize hyb : ys.map mk = yb at *
      have HYB := Lib.hid hyb
      have hyl : yb.length = ys.length := by rw [← hyb, List.length_map]
      have HRX := Lib.hid hRA
      have HWO := Lib.hid hWO
      have HF := Lib.hid hfu
      clear hfu hRA hhw hWO hyb
      go_wp2_with fail
      refine (HRX.out _ HSW.out).mono ?_
      rintro e w4 ⟨rfl, hb⟩
      replace HBW := Lib.hid (Below_then HBW.out hb (Nat.le_refl _))
      replace HXW := Lib.hid (HXW.out.below hb)
      replace HWW := Lib.hid (HWW.out.below hb)
      have hz4 : w2.heap.size ≤ w4.heap.size := Nat.le_trans hzw hb.size
      clear hb hc
      go_wp2_with fail
      refine (HWO.out _).mono ?_
      rintro e w5 ⟨v5, rfl, hown, hb⟩
      obtain ⟨Y, d5, rfl, hle5, _, _⟩ := hown.sl
      have HSY := Lib.hid hown.sl'
      have HLY := Lib.hid hown.ltA
      have HAY := Lib.hid (hown.apart (v := u7) (fun g hg => (World.ownsRow.lt HWW.out g hg).2))
      replace HBW := Lib.hid (Below_then HBW.out hb (Nat.le_refl _))
      replace HXW := Lib.hid (HXW.out.below hb)
      replace HWW := Lib.hid (HWW.out.below hb)
      have hz5 : w2.heap.size ≤ w5.heap.size := Nat.le_trans hz4 hb.size
      clear hb hown
      go_wp2_with fail
      go_loopw [7, 13] (fun v i wr2 => ∃ (j : Nat) (acc2 : List ByteArray), j ≤ yb.length ∧ i = .int .i64 j ∧ acc2.length ≤ k + 1 ∧ Hid (acc2 = acc ++ if (ys.take j).contains q then [x] else []) ∧ Own wr2 w.heap.size 9 1 encS v acc2 ∧ Hid (Below w.heap.size w wr2) ∧ Hid (Sl wr2 encS 1 (some ⟨b, o, none⟩) F) ∧ Hid (Sl wr2 encS 1 Y yb) ∧ Hid (Apart (some ⟨b, o, none⟩) v) ∧ Hid (Apart Y v) ∧ w5.heap.size ≤ wr2.heap.size) (fun _ i _ => yb.length - (intOf i).toNat)
      case atStart => exact ⟨0, acc, Nat.zero_le _, rfl, by omega, by show _ = _; simp, HWW.out, HBW.out, HXW.out, HSY.out, HAW.out, HAY.out, Nat.le_refl _⟩
      case round =>
        obtain ⟨j, acc2, hj, rfl, hak2, hh2, hown, HBJ, HXJ, HYJ, HAJ, HAYJ, hz2⟩ := hrel
        have HWJ := Lib.hid hown
        clear hown
        by_cases hjl : j < yb.length
        · have hjy : j < ys.length := by omega
          have hye : yb[j] = mk ys[j] := by
            have : yb[j]? = some (mk ys[j]) := by rw [← HYB.out, List.getElem?_map, List.getElem?_eq_getElem hjy]; rfl
            rw [List.getElem?_eq_getElem hjl] at this; injection this
          obtain ⟨b1, o1, e1, hc1⟩ := HGX.out _ HXJ.out
          obtain ⟨b2, o2, e2, hc2⟩ := HYJ.out.getS hjl
          injection e1 with e1; injection e1 with e3 e4
          subst e3 e4 e2
          rw [hye] at hc2
          have htk : ys.take (j + 1) = ys.take j ++ [ys[j]] := List.take_succ_eq_append_getElem hjy
          have hndj : (ys.take j).contains ys[j] = false := by
            rw [List.contains_eq_mem, decide_eq_false_iff_not]
            intro hm
            have h1 : (ys.take j ++ ys.drop j).Nodup := by rw [List.take_append_drop]; exact HND.out
            rw [List.nodup_append] at h1
            exact h1.2.2 _ hm ys[j] (by rw [List.drop_eq_getElem_cons hjy]; exact List.mem_cons_self) rfl
          have heq : ((mk ys[j]).toList == (mk q).toList) = (ys[j] == q) := eq_toList (mk ys[j]) (mk q)
          generalize ys[j] = y at *
          have HTK := Lib.hid htk
          have HNDJ := Lib.hid hndj
          have hl1 : acc2.length ≤ 16777216 := by omega
          have HLX2 := Lib.hid (HLX.out.mono (Nat.le_trans hz5 hz2))
          have HLY2 := Lib.hid (HLY.out.mono hz2)
          clear htk hndj hye
          cases hqy : (y == q)
          · rw [hqy] at heq
            have hyq : (q == y) = false := by rw [beq_eq_false_iff_ne] at hqy ⊢; exact fun e => hqy e.symm
            have HQY := Lib.hid hyq
            clear hqy hyq
            go_wp2
            go_roundw
            case rel => exact ⟨j + 1, acc2, by omega, by go_num, by omega, by
              show _ = _
              have hqy := HQY.out
              have : (ys.take (j + 1)).contains q = (ys.take j).contains q := by rw [HTK.out, List.contains_append, List.contains_cons, hqy, List.contains_nil, Bool.or_false, Bool.or_false]
              rw [this, ← hh2.out], HWJ.out, HBJ.out, HXJ.out, HYJ.out, HAJ.out, HAYJ.out, hz2⟩
            case measure => simp [intOf]; omega
          · rw [hqy] at heq
            have hyq : q = y := (beq_iff_eq.1 hqy).symm
            have HQY := Lib.hid hyq
            clear hqy hyq
            go_wp2_with (at_builtin; refine app_str3 rfl rfl rfl rfl HWJ.out HBJ.out hl1 ?_; intro v4 w4' hown4 hb4 hg4 hk4; have HW4 := Lib.hid hown4; have HB4 := Lib.hid hb4; have HX4 := Lib.hid (HXJ.out.grew hg4 HAJ.out); have HY4 := Lib.hid (HYJ.out.grew hg4 HAYJ.out); have HPX4 := Lib.hid (HAJ.out.kin HLX2.out hk4); have HPY4 := Lib.hid (HAYJ.out.kin HLY2.out hk4); have HZ4 := Lib.hid (Nat.le_trans hz2 hg4.size); clear hown4 hb4 hg4 hk4)
            go_roundw
            case rel => exact ⟨j + 1, acc2 ++ [x], by omega, by go_num, (by
              have hqy := HQY.out
              have h1 := hh2.out
              rw [hqy, HNDJ.out] at h1
              simp at h1
              rw [h1, List.length_append]; simp; omega), by
              show _ = _
              have hqy := HQY.out
              have h1 := hh2.out
              rw [hqy, HNDJ.out] at h1
              have : (ys.take (j + 1)).contains q = true := by rw [HTK.out, List.contains_append, List.contains_cons, hqy, beq_self_eq_true, Bool.true_or, Bool.or_true]
              rw [this, h1]; simp, HW4.out, HB4.out, HX4.out, HY4.out, HPX4.out, HPY4.out, HZ4.out⟩
            case measure => simp [intOf]; omega
        · have hjl' : ¬ (j : Int) < (yb.length : Int) := by omega
          have HE2 := Lib.hid (show acc2 = acc ++ if ys.contains q then [x] else [] by have := hh2.out; rwa [List.take_of_length_le (by omega)] at this)
          have hal : acc2.length ≤ k + 1 := hak2
          have HZJ := Lib.hid (Nat.le_trans hz5 hz2)
          go_wp2
          go_roundw
          case rel => exact ⟨k + 1, acc2, by omega, by go_num, hal, by show _ = _; rw [HF.out, HE2.out, hh.out], HWJ.out, HBJ.out, HXJ.out, HAJ.out, HZJ.out⟩
          case measure => simp [intOf]; omega
    · have hlt' : ¬ (k : Int) < (F.length : Int) := by omega
      go_wp2
      go_ret
      refine ⟨_, rfl, ?_, HBW.out⟩
      rw [E.out]
      have := hh.out
      rw [List.take_of_length_le (by omega)] at this
      rw [← this]; exact HWW.out
end Go.Proofs.YtedcgbmdfmgcgaaGreatDoor
