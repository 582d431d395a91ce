/- The laws of words, walked. -/
import Derived.Test.YthbdcmaloojngaaDoorDu
import Derived.Test.YthbdcmaloojngaaDoorEq
import Derived.Test.YthbdcmaloojngaaDoorL1
set_option linter.unusedVariables false
namespace Go.Proofs.YthbdcmaloojngaaDoor
open Go.RowKit

def zooL : Bs := [122, 111, 111]
theorem bs_append (a b : ByteArray) : bs (a ++ b) = bs a ++ bs b := by
  show (a ++ b).data.toList = a.data.toList ++ b.data.toList
  rw [ByteArray.data_append, Array.toList_append]
theorem hat_mk {l : List Bs} {lb : List ByteArray} {k : Nat} (h2 : k < lb.length) (e : l.map mk = lb) : ∃ h1 : k < l.length, lb[k] = mk l[k] := by
  have h1 : k < l.length := by rw [← List.length_map (f := mk), e]; exact h2
  refine ⟨h1, ?_⟩
  have : lb[k]? = some (mk l[k]) := by rw [← e, List.getElem?_map, List.getElem?_eq_getElem h1]; rfl
  rw [List.getElem?_eq_getElem h2] at this; injection this
set_option maxHeartbeats 8000000 in
set_option maxRecDepth 100000 in
theorem wFnWordsOf (A : Option Addr) (n c : Nat) (w : World) (hb : BytesIn w A n c) (hm : MaxL w) : Calls Tryd.prog 5 #[.slice A n c] w (LawOk w) := by
  by_cases h : n ≤ 1048576
  case neg =>
    go_enter Tryd.func5, Tryd.ntmps5
    go_wp2
    go_ret
    exact ⟨rfl, Below.refl _ _⟩
  have HBI := Lib.hid hb
  have HM := Lib.hid hm
  clear hb hm
  go_enter Tryd.func5, Tryd.ntmps5
  go_wp2_with fail
  refine (DrawWordsOf_any _ _ _ _ HBI.out).mono ?_
  rintro e w1 ⟨_, rfl, ⟨s, rfl, hs⟩, hb1⟩
  have HB1 := Lib.hid hb1
  have HM1 := Lib.hid (HM.out.below hb1)
  clear hb1
  have HI := Lib.hid (fun w h => iWordsOf_any s w (by omega) h)
  have HS := Lib.hid (fun w => sWordsOf_any s w (by omega))
  have hzs : (s ++ (⟨#[32, 122, 111, 111]⟩ : ByteArray)).size ≤ 16777216 := by rw [ByteArray.size_append]; have : (⟨#[32, 122, 111, 111]⟩ : ByteArray).size = 4 := rfl; omega
  have HI2 := Lib.hid (fun w h => iWordsOf_any (s ++ ⟨#[32, 122, 111, 111]⟩) w hzs h)
  have hTV := fun w => iTextValid_any (s ++ ⟨#[32, 122, 111, 111]⟩) w hzs
  have hzoo := wordsOf_zoo (s := bs s)
  have hbz : bs (s ++ (⟨#[32, 122, 111, 111]⟩ : ByteArray)) = bs s ++ [32, 122, 111, 111] := bs_append _ _
  rw [← hbz] at hzoo
  have hok := wordsOf_ok (bs s)
  have hxl := wordsOf_len (bs s)
  unfold OwnRes wordsB at HI HS HI2
  generalize wordsOf (bs s) = xs at *
  generalize hxb : xs.map mk = xb at *
  have HXB := Lib.hid hxb
  have hxl2 : xb.length ≤ 61 := by rw [← hxb, List.length_map]; exact hxl
  have HOK := Lib.hid hok
  have HZOO := Lib.hid hzoo
  have HSAME := Lib.hid (fun X Y d d' w h1 h2 => l_sameTexts_same X Y d d' xb w h1 h2 (by omega))
  clear hok hzoo hxb hbz hxl
  go_wp2_with fail
  refine (HI.out _ HM1.out).mono ?_
  rintro e w2 ⟨v2, rfl, hown2, hb2⟩
  obtain ⟨X, d2, rfl, _, hsx2, _⟩ := hown2.sl
  have HX2 := Lib.hid hsx2
  have HB2 := Lib.hid (Below_then HB1.out hb2 (Nat.le_refl _))
  clear hown2 hsx2 hb2
  go_wp2_with fail
  refine (HS.out _).mono ?_
  rintro e w3 ⟨v3, rfl, hown3, hb3⟩
  obtain ⟨Y, d3, rfl, _, hsy3, _⟩ := hown3.sl
  have HY3 := Lib.hid hsy3
  have HX3 := Lib.hid (HX2.out.below hb3)
  have HB3 := Lib.hid (Below_then HB2.out hb3 (Nat.le_refl _))
  clear hown3 hsy3 hb3
  go_wp2_with fail
  refine (HSAME.out X Y d2 d3 _ HX3.out HY3.out).mono ?_
  rintro e w4 ⟨rfl, hd4⟩
  have HX4 := Lib.hid (HX3.out.below hd4.below)
  have HB4 := Lib.hid (Below_then HB3.out hd4.below (Nat.le_refl _))
  clear hd4
  go_wp2_with fail
  go_loopw [5] (fun i wr => ∃ k : Nat, k ≤ xb.length ∧ i = .int .i64 k ∧ Hid (Below w4.heap.size w4 wr)) (fun i _ => xb.length - (intOf i).toNat)
  case atStart => exact ⟨0, Nat.zero_le _, rfl, Below.refl _ _⟩
  case round =>
    obtain ⟨k, hk, rfl, HBW⟩ := hrel
    by_cases hlt : k < xb.length
    · obtain ⟨b, o, e, hc⟩ := (HX4.out.below HBW.out).getS hlt
      obtain ⟨hlx, hxe⟩ := hat_mk hlt HXB.out
      have hwv := HOK.out.1 xs[k] (by simp)
      have HGK := Lib.hid (fun (w : World) (h : Sl w encS 1 X xb) => h.getS hlt)
      rw [hxe] at hc HGK
      have hne : ∀ j (hj : j < xb.length), j < k → ∃ q, xb[j] = mk q ∧ (q == xs[k]) = false := by
        intro j hj hjk
        obtain ⟨hjx, hje⟩ := hat_mk hj HXB.out
        refine ⟨xs[j], hje, ?_⟩
        rw [beq_eq_false_iff_ne]
        intro e
        exact List.pairwise_iff_getElem.1 HOK.out.2 j k hjx hlx hjk e
      generalize xs[k] = q at *
      have hqs : (mk q).size ≤ 16777216 := by have h1 := wordV_size (s := mk q) hwv; omega
      have hWV := fun w => iWordValid_any (mk q) w hqs
      have hbq : bs (mk q) = q := rfl
      rw [hbq, hwv] at hWV
      have HWV := Lib.hid hWV
      have HNE := Lib.hid hne
      have HEQ := Lib.hid (fun z : Bs => eq_toList (mk z) (mk q))
      subst e
      clear hWV hne hbq hwv hqs hxe
      go_wp2_with (go_at_call 20; refine (HWV.out _).mono ?_; rintro e w' ⟨rfl, rfl⟩)
      go_loopw [6] (fun i wr2 => ∃ j : Nat, j ≤ k ∧ i = .int .i64 j ∧ Hid (Below w4.heap.size w4 wr2)) (fun i _ => k - (intOf i).toNat)
      case atStart => exact ⟨0, Nat.zero_le _, rfl, HBW.out⟩
      case round =>
        obtain ⟨j, hj, rfl, HBV⟩ := hrel
        by_cases hjk : j < k
        · obtain ⟨b1, o1, e1, hc1⟩ := HGK.out _ (HX4.out.below HBV.out)
          obtain ⟨b2, o2, e2, hc2⟩ := (HX4.out.below HBV.out).getS (k := j) (by omega)
          obtain ⟨z, hz, hzq⟩ := HNE.out j (by omega) hjk
          rw [hz] at hc2
          injection e1 with e1
          injection e1 with e11 e12
          subst e11 e12
          injection e2 with e2
          injection e2 with e21 e22
          subst e21 e22
          have hq1 : ((mk z).toList == (mk q).toList) = false := by rw [HEQ.out]; exact hzq
          clear hz hzq
          go_wp2
          go_quiet (fail)
          go_wp2
          go_roundw
          case rel => exact ⟨j + 1, by omega, by go_num, Below_drewN HBV.out _⟩
          case measure => simp [intOf]; omega
        · go_wp2
          go_roundw
          case rel => exact ⟨k + 1, by omega, by go_num, HBV.out⟩
          case measure => simp [intOf]; omega
    · have HBF := Lib.hid (Below_then HB4.out HBW.out (Nat.le_refl _))
      have HXF := Lib.hid (HX4.out.below HBW.out)
      have HMF := Lib.hid (HM.out.below HBF.out)
      have z1 : s.size ≤ 61 := hs
      have z2 : (⟨#[32, 122, 111, 111]⟩ : ByteArray).size ≤ 4 := by decide
      cases hv : textV (bs (s ++ (⟨#[32, 122, 111, 111]⟩ : ByteArray)))
      · rw [hv] at hTV
        have HTV := Lib.hid hTV
        clear hTV hv
        go_wp2_with (first | (go_at_call 21; refine (HTV.out _).mono ?_; rintro e w' ⟨rfl, rfl⟩) | (go_at_call 22; refine (alive_any _).mono ?_; rintro e w' ⟨rfl, rfl⟩))
        go_ret
        exact ⟨rfl, HBF.out⟩
      · obtain ⟨_, hmore⟩ := HZOO.out hv
        rw [hv] at hTV
        have HTV := Lib.hid hTV
        have hI2 := HI2.out
        rw [hmore] at hI2
        clear hTV hv hmore
        cases hcz : xs.contains zooL
        · have hy : addW xs [122, 111, 111] = xs ++ [zooL] := addW_yes (by decide) hcz
          rw [hy, List.map_append, HXB.out] at hI2
          have hI3 : ∀ w, MaxL w → Calls Tryd.prog 10 #[.string (s ++ ⟨#[32, 122, 111, 111]⟩)] w fun e w' => ∃ v, e = .returned v ∧ Own w' w.heap.size 9 1 encS v (xb ++ [mk zooL]) ∧ Below w.heap.size w w' := hI2
          have HI3 := Lib.hid hI3
          have HCZ := Lib.hid hcz
          clear hI2 hI3 hy hcz
          go_wp2_with (go_at_call 21; refine (HTV.out _).mono ?_; rintro e w' ⟨rfl, rfl⟩)
          refine (HI3.out _ HMF.out).mono ?_
          rintro e w6 ⟨v6, rfl, hown6, hb6⟩
          obtain ⟨Z, d6, ev, _, hsz6, _⟩ := hown6.sl
          have hlen : (xb ++ [mk zooL]).length = xb.length + 1 := by simp
          rw [hlen] at ev
          subst ev
          have hlast : ∃ b o, Z = some ⟨b, o, none⟩ ∧ w6.cell? ⟨b, o + xb.length, none⟩ = some (.string (mk zooL)) := by
            obtain ⟨b, o, e, hc⟩ := hsz6.getS (k := xb.length) (by rw [hlen]; omega)
            refine ⟨b, o, e, ?_⟩
            rw [hc, List.getElem_append_right (Nat.le_refl _)]; simp
          have HLAST := Lib.hid hlast
          have HX6 := Lib.hid (HXF.out.below hb6)
          have HB6 := Lib.hid (Below_then HBF.out hb6 (Nat.le_refl _))
          clear hown6 hsz6 hb6 hlast hlen
          go_wp2_with fail
          go_loop [8] (fun i => ∃ j : Nat, j ≤ xb.length ∧ i = .int .i64 j) (fun i => xb.length - (intOf i).toNat)
          case atStart => exact ⟨0, Nat.zero_le _, rfl⟩
          case round =>
            obtain ⟨j, hj, rfl⟩ := hrel
            by_cases hjl : j < xb.length
            · obtain ⟨b1, o1, rfl, hc1⟩ := HX6.out.getS hjl
              obtain ⟨hjx, hje⟩ := hat_mk hjl HXB.out
              rw [hje] at hc1
              have hnz : xs[j] ≠ zooL := by
                intro e
                have h1 := HCZ.out
                rw [List.contains_eq_mem, decide_eq_false_iff_not] at h1
                exact h1 (e ▸ List.getElem_mem hjx)
              have hq1 : ((mk xs[j]).toList == [122, 111, 111]) = false := by
                rw [mk_toList, beq_eq_false_iff_ne]; exact hnz
              generalize xs[j] = z at *
              clear hnz hje
              go_wp2
              go_round
              case rel => exact ⟨j + 1, by omega, by go_num⟩
              case measure => simp [intOf]; omega
            · obtain ⟨b1, o1, rfl, hc1⟩ := HLAST.out
              have hq1 : ((mk zooL).toList == [122, 111, 111]) = true := by rw [mk_toList]; decide
              have g1 : IntKind.i64.wrap ((xb.length : Int) + 1) = (xb.length : Int) + 1 := IntWalk.i64_in _ (by omega)
              have g2 : (xb.length : Int) + 1 - 1 = (xb.length : Int) := by omega
              generalize mk zooL = zz at *
              go_wp2
              go_ret
              exact ⟨rfl, HB6.out⟩
        · have hy : addW xs [122, 111, 111] = xs := addW_no (.inr hcz)
          rw [hy, HXB.out] at hI2
          have hI3 : ∀ w, MaxL w → Calls Tryd.prog 10 #[.string (s ++ ⟨#[32, 122, 111, 111]⟩)] w fun e w' => ∃ v, e = .returned v ∧ Own w' w.heap.size 9 1 encS v xb ∧ Below w.heap.size w w' := hI2
          have HI3 := Lib.hid hI3
          have hex : ∃ (j0 : Nat) (h : j0 < xs.length), xs[j0] = zooL := by
            rw [List.contains_eq_mem, decide_eq_true_eq] at hcz
            obtain ⟨j0, h, e⟩ := List.getElem_of_mem hcz
            exact ⟨j0, h, e⟩
          have HEX := Lib.hid hex
          clear hI2 hI3 hy hcz hex
          go_wp2_with (go_at_call 21; refine (HTV.out _).mono ?_; rintro e w' ⟨rfl, rfl⟩)
          refine (HI3.out _ HMF.out).mono ?_
          rintro e w6 ⟨v6, rfl, hown6, hb6⟩
          obtain ⟨Z, d6, rfl, _, hsz6, _⟩ := hown6.sl
          have HZ6 := Lib.hid hsz6
          have HX6 := Lib.hid (HXF.out.below hb6)
          have HB6 := Lib.hid (Below_then HBF.out hb6 (Nat.le_refl _))
          clear hown6 hsz6 hb6
          go_wp2_with fail
          go_loop [8] (fun i => ∃ j : Nat, j ≤ xb.length ∧ i = .int .i64 j ∧ Hid (∀ j' (h : j' < xs.length), j' < j → xs[j'] ≠ zooL)) (fun i => xb.length - (intOf i).toNat)
          case atStart => exact ⟨0, Nat.zero_le _, rfl, (by intro j' _ h; omega)⟩
          case round =>
            obtain ⟨j, hj, rfl, hno⟩ := hrel
            have hjl : j < xb.length := by
              obtain ⟨j0, h0, e0⟩ := HEX.out
              have hxx : xs.length = xb.length := by rw [← HXB.out, List.length_map]
              by_cases hjj : j0 < j
              · exact absurd e0 (hno.out j0 h0 hjj)
              · omega
            obtain ⟨b1, o1, rfl, hc1⟩ := HX6.out.getS hjl
            obtain ⟨hjx, hje⟩ := hat_mk hjl HXB.out
            rw [hje] at hc1
            cases hz : (xs[j] == zooL)
            · have hq1 : ((mk xs[j]).toList == [122, 111, 111]) = false := by rw [mk_toList]; exact hz
              have hno2 : ∀ j' (h : j' < xs.length), j' < j + 1 → xs[j'] ≠ zooL := by
                intro j' h hj'
                by_cases e : j' = j
                · subst e; rw [beq_eq_false_iff_ne] at hz; exact hz
                · exact hno.out j' h (by omega)
              have HNO2 := Lib.hid hno2
              generalize xs[j] = z at *
              clear hno2 hje hz hno
              go_wp2
              go_round
              case rel => exact ⟨j + 1, by omega, by go_num, HNO2.out⟩
              case measure => simp [intOf]; omega
            · have hq1 : ((mk xs[j]).toList == [122, 111, 111]) = true := by rw [mk_toList]; exact hz
              generalize xs[j] = z at *
              clear hje hz hno
              go_wp2_with fail
              refine (HSAME.out Z (some ⟨b1, o1, none⟩) d6 d2 _ HZ6.out HX6.out).mono ?_
              rintro e w7 ⟨rfl, hd7⟩
              have HB7 := Lib.hid (Below_then HB6.out hd7.below (Nat.le_refl _))
              clear hd7
              go_wp2_with fail
              go_ret
              exact ⟨rfl, HB7.out⟩
set_option maxHeartbeats 8000000 in
set_option maxRecDepth 100000 in
theorem wFnCommonWords (A : Option Addr) (n c : Nat) (w : World) (hb : BytesIn w A n c) (hm : MaxL w) : Calls Tryd.prog 8 #[.slice A n c] w (LawOk w) := by
  by_cases h : n ≤ 1048576
  case neg =>
    go_enter Tryd.func8, Tryd.ntmps8
    go_wp2
    go_ret
    exact ⟨rfl, Below.refl _ _⟩
  have HBI := Lib.hid hb
  have HM := Lib.hid hm
  clear hb hm
  go_enter Tryd.func8, Tryd.ntmps8
  go_wp2_with fail
  refine (DrawCommonWords_any _ _ _ _ HBI.out).mono ?_
  rintro e w1 ⟨a, b, rfl, ha, hb, hb1⟩
  have HB1 := Lib.hid hb1
  clear hb1
  have hI := fun w h => iCommonWords_any a b w (by omega) (by omega) h
  have hS := fun w => sCommonWords_any a b w (by omega) (by omega)
  have hT := fun w h => iCommonWords_any b a w (by omega) (by omega) h
  have hD := fun w h => iCommonWords_any a a w (by omega) (by omega) h
  have hW := fun w h => iWordsOf_any a w (by omega) h
  have e1 : (commonB b a).length = (commonB a b).length := by unfold commonB; rw [List.length_map, List.length_map]; exact commonW_len _ _
  have e2 : commonB a a = wordsB a := by unfold commonB wordsB; rw [commonW_self]
  have e3 : (commonB a b).length ≤ (wordsB a).length := by unfold commonB wordsB; rw [List.length_map, List.length_map]; exact commonW_le _ _
  have e4 := wordsB_len a
  rw [e2] at hD
  unfold OwnRes at hI hS hT hD hW
  generalize commonB a b = xb at *
  generalize commonB b a = tb at *
  generalize wordsB a = wb at *
  have HI := Lib.hid hI
  have HS := Lib.hid hS
  have HT := Lib.hid hT
  have HD := Lib.hid hD
  have HW := Lib.hid hW
  have hxw : (xb.length : Int) ≤ (wb.length : Int) := by omega
  have HE1 := Lib.hid e1
  clear hI hS hT hD hW e1 e2
  go_wp2_with fail
  refine (HI.out _ (HM.out.below HB1.out)).mono ?_
  rintro e w2 ⟨v2, rfl, hown2, hb2⟩
  obtain ⟨X, d2, rfl, _, hsx2, _⟩ := hown2.sl
  have HX2 := Lib.hid hsx2
  have HB2 := Lib.hid (Below_then HB1.out hb2 (Nat.le_refl _))
  clear hown2 hsx2 hb2
  go_wp2_with fail
  refine (HS.out _).mono ?_
  rintro e w3 ⟨v3, rfl, hown3, hb3⟩
  obtain ⟨Y, d3, rfl, _, hsy3, _⟩ := hown3.sl
  have HY3 := Lib.hid hsy3
  have HX3 := Lib.hid (HX2.out.below hb3)
  have HB3 := Lib.hid (Below_then HB2.out hb3 (Nat.le_refl _))
  clear hown3 hsy3 hb3
  go_wp2_with fail
  refine (l_sameTexts_same X Y d2 d3 xb _ HX3.out HY3.out (by omega)).mono ?_
  rintro e w4 ⟨rfl, hd4⟩
  have HB4 := Lib.hid (Below_then HB3.out hd4.below (Nat.le_refl _))
  clear hd4
  go_wp2_with fail
  refine (HT.out _ (HM.out.below HB4.out)).mono ?_
  rintro e w5 ⟨v5, rfl, hown5, hb5⟩
  obtain ⟨T, d5, ev, _, _, _⟩ := hown5.sl
  rw [HE1.out] at ev
  subst ev
  have HB5 := Lib.hid (Below_then HB4.out hb5 (Nat.le_refl _))
  clear hown5 hb5
  go_wp2_with fail
  refine (HD.out _ (HM.out.below HB5.out)).mono ?_
  rintro e w6 ⟨v6, rfl, hown6, hb6⟩
  obtain ⟨D, d6, rfl, _, hsd6, _⟩ := hown6.sl
  have HD6 := Lib.hid hsd6
  have HB6 := Lib.hid (Below_then HB5.out hb6 (Nat.le_refl _))
  clear hown6 hb6 hsd6
  go_wp2_with fail
  refine (HW.out _ (HM.out.below HB6.out)).mono ?_
  rintro e w7 ⟨v7, rfl, hown7, hb7⟩
  obtain ⟨W7, d7, rfl, _, hsw7, _⟩ := hown7.sl
  have HW7 := Lib.hid hsw7
  have HD7 := Lib.hid (HD6.out.below hb7)
  have HB7 := Lib.hid (Below_then HB6.out hb7 (Nat.le_refl _))
  clear hown7 hb7 hsw7
  go_wp2_with fail
  refine (l_sameTexts_same D W7 d6 d7 wb _ HD7.out HW7.out (by omega)).mono ?_
  rintro e w8 ⟨rfl, hd8⟩
  have HB8 := Lib.hid (Below_then HB7.out hd8.below (Nat.le_refl _))
  clear hd8
  go_wp2_with fail
  refine (HW.out _ (HM.out.below HB8.out)).mono ?_
  rintro e w9 ⟨v9, rfl, hown9, hb9⟩
  obtain ⟨W9, d9, rfl, _, _, _⟩ := hown9.sl
  have HB9 := Lib.hid (Below_then HB8.out hb9 (Nat.le_refl _))
  clear hown9 hb9
  go_wp2_with (go_at_call 22; refine (alive_any _).mono ?_; rintro e w' ⟨rfl, rfl⟩)
  go_ret
  exact ⟨rfl, HB9.out⟩
end Go.Proofs.YthbdcmaloojngaaDoor
