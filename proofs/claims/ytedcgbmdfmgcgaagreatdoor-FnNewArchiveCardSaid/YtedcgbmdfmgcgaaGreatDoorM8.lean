/- DrawPutText, DrawNewArchive; FnNewArchive, walked: new archives are empty. -/
import Derived.Test.YtedcgbmdfmgcgaaGreatDoorGa4
import Derived.Test.YtedcgbmdfmgcgaaGreatDoorSq
import Derived.Test.YtedcgbmdfmgcgaaGreatDoorNa
import Derived.Test.YtedcgbmdfmgcgaaGreatDoorAw
import Derived.Test.YtedcgbmdfmgcgaaGreatDoorDt
set_option linter.unusedVariables false
namespace Go.Proofs.YtedcgbmdfmgcgaaGreatDoor
open Go.RowKit
theorem fitP_of_valid {l : List Pc} (h : storeV l = true) : FitP l := fun q hq => by
  have := textV_size (pieceOk_iff.1 (storeV_piece h hq)).1
  omega
theorem putT_fit {l : List Pc} {t : ByteArray} : ∀ q ∈ (putT l t).1, q.2.size ≤ 60 := by
  cases hv : storeV l
  · rw [putT_bad hv]; simp
  · cases hok : (putT l t).2.2
    · rw [putT_no hv hok]; exact fun q hq => textV_size (pieceOk_iff.1 (storeV_piece hv hq)).1
    · exact fun q hq => textV_size (pieceOk_iff.1 (storeV_piece (putT_ok hok).2.1.valid hq)).1
theorem hexT_short {k : Nat} (h : k < 200) : (hexT (k : Int)).length ≤ 2 := by
  have : ∀ k : Nat, k < 200 → (hexT (k : Int)).length ≤ 2 := by decide +kernel
  exact this k h
structure FewS (l : List Pc) : Prop where
  len : l.length ≤ 41
  fit : ∀ q ∈ l, q.2.size ≤ 60
def PtRes (w : World) (e : Ending) (w' : World) : Prop :=
  ∃ (v : Value) (l : List Pc) (t : ByteArray), e = .returned (.tuple #[v, .string t]) ∧ Own w' w.heap.size 83 2 encP v l ∧ FewS l ∧ Below w.heap.size w w'
set_option maxHeartbeats 4000000 in
set_option maxRecDepth 100000 in
theorem DrawPutText_any (A : Option Addr) (n c : Nat) (w : World) (hb : BytesIn w A n c) : Calls Tryz.prog 33 #[.slice A n c] w (PtRes w) := by
  go_enter Tryz.func33, Tryz.ntmps33
  go_wp2_with fail
  refine (l20Open_any _ _ _ _ hb).mono ?_
  rintro e w1 ⟨rfl, hb1, hr1, hz1⟩
  have HR1 := Lib.hid hr1
  have HB1 := Lib.hid hb1
  have hg1 : w.heap.size < w1.heap.size := by omega
  have hz0 : w.heap.size ≤ w1.heap.size := by omega
  clear hr1 hb1
  go_wp2_with fail
  refine (l20Store_any _ _ _ _ HR1.out (by omega) (by omega)).mono ?_
  rintro e w2 ⟨v2, l, root, p2, rfl, hown2, hst2, ho2, hr2, hp2⟩
  have HW2 := Lib.hid hown2
  have HO2 := Lib.hid ho2
  have HR2 := Lib.hid hr2
  have HG0 := Lib.hid (show FewS l from ⟨hst2.len, hst2.fit⟩)
  clear hown2 ho2 hr2 hst2
  go_wp2_with fail
  refine (odd_any _ _ _ _ HR2.out (by omega) (by omega)).mono ?_
  rintro e wa ⟨ba, pa, rfl, hoa, hra, hpa⟩
  have HWa := Lib.hid (HW2.out.only hoa hg1)
  have HOa := Lib.hid (HO2.out.trans hoa)
  have HRa := Lib.hid hra
  clear hoa hra
  cases ba
  · go_wp2_with fail
    refine (l20Text_any _ _ _ _ HRa.out (by omega) (by omega)).mono ?_
    rintro e w5 ⟨v5, p5, rfl, ⟨t, rfl, ht⟩, ho5, hr5, hp5⟩
    have HW5 := Lib.hid (HWa.out.only ho5 hg1)
    have HO5 := Lib.hid (HOa.out.trans ho5)
    clear ho5 hr5
    go_wp2
    go_ret2
    exact ⟨_, l, _, rfl, HW5.out.mono hz0, HG0.out, HB1.out.trans (HO5.out.below (by omega) HB1.out.size)⟩
  · have HWx := Lib.hid (Own.made (w := wa) (base := w1.heap.size) (enc := encP) (E := 83) (size := 2) HOa.out.size)
    have HOx := Lib.hid (HOa.out.trans (Only.of_below ((Below.refl wa.heap.size wa).alloc (Nat.le_refl _) (.cells #[] 83))))
    have HRx := Lib.hid (HRa.out.alloc (.cells #[] 83))
    clear HWa
    go_wp2_with fail
    go_loopw [5, 7] (fun vs vk wr => ∃ (k : Nat) (l' : List Pc), k ≤ 200 ∧ vk = .int .i64 k ∧ Hid (FewS l') ∧ Hid (Own wr w1.heap.size 83 2 encP vs l') ∧ Hid (Only w.heap.size w1 wr) ∧ Hid (Rdr wr w.heap.size pa)) (fun _ vk _ => 200 - (intOf vk).toNat)
    case atStart => exact ⟨0, [], by omega, rfl, ⟨by simp, by simp⟩, HWx.out, HOx.out, HRx.out⟩
    case round =>
      obtain ⟨k, l', hk, rfl, HF, HW, HO, HR⟩ := hrel
      obtain ⟨A2, c2, rfl, hle2, hs2, _⟩ := HW.out.sl
      have HS2 := Lib.hid hs2
      have HCZ2 := Lib.hid HW.out.cz
      clear hs2
      have hl' := HF.out.len
      by_cases h40 : (l'.length : Int) < 40
      · by_cases hk2 : k < 200
        · have hk2' : (k : Int) < 200 := by omega
          have hks := hexT_short hk2
          have hq := str_add (x := ⟨#[116]⟩) (y := mk (hexT (k : Int))) (by decide) (by rw [mk_size]; omega)
          have hz : ((⟨#[116]⟩ : ByteArray) ++ mk (hexT (k : Int))).size ≤ 16777216 := by
            rw [ByteArray.size_append, mk_size]
            have : (⟨#[116]⟩ : ByteArray).size = 1 := rfl
            omega
          have hHX := fun w => sHexText_any (k : Int) w
          have hPT := fun w h => sPutText_any A2 c2 l' (⟨#[116]⟩ ++ mk (hexT (k : Int))) w h HCZ2.out hle2 (by omega) (fun q hq => Nat.le_trans (HF.out.fit q hq) (by omega)) hz
          have HF2 := Lib.hid (show FewS (putT l' (⟨#[116]⟩ ++ mk (hexT (k : Int)))).1 from ⟨Nat.le_trans (putT_len _ _) (by omega), putT_fit⟩)
          unfold PutRes at hPT
          generalize mk (hexT (k : Int)) = hx at *
          generalize putT l' (⟨#[116]⟩ ++ hx) = PT at *
          obtain ⟨l3, p3, ok3⟩ := PT
          simp only at *
          have HHX := Lib.hid hHX
          have HPT := Lib.hid hPT
          clear hHX hPT hz hks
          go_wp2_with (go_at_call 71; refine (HHX.out _).mono ?_; rintro e w' ⟨rfl, rfl⟩)
          refine (HPT.out _ HS2.out).mono ?_
          rintro e w5 ⟨v5, rfl, hown5, hb5⟩
          have HW5 := Lib.hid (hown5.mono HO.out.size)
          have HO5 := Lib.hid (HO.out.trans (Only.of_below hb5))
          have HR5 := Lib.hid (HR.out.below hb5)
          clear hown5 hb5
          go_wp2
          go_roundw
          case rel => exact ⟨k + 1, l3, by omega, by go_num, HF2.out, HW5.out, HO5.out, HR5.out⟩
          case measure => first | (simp [intOf]; done) | (simp [intOf]; omega)
        · have hk2' : ¬ (k : Int) < 200 := by omega
          go_wp2_with fail
          refine (l20Text_any _ _ _ _ HR.out (by omega) (by omega)).mono ?_
          rintro e w5 ⟨v5, p5, rfl, ⟨t, rfl, ht⟩, ho5, hr5, hp5⟩
          have HW5 := Lib.hid (HW.out.only ho5 hg1)
          have HO5 := Lib.hid (HO.out.trans ho5)
          clear ho5 hr5
          go_wp2
          go_ret2
          exact ⟨_, l', _, rfl, HW5.out.mono hz0, HF.out, HB1.out.trans (HO5.out.below (by omega) HB1.out.size)⟩
      · go_wp2_with fail
        refine (l20Text_any _ _ _ _ HR.out (by omega) (by omega)).mono ?_
        rintro e w5 ⟨v5, p5, rfl, ⟨t, rfl, ht⟩, ho5, hr5, hp5⟩
        have HW5 := Lib.hid (HW.out.only ho5 hg1)
        have HO5 := Lib.hid (HO.out.trans ho5)
        clear ho5 hr5
        go_wp2
        go_ret2
        exact ⟨_, l', _, rfl, HW5.out.mono hz0, HF.out, HB1.out.trans (HO5.out.below (by omega) HB1.out.size)⟩
def NewRes (w : World) (e : Ending) (w' : World) : Prop :=
  ∃ (v : Value) (l : List Pc), e = .returned v ∧ Own w' w.heap.size 83 2 encP v l ∧ FewS l ∧ Below w.heap.size w w'
set_option maxHeartbeats 2000000 in
set_option maxRecDepth 100000 in
theorem DrawNewArchive_any (A : Option Addr) (n c : Nat) (w : World) (hb : BytesIn w A n c) : Calls Tryz.prog 8 #[.slice A n c] w (NewRes w) := by
  go_enter Tryz.func8, Tryz.ntmps8
  go_wp2_with fail
  refine (DrawPutText_any _ _ _ _ hb).mono ?_
  rintro e w2 ⟨v, l, t, rfl, hown, hg, hb⟩
  have HW := Lib.hid hown
  have HG := Lib.hid hg
  have HB := Lib.hid hb
  clear hown hg hb
  go_wp2
  go_ret
  exact ⟨_, l, rfl, HW.out, HG.out, HB.out⟩
set_option maxHeartbeats 4000000 in
set_option maxRecDepth 100000 in
theorem wFnNewArchive (A : Option Addr) (n c : Nat) (w : World) (hb : BytesIn w A n c) (hm : MaxL w) (ht : TzL w) : Calls Tryz.prog 3 #[.slice A n c] w (LawOk w) := by
  by_cases h : n ≤ 1048576
  case neg =>
    go_enter Tryz.func3, Tryz.ntmps3
    go_wp2
    go_ret
    exact ⟨rfl, Below.refl _ _⟩
  have HBI := Lib.hid hb
  have HM := Lib.hid hm
  have HT := Lib.hid ht
  clear hb hm ht
  go_enter Tryz.func3, Tryz.ntmps3
  go_wp2_with fail
  refine (DrawNewArchive_any _ _ _ _ HBI.out).mono ?_
  rintro e w1 ⟨v1, l, rfl, hown1, hg1, hb1⟩
  obtain ⟨A1, c1, rfl, hle1, hs1, _⟩ := hown1.sl
  have HCZ := Lib.hid hown1.cz
  have HS1 := Lib.hid hs1
  have HB1 := Lib.hid hb1
  have HM1 := Lib.hid (HM.out.below hb1)
  have HT1 := Lib.hid (HT.out.below hb1)
  have HF := Lib.hid (show FitP l from fun q hq => Nat.le_trans (hg1.fit q hq) (by omega))
  have hl1 := hg1.len
  clear hown1 hs1 hb1 hg1
  have hI := fun w h h2 => iNewArchive_any A1 c1 l w h HCZ.out (by omega) HF.out h2
  have hS := fun w h => sNewArchive_any A1 c1 l w h HCZ.out hle1 (by omega) HF.out
  have hnl := newA_len l
  have hok := fun h => newA_ok (s := l) h
  have hbad : (newA l).2 = false → (newA l).1 = ⟨[], 0, []⟩ := by
    unfold newA
    split
    · intro h; cases h
    · intro _; rfl
  unfold NaRes ArV at hI hS
  generalize newA l = NA at *
  obtain ⟨⟨l2, x2, m2⟩, ok⟩ := NA
  simp only at *
  have HI := Lib.hid hI
  have HS := Lib.hid hS
  have HOK := Lib.hid hok
  have HBAD := Lib.hid hbad
  clear hI hS hok hbad
  have hm20 : m2.length = 0 := by omega
  obtain rfl : m2 = [] := List.eq_nil_of_length_eq_zero hm20
  clear hm20
  have hl40 : l2.length ≤ 40 := hnl.1
  clear hnl
  go_wp2_with fail
  refine (HI.out _ HS1.out HT1.out).mono ?_
  rintro e w2 ⟨v2, rfl, ⟨p2, q2, rfl, hp2, hq2, _⟩, hb2⟩
  obtain ⟨A2, c2, rfl, hle2, hs2, _⟩ := hp2.sl
  obtain ⟨B2, d2, e2, _, hs2v, _⟩ := hq2.sl
  have e2 : q2 = .slice B2 0 d2 := e2
  subst e2
  have HP2 := Lib.hid hs2
  have HQ2 := Lib.hid hs2v
  have HB2 := Lib.hid (Below_then HB1.out hb2 (Nat.le_refl _))
  have HS2 := Lib.hid (HS1.out.below hb2)
  have HM2 := Lib.hid (HM1.out.below hb2)
  have HT2 := Lib.hid (HT1.out.below hb2)
  have HSA := Lib.hid (fun A B A' B' c d c' d' w h1 h2 h3 h4 => show Calls Tryz.prog 11 #[.agg #[.slice A l2.length c, .int .i64 x2, .slice B 0 d], .agg #[.slice A' l2.length c', .int .i64 x2, .slice B' 0 d']] w fun e w' => e = .returned (.bool true) ∧ Below w.heap.size w w' from sameArchive_same A B A' B' c d c' d' l2 [] x2 w h1 h2 (by omega) h3 h4 (by simp))
  clear hp2 hq2 hs2 hs2v hb2
  go_wp2_with fail
  refine (HS.out _ (HS2.out.alloc _)).mono ?_
  rintro e w3 ⟨v3, rfl, ⟨p3, q3, rfl, hp3, hq3, _⟩, hb3⟩
  obtain ⟨A3, c3, rfl, hle3, hs3, _⟩ := hp3.sl
  obtain ⟨B3, d3, e3, _, hs3v, _⟩ := hq3.sl
  have e3 : q3 = .slice B3 0 d3 := e3
  subst e3
  obtain ⟨⟨x0, x1, x2'⟩, _, _⟩ := Row3.new.below hb3
  have z0 := fun o => cell_alloc (x := o) x0
  have z1 := fun o => cell_alloc (x := o) x1
  have z2 := fun o => cell_alloc (x := o) x2'
  have HB3 := Lib.hid (Below_then HB2.out (Below_of_alloc hb3) (Nat.le_refl _))
  have HP3 := Lib.hid ((HP2.out.alloc _).below hb3)
  have HQ3 := Lib.hid ((HQ2.out.alloc _).below hb3)
  have HM3 := Lib.hid (HM2.out.below (Below_of_alloc hb3))
  have HT3 := Lib.hid (HT2.out.below (Below_of_alloc hb3))
  have HP3' := Lib.hid hs3
  have HQ3' := Lib.hid hs3v
  clear hp3 hq3 hs3 hs3v hb3
  go_wp2_with fail
  refine (HSA.out A2 B2 A3 B3 c2 d2 c3 d3 _ (HP3.out.alloc _) (HP3'.out.alloc _) (HQ3.out.alloc _) (HQ3'.out.alloc _)).mono ?_
  rintro e w4 ⟨rfl, hb4⟩
  have y0 := Below_cells hb4 _ _ _ (z0 _)
  have y1 := Below_cells hb4 _ _ _ (z1 _)
  have y2 := Below_cells hb4 _ _ _ (z2 _)
  have HB4 := Lib.hid (Below_then HB3.out (Below_of_alloc hb4) (Nat.le_refl _))
  have HP4 := Lib.hid ((HP3.out.alloc _).below hb4)
  have HQ4 := Lib.hid ((HQ3.out.alloc _).below hb4)
  have HM4 := Lib.hid (HM3.out.below (Below_of_alloc hb4))
  have HT4 := Lib.hid (HT3.out.below (Below_of_alloc hb4))
  clear hb4 z0 z1 z2 x0 x1 x2'
  cases ok
  · have hz := HBAD.out rfl
    have hl2 : l2 = [] := congrArg Ar.ps hz
    have hx2 : x2 = 0 := congrArg Ar.op hz
    subst hl2 hx2
    have HSE := Lib.hid (fun w h1 h3 => HSA.out A2 B2 none none c2 d2 0 0 w h1 Sl.none_ h3 Sl.none_)
    have HSE2 := Lib.hid (fun w h1 h3 => show Calls Tryz.prog 11 #[.agg #[.slice A2 0 c2, .int .i64 0, .slice B2 0 d2], .agg #[.slice none 0 0, .int .i64 0, .slice none 0 0]] w fun e w' => e = .returned (.bool true) ∧ Below w.heap.size w w' from HSE.out w h1 h3)
    clear hz HSA HSE
    simp only [List.length_nil] at y0
    go_wp2_with fail
    refine (HSE2.out _ HP4.out HQ4.out).mono ?_
    rintro e w5 ⟨rfl, hb5⟩
    have HB5 := Lib.hid (Below_then HB4.out hb5 (Nat.le_refl _))
    clear hb5
    go_wp2_with (go_at_call 12; refine (alive_any _).mono ?_; rintro e w' ⟨rfl, rfl⟩)
    go_ret
    exact ⟨rfl, HB5.out⟩
  · obtain ⟨hav, _, haf⟩ := HOK.out rfl
    have hAV := fun w h h2 h3 h4 => iArchiveValid_any A2 B2 c2 d2 l2 [] x2 w h (by omega) (fitP_of_valid (archV_iff.1 hav).1) h2 (by simp) (by intro v hv; cases hv) h3 h4
    have hAF := fun w h h2 h3 => iAllFiles_any A2 c2 l2 x2 w h (by omega) (fitP_of_valid (archV_iff.1 hav).1) h2 h3
    unfold OwnRes at hAF
    rw [hav] at hAV
    rw [haf] at hAF
    have HAV := Lib.hid (fun w h h2 h3 h4 => show Calls Tryz.prog 13 #[.agg #[.slice A2 l2.length c2, .int .i64 x2, .slice B2 0 d2]] w fun e w' => e = .returned (.bool true) ∧ Below w.heap.size w w' from hAV w h h2 h3 h4)
    have HAF := Lib.hid hAF
    clear hAV hAF hav haf HSA
    go_wp2_with fail
    refine (HAV.out _ HP4.out HQ4.out HT4.out HM4.out).mono ?_
    rintro e w5 ⟨rfl, hb5⟩
    have HB5 := Lib.hid (Below_then HB4.out hb5 (Nat.le_refl _))
    have HP5 := Lib.hid (HP4.out.below hb5)
    have HM5 := Lib.hid (HM4.out.below hb5)
    have HT5 := Lib.hid (HT4.out.below hb5)
    replace y0 := Below_cells hb5 _ _ _ y0
    replace y1 := Below_cells hb5 _ _ _ y1
    replace y2 := Below_cells hb5 _ _ _ y2
    clear hb5
    go_wp2_with fail
    refine (HAF.out _ HP5.out HT5.out HM5.out).mono ?_
    rintro e w6 ⟨v6, rfl, hown6, hb6⟩
    obtain ⟨A6, c6, e6, _, _, _⟩ := hown6.sl
    have e6 : v6 = .slice A6 0 c6 := e6
    subst e6
    have HB6 := Lib.hid (Below_then HB5.out hb6 (Nat.le_refl _))
    clear hown6 hb6
    go_wp2
    go_ret
    exact ⟨rfl, HB6.out⟩
end Go.Proofs.YtedcgbmdfmgcgaaGreatDoor
