/- FnTotalSize, walked: sizes add up. -/
import Derived.Test.YtokelopllbaikaaGreatDoorMr
import Derived.Test.YtokelopllbaikaaGreatDoorWl
set_option linter.unusedVariables false
namespace Go.Proofs.YtokelopllbaikaaGreatDoor
open Go.RowKit
set_option maxHeartbeats 2000000 in
set_option maxRecDepth 100000 in
theorem DrawTotalSize_any (A : Option Addr) (n c : Nat) (w : World) (hb : BytesIn w A n c) : Calls Tryz.prog 4 #[.slice A n c] w (RootedRes w) := by
  go_enter Tryz.func4, Tryz.ntmps4
  go_wp2_with fail
  refine (l20Rooted_any _ _ _ _ hb).mono ?_
  rintro e w2 ⟨v, l, root, rfl, hown, hg, hb⟩
  have HW := Lib.hid hown
  have HG := Lib.hid hg
  have HB := Lib.hid hb
  clear hown hg hb
  go_wp2
  go_ret2
  exact ⟨_, l, root, rfl, HW.out, HG.out, HB.out⟩
theorem total_zz {l l2 : List Pc} {root r2 : Int} (hg : StG l) (h : writeA l root [47, 122, 122] [97, 98, 99] = (l2, r2, true)) : totalP l2 r2 = totalP l root + 3 ∧ storeV l2 = true := by
  refine ⟨?_, (write_chg h).valid⟩
  have := total_write (hg.good (writeA_ok h).1) (fun h => h rfl) h
  simpa using this
set_option maxHeartbeats 4000000 in
set_option maxRecDepth 100000 in
theorem wFnTotalSize (A : Option Addr) (n c : Nat) (w : World) (hb : BytesIn w A n c) (hm : MaxL w) (ht : TzL w) : Calls Tryz.prog 3 #[.slice A n c] w (LawOk w) := by
  by_cases h : n ≤ 1048576
  case neg =>
    go_enter Tryz.func3, Tryz.ntmps3
    go_wp2
    go_ret
    exact ⟨rfl, Below.refl _ _⟩
  have HBI := Lib.hid hb
  have HM := Lib.hid hm
  have HT := Lib.hid ht
  clear hb hm ht
  go_enter Tryz.func3, Tryz.ntmps3
  go_wp2_with fail
  refine (DrawTotalSize_any _ _ _ _ HBI.out).mono ?_
  rintro e w1 ⟨v1, l, root, rfl, hown1, hg1, hb1⟩
  obtain ⟨A1, c1, rfl, hle1, hs1, _⟩ := hown1.sl
  have HCZ := Lib.hid hown1.cz
  have HS1 := Lib.hid hs1
  have HB1 := Lib.hid hb1
  have HM1 := Lib.hid (HM.out.below hb1)
  have HT1 := Lib.hid (HT.out.below hb1)
  have HF := Lib.hid hg1.fitP
  have HG := Lib.hid hg1
  have hl1 := hg1.len
  clear hown1 hs1 hb1 hg1
  have HI := Lib.hid (fun w h h2 h3 => iTotalSize_any A1 c1 l root w h (by omega) HF.out h2 h3)
  have HS := Lib.hid (fun w h => sTotalSize_any A1 c1 l root w h (by omega) HF.out)
  have hR := fun w h h2 h3 => iUsedBelow_any A1 c1 l root ⟨#[47]⟩ w h (by omega) HF.out (by decide) h2 h3
  have hSV := fun w h => iStoreValid_any A1 c1 l w h (by omega) HF.out
  have hWR := fun w h h2 h3 => iWriteAt_any A1 c1 l root ⟨#[47, 122, 122]⟩ ⟨#[97, 98, 99]⟩ w h HCZ.out (by omega) HF.out (by decide) (by decide) h2 h3
  rw [slash_bs] at hR
  rw [show bs (⟨#[47, 122, 122]⟩ : ByteArray) = [47, 122, 122] from rfl, show bs (⟨#[97, 98, 99]⟩ : ByteArray) = [97, 98, 99] from rfl] at hWR
  have hbd := totalP_bd l root
  have HUR := Lib.hid (fun h => usedP_root (s := l) h root)
  unfold PutRes at hWR
  generalize hwa : writeA l root [47, 122, 122] [97, 98, 99] = WA at *
  obtain ⟨l2, r2, okw⟩ := WA
  simp only at *
  have HWR := Lib.hid hWR
  have HWA := Lib.hid hwa
  have HTZ := Lib.hid (fun h => total_zz (l := l) (l2 := l2) (r2 := r2) (root := root) HG.out h)
  generalize hU0 : usedP l root [47] = U0 at *
  generalize hTT : totalP l root = T at *
  have h1 : IntKind.i64.wrap (T + 3) = T + 3 := IntWalk.i64_in _ (by omega)
  clear hWR hwa hU0 hTT
  go_wp2_with fail
  refine (HI.out _ HS1.out HT1.out HM1.out).mono ?_
  rintro e w2 ⟨rfl, hb2⟩
  have HB2 := Lib.hid (Below_then HB1.out hb2 (Nat.le_refl _))
  have HS2 := Lib.hid (HS1.out.below hb2)
  have HM2 := Lib.hid (HM1.out.below hb2)
  have HT2 := Lib.hid (HT1.out.below hb2)
  clear hb2
  go_wp2_with fail
  refine (HS.out _ HS2.out).mono ?_
  rintro e w3 ⟨rfl, hb3⟩
  have HB3 := Lib.hid (Below_then HB2.out hb3 (Nat.le_refl _))
  have HS3 := Lib.hid (HS2.out.below hb3)
  have HM3 := Lib.hid (HM2.out.below hb3)
  have HT3 := Lib.hid (HT2.out.below hb3)
  clear hb3
  cases hv : storeV l
  · rw [hv] at hSV
    have HSV := Lib.hid hSV
    clear hSV hv hR
    go_wp2_with fail
    refine (HSV.out _ HS3.out).mono ?_
    rintro e w5 ⟨rfl, hb5⟩
    have HB5 := Lib.hid (Below_then HB3.out hb5 (Nat.le_refl _))
    have HS5 := Lib.hid (HS3.out.below hb5)
    have HM5 := Lib.hid (HM3.out.below hb5)
    have HT5 := Lib.hid (HT3.out.below hb5)
    clear hb5
    go_wp2_with fail
    refine (HWR.out _ HS5.out HT5.out HM5.out).mono ?_
    rintro e w6 ⟨v6, rfl, hown6, hb6⟩
    have HB6 := Lib.hid (Below_then HB5.out hb6 (Nat.le_refl _))
    have HM6 := Lib.hid (HM5.out.below hb6)
    have HT6 := Lib.hid (HT5.out.below hb6)
    obtain ⟨A6, c6, rfl, hle6, hs6, _⟩ := hown6.sl
    have HS6 := Lib.hid hs6
    clear hown6 hb6 hs6
    cases okw
    · go_wp2_with (go_at_call 10; refine (alive_any _).mono ?_; rintro e w' ⟨rfl, rfl⟩)
      go_ret
      exact ⟨rfl, HB6.out⟩
    · obtain ⟨htt, hv2⟩ := HTZ.out HWA.out
      have hl40 := storeV_len hv2
      have hI2 := fun w h h2 h3 => iTotalSize_any A6 c6 l2 r2 w h (by omega) (fitP_valid hv2) h2 h3
      rw [htt] at hI2
      have HI2 := Lib.hid hI2
      clear hI2 htt hv2
      go_wp2_with fail
      refine (HI2.out _ HS6.out HT6.out HM6.out).mono ?_
      rintro e w7 ⟨rfl, hb7⟩
      have HB7 := Lib.hid (Below_then HB6.out hb7 (Nat.le_refl _))
      clear hb7
      go_wp2_with (go_at_call 10; refine (alive_any _).mono ?_; rintro e w' ⟨rfl, rfl⟩)
      go_ret
      exact ⟨rfl, HB7.out⟩
  · rw [hv] at hSV
    obtain rfl : U0 = T := HUR.out hv
    have HSV := Lib.hid hSV
    have HR := Lib.hid hR
    clear hSV hv hR
    go_wp2_with fail
    refine (HSV.out _ HS3.out).mono ?_
    rintro e w4 ⟨rfl, hb4⟩
    have HB4 := Lib.hid (Below_then HB3.out hb4 (Nat.le_refl _))
    have HS4 := Lib.hid (HS3.out.below hb4)
    have HM4 := Lib.hid (HM3.out.below hb4)
    have HT4 := Lib.hid (HT3.out.below hb4)
    clear hb4
    go_wp2_with fail
    refine (HR.out _ HS4.out HT4.out HM4.out).mono ?_
    rintro e w5 ⟨rfl, hb5⟩
    have HB5 := Lib.hid (Below_then HB4.out hb5 (Nat.le_refl _))
    have HS5 := Lib.hid (HS4.out.below hb5)
    have HM5 := Lib.hid (HM4.out.below hb5)
    have HT5 := Lib.hid (HT4.out.below hb5)
    clear hb5
    go_wp2_with fail
    refine (HWR.out _ HS5.out HT5.out HM5.out).mono ?_
    rintro e w6 ⟨v6, rfl, hown6, hb6⟩
    have HB6 := Lib.hid (Below_then HB5.out hb6 (Nat.le_refl _))
    have HM6 := Lib.hid (HM5.out.below hb6)
    have HT6 := Lib.hid (HT5.out.below hb6)
    obtain ⟨A6, c6, rfl, hle6, hs6, _⟩ := hown6.sl
    have HS6 := Lib.hid hs6
    clear hown6 hb6 hs6
    cases okw
    · go_wp2_with (go_at_call 10; refine (alive_any _).mono ?_; rintro e w' ⟨rfl, rfl⟩)
      go_ret
      exact ⟨rfl, HB6.out⟩
    · obtain ⟨htt, hv2⟩ := HTZ.out HWA.out
      have hl40 := storeV_len hv2
      have hI2 := fun w h h2 h3 => iTotalSize_any A6 c6 l2 r2 w h (by omega) (fitP_valid hv2) h2 h3
      rw [htt] at hI2
      have HI2 := Lib.hid hI2
      clear hI2 htt hv2
      go_wp2_with fail
      refine (HI2.out _ HS6.out HT6.out HM6.out).mono ?_
      rintro e w7 ⟨rfl, hb7⟩
      have HB7 := Lib.hid (Below_then HB6.out hb7 (Nat.le_refl _))
      clear hb7
      go_wp2_with (go_at_call 10; refine (alive_any _).mono ?_; rintro e w' ⟨rfl, rfl⟩)
      go_ret
      exact ⟨rfl, HB7.out⟩
end Go.Proofs.YtokelopllbaikaaGreatDoor
