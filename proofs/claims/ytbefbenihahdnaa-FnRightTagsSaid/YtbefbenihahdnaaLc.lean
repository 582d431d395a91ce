/- Laws of tags, walked: right tags are right. -/
import Derived.Test.YtbefbenihahdnaaDx
import Derived.Test.YtbefbenihahdnaaFar
import Derived.Test.YtbefbenihahdnaaL1
set_option linter.unusedVariables false
namespace Go.Proofs.Ytbefbenihahdnaa
open Go.RowKit

set_option maxHeartbeats 4000000 in
set_option maxRecDepth 100000 in
theorem wFnRightTags (A : Option Addr) (n c : Nat) (w : World) (hb : BytesIn w A n c) : Calls Try.prog 28 #[.slice A n c] w (LawOk w) := by
  by_cases h : n ≤ 1048576
  case neg =>
    go_enter Try.func28, Try.ntmps28
    go_wp2
    go_ret
    exact ⟨rfl, Below.refl _ _⟩
  have HBI := Lib.hid hb
  clear hb
  go_enter Try.func28, Try.ntmps28
  go_wp2_with fail
  refine (DrawRightTags_any _ _ _ _ HBI.out).mono ?_
  rintro e w1 ⟨v1, v2, l, ts, rfl, hown1, hown2, hf1, hts, hft, hb1⟩
  obtain ⟨A1, c1, rfl, _, hs1, _⟩ := hown1.sl
  obtain ⟨A2, c2, rfl, _, hs2, _⟩ := hown2.sl
  have HS1 := Lib.hid hs1
  have HT1 := Lib.hid hs2
  have HB1 := Lib.hid hb1
  have hl1 := hf1.1
  have HF1 := Lib.hid hf1.fit
  have HFT := Lib.hid (show FitT ts from fun t ht => Nat.le_trans (hft t ht) (by omega))
  clear hown1 hown2 hs1 hs2 hb1 hf1 hft
  have hI := fun w h h2 => iRightTags_any A1 A2 c1 c2 l ts w h (by omega) HF1.out h2 (by omega) HFT.out
  have hS := fun w h h2 => sRightTags_any A1 A2 c1 c2 l ts w h (by omega) HF1.out h2 (by omega) HFT.out
  have hlen := rightTags_len l ts
  have hidem := rightTags_idem l ts
  have hright : ∀ t ∈ rightTags l ts, tagR l t = true ∧ t.1.size ≤ 16777216 := fun t ht => ⟨(List.mem_filter.1 ht).2, HFT.out t (List.mem_filter.1 ht).1⟩
  generalize rightTags l ts = R at *
  have HI := Lib.hid hI
  have HS := Lib.hid hS
  have HID := Lib.hid hidem
  have HRT := Lib.hid hright
  clear hI hS hidem hright
  go_wp2_with fail
  refine (HI.out _ HS1.out HT1.out).mono ?_
  rintro e w2 ⟨v3, rfl, hown3, hb2⟩
  obtain ⟨A3, c3, rfl, _, hs3, _⟩ := hown3.sl
  have HX2 := Lib.hid hs3
  have HS2 := Lib.hid (HS1.out.below hb2)
  have HT2 := Lib.hid (HT1.out.below hb2)
  have HB2 := Lib.hid (Below_then HB1.out hb2 (Nat.le_refl _))
  clear hown3 hs3 hb2
  go_wp2_with fail
  refine (HS.out _ HS2.out HT2.out).mono ?_
  rintro e w3 ⟨v4, rfl, hown4, hb3⟩
  obtain ⟨A4, c4, rfl, _, hs4, _⟩ := hown4.sl
  have HX3 := Lib.hid (HX2.out.below hb3)
  have HY3 := Lib.hid hs4
  have HS3 := Lib.hid (HS2.out.below hb3)
  have HB3 := Lib.hid (Below_then HB2.out hb3 (Nat.le_refl _))
  clear hown4 hs4 hb3
  have hgd := tg_guard
  go_wp2_with fail
  go_loopw [7] (fun i wr => ∃ (k : Nat), k ≤ R.length ∧ i = .int .i64 k ∧ Hid (Below w3.heap.size w3 wr)) (fun i _ => R.length - (intOf i).toNat)
  case atStart => exact ⟨0, Nat.zero_le _, rfl, Below.refl _ _⟩
  case round =>
    obtain ⟨k, hk, rfl, HBW⟩ := hrel
    by_cases hlt : k < R.length
    · obtain ⟨b1, o1, rfl, hc0, hc1, hc2, hc3⟩ := (HX3.out.below HBW.out).getT hlt
      obtain ⟨b2, o2, rfl, hd0, hd1, hd2, hd3⟩ := (HY3.out.below HBW.out).getT hlt
      obtain ⟨hr, hfk⟩ := HRT.out R[k] (by simp)
      have hTR := fun W h => iTagRight_any A1 c1 l R[k] W h (by omega) HF1.out hfk
      rw [hr] at hTR
      clear hr hfk
      generalize R[k] = T at *
      have HTR := Lib.hid hTR
      have heq := fun W => eq_tgs W T T
      rw [show eqT T T = true from eqT_iff.2 rfl] at heq
      have HSW := Lib.hid (HS3.out.below HBW.out)
      clear hTR
      replace hc0 := far_cell hc0
      replace hc1 := far_cell hc1
      replace hc2 := far_cell hc2
      replace hc3 := far_cell hc3
      replace hd0 := far_cell hd0
      replace hd1 := far_cell hd1
      replace hd2 := far_cell hd2
      replace hd3 := far_cell hd3
      go_wp2
      refine wp_region_far (by kernel_rfl) (by kernel_rfl) ?_
      repeat (go_big_quiet_step ((go_at_call 89; exact far_call (HTR.out _ (HSW.out.far _)))))
      refine wpQuiet_nil ?_
      intro _ hwF
      obtain ⟨pF, hwF⟩ := hwF
      subst hwF
      have HB5 := Lib.hid (Below_then HBW.out (far_below _ pF) (Nat.le_refl _))
      generalize far _ pF = wF at *
      clear hc0 hc1 hc2 hc3 hd0 hd1 hd2 hd3
      go_wp2
      go_roundw
      case rel => exact ⟨k + 1, by omega, by go_num, HB5.out⟩
      case measure => simp [intOf]; omega
    · have HX5 := Lib.hid (HX3.out.below HBW.out)
      have HS5 := Lib.hid (HS3.out.below HBW.out)
      have HB5 := Lib.hid (Below_then HB3.out HBW.out (Nat.le_refl _))
      have hI2 := fun w h h2 => iRightTags_any A1 A3 c1 c3 l R w h (by omega) HF1.out h2 (by omega) (fun t ht => (HRT.out t ht).2)
      rw [HID.out] at hI2
      have HI2 := Lib.hid hI2
      clear hI2
      go_wp2_with fail
      refine (HI2.out _ HS5.out HX5.out).mono ?_
      rintro e w6 ⟨v6, rfl, hown6, hb6⟩
      obtain ⟨A6, c6, rfl, _, _, _⟩ := hown6.sl
      have HB6 := Lib.hid (Below_then HB5.out hb6 (Nat.le_refl _))
      clear hown6 hb6
      go_wp2_with (go_at_call 41; refine (alive_any _).mono ?_; rintro e w' ⟨rfl, rfl⟩)
      go_ret
      exact ⟨rfl, HB6.out⟩
end Go.Proofs.Ytbefbenihahdnaa
