/- FnExactRightTags, walked. Written by exgen.py. -/
import Derived.Test.YtbefbenihahdnaaVt
import Derived.Test.YtbefbenihahdnaaSVersion
import Derived.Test.YtbefbenihahdnaaSTag
import Derived.Test.YtbefbenihahdnaaKi
import Derived.Test.YtbefbenihahdnaaL1
set_option linter.unusedVariables false
namespace Go.Proofs.Ytbefbenihahdnaa
open Go.RowKit

set_option maxHeartbeats 2000000 in
set_option maxRecDepth 100000 in
theorem wFnExactRightTags (A0 : Option Addr) (n0 c0 : Nat) (A1 : Option Addr) (n1 c1 : Nat) (w : World) (h0 : VersionsIn w A0 n0 c0) (h1 : TagsIn w A1 n1 c1) : Calls Try.prog 31 #[.slice A0 n0 c0, .slice A1 n1 c1] w (LawOk w) := by
  obtain ⟨l0, rfl, hnc0, hcm0, hs0, hm0⟩ := h0
  have HM0 := Lib.hid hm0
  clear hm0
  have HS0 := Lib.hid hs0
  have hln0 : l0.length ≤ maxLen := Nat.le_trans hnc0 hcm0
  have HLN0 := Lib.hid hln0
  clear hs0 hnc0 hcm0 hln0
  obtain ⟨l1, rfl, hnc1, hcm1, hs1, hm1⟩ := h1
  have HM1 := Lib.hid hm1
  clear hm1
  have HS1 := Lib.hid hs1
  have hln1 : l1.length ≤ maxLen := Nat.le_trans hnc1 hcm1
  have HLN1 := Lib.hid hln1
  clear hs1 hnc1 hcm1 hln1
  go_enter Try.func31, Try.ntmps31
  have HB0 := Lib.hid (Below.refl w.heap.size w)
  go_wp2_with fail
  refine (szVersionS_any _ _ l0 1048576 _ (HS0.out.below HB0.out) HLN0.out HM0.out (by omega) (by omega)).mono ?_
  rintro e w1 ⟨r0, rfl, hr0, hg0, hb⟩
  have HB1 := Lib.hid (Below_then HB0.out hb (Nat.le_refl _))
  have hz1 := hb.size
  have HG0 := Lib.hid hg0
  clear hb hg0
  by_cases hn0 : r0 < 0
  case pos =>
    go_wp2
    go_ret
    exact ⟨rfl, HB1.out⟩
  case neg =>
    obtain ⟨hl0, hf0⟩ := HG0.out (by omega)
    have HF0 := Lib.hid hf0
    clear hf0 HG0
    go_wp2_with fail
    refine (szTagS_any _ _ l1 _ _ (HS1.out.below HB1.out) HLN1.out HM1.out (by omega) (by omega)).mono ?_
    rintro e w2 ⟨r1, rfl, hr1, hg1, hb⟩
    have HB2 := Lib.hid (Below_then HB1.out hb (Nat.le_refl _))
    have hz2 := hb.size
    have HG1 := Lib.hid hg1
    clear hb hg1
    by_cases hn1 : r1 < 0
    case pos =>
      go_wp2
      go_ret
      exact ⟨rfl, HB2.out⟩
    case neg =>
      obtain ⟨hl1, hf1⟩ := HG1.out (by omega)
      have HF1 := Lib.hid hf1
      clear hf1 HG1
      have hf0 : FitV l0 := fun p hp => Nat.le_trans (HF0.out p hp) (by omega)
      have hf1 : FitT l1 := fun p hp => Nat.le_trans (HF1.out p hp) (by omega)
      have hS := fun A B c d w h h2 => sRightTags_any A B c d l0 l1 w h (by omega) hf0 h2 (by omega) hf1
      have hI := fun A B c d w h h2 => iRightTags_any A B c d l0 l1 w h (by omega) hf0 h2 (by omega) hf1
      have hR0 := rightTags_len l0 l1
      have hR0b : (rightTags l0 l1).length ≤ 1048576 := by omega
      clear hR0
      generalize rightTags l0 l1 = R0 at *
      have HCS := Lib.hid hS
      have HCI := Lib.hid hI
      clear hS hI hf0 hf1
      go_wp2_with fail
      refine (toVersionS_any _ _ _ _ (HS0.out.below HB2.out) (by omega)).mono ?_
      rintro e w3 ⟨v, rfl, hown, hb⟩
      obtain ⟨X_s0, d_s0, rfl, _, _, _⟩ := hown.sl
      have HU_s0 := Lib.hid hown.up
      have HO_s0 := Lib.hid hown
      have HB3 := Lib.hid (Below_then HB2.out hb (Nat.le_refl _))
      have hz3 := hb.size
      clear hb hown
      go_wp2_with fail
      refine (toTagS_any _ _ _ _ (HS1.out.below HB3.out) (by omega)).mono ?_
      rintro e w4 ⟨v, rfl, hown, hb⟩
      obtain ⟨X_s1, d_s1, rfl, _, _, _⟩ := hown.sl
      have HU_s1 := Lib.hid hown.up
      have HO_s1 := Lib.hid hown
      have HB4 := Lib.hid (Below_then HB3.out hb (Nat.le_refl _))
      have hz4 := hb.size
      replace HO_s0 := Lib.hid (HO_s0.out.below hb)
      clear hb hown
      go_wp2_with fail
      refine (HCS.out _ _ _ _ _ HO_s0.out.sl' HO_s1.out.sl').mono ?_
      rintro e w5 ⟨v, rfl, hown0, hb⟩
      obtain ⟨X_w0_, d_w0_, rfl, _, _, _⟩ := hown0.sl
      have HU_w0_ := Lib.hid hown0.up
      have HO_w0_ := Lib.hid hown0
      have HB5 := Lib.hid (Below_then HB4.out hb (Nat.le_refl _))
      have hz5 := hb.size
      clear hb hown0
      go_wp2_with fail
      refine (toVersionS_any _ _ _ _ (HS0.out.below HB5.out) (by omega)).mono ?_
      rintro e w6 ⟨v, rfl, hown, hb⟩
      obtain ⟨X_x0, d_x0, rfl, _, _, _⟩ := hown.sl
      have HU_x0 := Lib.hid hown.up
      have HO_x0 := Lib.hid hown
      have HB6 := Lib.hid (Below_then HB5.out hb (Nat.le_refl _))
      have hz6 := hb.size
      replace HO_w0_ := Lib.hid (HO_w0_.out.below hb)
      clear hb hown
      go_wp2_with fail
      refine (toTagS_any _ _ _ _ (HS1.out.below HB6.out) (by omega)).mono ?_
      rintro e w7 ⟨v, rfl, hown, hb⟩
      obtain ⟨X_x1, d_x1, rfl, _, _, _⟩ := hown.sl
      have HU_x1 := Lib.hid hown.up
      have HO_x1 := Lib.hid hown
      have HB7 := Lib.hid (Below_then HB6.out hb (Nat.le_refl _))
      have hz7 := hb.size
      replace HO_w0_ := Lib.hid (HO_w0_.out.below hb)
      replace HO_x0 := Lib.hid (HO_x0.out.below hb)
      clear hb hown
      go_wp2_with fail
      refine (HCI.out _ _ _ _ _ HO_x0.out.sl' HO_x1.out.sl').mono ?_
      rintro e w8 ⟨v, rfl, hown0, hb⟩
      obtain ⟨X_g0_, d_g0_, rfl, _, _, _⟩ := hown0.sl
      have HU_g0_ := Lib.hid hown0.up
      have HO_g0_ := Lib.hid hown0
      have HB8 := Lib.hid (Below_then HB7.out hb (Nat.le_refl _))
      have hz8 := hb.size
      replace HO_w0_ := Lib.hid (HO_w0_.out.below hb)
      replace HO_x0 := Lib.hid (HO_x0.out.below hb)
      replace HO_x1 := Lib.hid (HO_x1.out.below hb)
      clear hb hown0
      go_wp2_with fail
      refine (eqTagS_same _ _ _ _ R0 _ HO_g0_.out.sl' HO_w0_.out.sl' (by omega)).mono ?_
      rintro e w9 ⟨rfl, hb⟩
      have HB9 := Lib.hid (Below_then HB8.out hb (Nat.le_refl _))
      have hz9 := hb.size
      replace HO_w0_ := Lib.hid (HO_w0_.out.below hb)
      replace HO_x0 := Lib.hid (HO_x0.out.below hb)
      replace HO_x1 := Lib.hid (HO_x1.out.below hb)
      replace HO_g0_ := Lib.hid (HO_g0_.out.below hb)
      clear hb
      go_wp2_with fail
      refine (toVersionS_any _ _ _ _ (HS0.out.below HB9.out) (by omega)).mono ?_
      rintro e w10 ⟨v, rfl, hown, hb⟩
      obtain ⟨X_y0, d_y0, rfl, _, _, _⟩ := hown.sl
      have HU_y0 := Lib.hid hown.up
      have HO_y0 := Lib.hid hown
      have HB10 := Lib.hid (Below_then HB9.out hb (Nat.le_refl _))
      have hz10 := hb.size
      replace HO_w0_ := Lib.hid (HO_w0_.out.below hb)
      replace HO_x0 := Lib.hid (HO_x0.out.below hb)
      replace HO_x1 := Lib.hid (HO_x1.out.below hb)
      replace HO_g0_ := Lib.hid (HO_g0_.out.below hb)
      clear hb hown
      go_wp2_with fail
      refine (eqVersionS_same _ _ _ _ l0 _ HO_x0.out.sl' HO_y0.out.sl' (by omega)).mono ?_
      rintro e w11 ⟨rfl, hb⟩
      have HB11 := Lib.hid (Below_then HB10.out hb (Nat.le_refl _))
      have hz11 := hb.size
      replace HO_w0_ := Lib.hid (HO_w0_.out.below hb)
      replace HO_x0 := Lib.hid (HO_x0.out.below hb)
      replace HO_x1 := Lib.hid (HO_x1.out.below hb)
      replace HO_g0_ := Lib.hid (HO_g0_.out.below hb)
      replace HO_y0 := Lib.hid (HO_y0.out.below hb)
      clear hb
      clear HO_y0 HU_y0
      go_wp2_with fail
      refine (toTagS_any _ _ _ _ (HS1.out.below HB11.out) (by omega)).mono ?_
      rintro e w12 ⟨v, rfl, hown, hb⟩
      obtain ⟨X_y1, d_y1, rfl, _, _, _⟩ := hown.sl
      have HU_y1 := Lib.hid hown.up
      have HO_y1 := Lib.hid hown
      have HB12 := Lib.hid (Below_then HB11.out hb (Nat.le_refl _))
      have hz12 := hb.size
      replace HO_w0_ := Lib.hid (HO_w0_.out.below hb)
      replace HO_x0 := Lib.hid (HO_x0.out.below hb)
      replace HO_x1 := Lib.hid (HO_x1.out.below hb)
      replace HO_g0_ := Lib.hid (HO_g0_.out.below hb)
      clear hb hown
      go_wp2_with fail
      refine (eqTagS_same _ _ _ _ l1 _ HO_x1.out.sl' HO_y1.out.sl' (by omega)).mono ?_
      rintro e w13 ⟨rfl, hb⟩
      have HB13 := Lib.hid (Below_then HB12.out hb (Nat.le_refl _))
      have hz13 := hb.size
      replace HO_w0_ := Lib.hid (HO_w0_.out.below hb)
      replace HO_x0 := Lib.hid (HO_x0.out.below hb)
      replace HO_x1 := Lib.hid (HO_x1.out.below hb)
      replace HO_g0_ := Lib.hid (HO_g0_.out.below hb)
      replace HO_y1 := Lib.hid (HO_y1.out.below hb)
      clear hb
      clear HO_y1 HU_y1
      go_wp2_with fail
      refine (markVersionS_any _ _ l0 1 _ HO_x0.out (by omega) (by omega)).mono ?_
      rintro e w14 ⟨rfl, hown, hgr⟩
      have HB14 := Lib.hid (hgr.under HB13.out (fun g hg => Nat.le_trans HB5.out.size (HO_x0.out.lo g hg)))
      have hz14 := hgr.size
      replace HO_w0_ := Lib.hid (HO_w0_.out.grew hgr (apart_of HU_w0_.out HO_x0.out.lo (by omega)))
      replace HO_x1 := Lib.hid (HO_x1.out.grew hgr (apart_of' HO_x1.out.lo HU_x0.out (by omega)))
      replace HO_g0_ := Lib.hid (HO_g0_.out.grew hgr (apart_of' HO_g0_.out.lo HU_x0.out (by omega)))
      clear HO_x0 HU_x0
      clear hgr hown
      generalize hK0 : 1 + 3 * l0.length = K0 at *
      have hKb0 : K0 ≤ 10000000 := by omega
      have hKz0 : (0 : Int) ≤ (K0 : Int) := by omega
      have HK0 := Lib.hid hK0
      clear hK0
      go_wp2_with fail
      refine (markTagS_any _ _ l1 K0 _ HO_x1.out (by omega) (by omega)).mono ?_
      rintro e w15 ⟨rfl, hown, hgr⟩
      have HB15 := Lib.hid (hgr.under HB14.out (fun g hg => Nat.le_trans HB6.out.size (HO_x1.out.lo g hg)))
      have hz15 := hgr.size
      replace HO_w0_ := Lib.hid (HO_w0_.out.grew hgr (apart_of HU_w0_.out HO_x1.out.lo (by omega)))
      replace HO_g0_ := Lib.hid (HO_g0_.out.grew hgr (apart_of' HO_g0_.out.lo HU_x1.out (by omega)))
      clear HO_x1 HU_x1
      clear hgr hown
      generalize hK1 : K0 + 4 * l1.length = K1 at *
      have hKb1 : K1 ≤ 20000000 := by omega
      have hKz1 : (0 : Int) ≤ (K1 : Int) := by omega
      have HK1 := Lib.hid hK1
      clear hK1
      go_wp2_with fail
      refine (eqTagS_same _ _ _ _ R0 _ HO_g0_.out.sl' HO_w0_.out.sl' (by omega)).mono ?_
      rintro e w16 ⟨rfl, hb⟩
      have HB16 := Lib.hid (Below_then HB15.out hb (Nat.le_refl _))
      have hz16 := hb.size
      replace HO_w0_ := Lib.hid (HO_w0_.out.below hb)
      replace HO_g0_ := Lib.hid (HO_g0_.out.below hb)
      clear hb
      go_wp2_with fail
      refine (markTagS_any _ _ R0 1 _ HO_g0_.out (by omega) (by omega)).mono ?_
      rintro e w17 ⟨rfl, hown, hgr⟩
      have HB17 := Lib.hid (hgr.under HB16.out (fun g hg => Nat.le_trans HB7.out.size (HO_g0_.out.lo g hg)))
      have hz17 := hgr.size
      replace HO_w0_ := Lib.hid (HO_w0_.out.grew hgr (apart_of HU_w0_.out HO_g0_.out.lo (by omega)))
      replace HO_g0_ := Lib.hid hown
      clear hgr hown
      generalize hM0 : 1 + 4 * R0.length = M0 at *
      have hMb0 : M0 ≤ 10000000 := by omega
      have hMz0 : (0 : Int) ≤ (M0 : Int) := by omega
      have HMM0 := Lib.hid hM0
      clear hM0
      go_wp2_with fail
      refine (heldTagS_any _ _ 1 _ _ HO_g0_.out.sl' (by omega) (by omega)).mono ?_
      rintro e w18 ⟨rfl, hb⟩
      have HB18 := Lib.hid (Below_then HB17.out hb (Nat.le_refl _))
      have hz18 := hb.size
      replace HO_w0_ := Lib.hid (HO_w0_.out.below hb)
      replace HO_g0_ := Lib.hid (HO_g0_.out.below hb)
      clear hb
      rw [HMM0.out]
      go_wp2_with fail
      refine (toVersionS_any _ _ _ _ (HS0.out.below HB18.out) (by omega)).mono ?_
      rintro e w19 ⟨v, rfl, hown, hb⟩
      obtain ⟨X_z0, d_z0, rfl, _, _, _⟩ := hown.sl
      have HU_z0 := Lib.hid hown.up
      have HO_z0 := Lib.hid hown
      have HB19 := Lib.hid (Below_then HB18.out hb (Nat.le_refl _))
      have hz19 := hb.size
      replace HO_w0_ := Lib.hid (HO_w0_.out.below hb)
      replace HO_g0_ := Lib.hid (HO_g0_.out.below hb)
      clear hb hown
      go_wp2_with fail
      refine (toTagS_any _ _ _ _ (HS1.out.below HB19.out) (by omega)).mono ?_
      rintro e w20 ⟨v, rfl, hown, hb⟩
      obtain ⟨X_z1, d_z1, rfl, _, _, _⟩ := hown.sl
      have HU_z1 := Lib.hid hown.up
      have HO_z1 := Lib.hid hown
      have HB20 := Lib.hid (Below_then HB19.out hb (Nat.le_refl _))
      have hz20 := hb.size
      replace HO_w0_ := Lib.hid (HO_w0_.out.below hb)
      replace HO_g0_ := Lib.hid (HO_g0_.out.below hb)
      replace HO_z0 := Lib.hid (HO_z0.out.below hb)
      clear hb hown
      go_wp2_with fail
      refine (HCI.out _ _ _ _ _ HO_z0.out.sl' HO_z1.out.sl').mono ?_
      rintro e w21 ⟨v, rfl, hown0, hb⟩
      obtain ⟨X_h0_, d_h0_, rfl, _, _, _⟩ := hown0.sl
      have HU_h0_ := Lib.hid hown0.up
      have HO_h0_ := Lib.hid hown0
      have HB21 := Lib.hid (Below_then HB20.out hb (Nat.le_refl _))
      have hz21 := hb.size
      replace HO_w0_ := Lib.hid (HO_w0_.out.below hb)
      replace HO_g0_ := Lib.hid (HO_g0_.out.below hb)
      clear hb hown0
      go_wp2_with fail
      refine (eqTagS_same _ _ _ _ R0 _ HO_h0_.out.sl' HO_w0_.out.sl' (by omega)).mono ?_
      rintro e w22 ⟨rfl, hb⟩
      have HB22 := Lib.hid (Below_then HB21.out hb (Nat.le_refl _))
      have hz22 := hb.size
      replace HO_w0_ := Lib.hid (HO_w0_.out.below hb)
      replace HO_g0_ := Lib.hid (HO_g0_.out.below hb)
      replace HO_h0_ := Lib.hid (HO_h0_.out.below hb)
      clear hb
      go_wp2_with fail
      refine (heldTagS_any _ _ 1 _ _ HO_g0_.out.sl' (by omega) (by omega)).mono ?_
      rintro e w23 ⟨rfl, hb⟩
      have HB23 := Lib.hid (Below_then HB22.out hb (Nat.le_refl _))
      have hz23 := hb.size
      replace HO_g0_ := Lib.hid (HO_g0_.out.below hb)
      clear hb
      rw [HMM0.out]
      go_wp2
      go_ret
      exact ⟨rfl, HB23.out⟩
end Go.Proofs.Ytbefbenihahdnaa
