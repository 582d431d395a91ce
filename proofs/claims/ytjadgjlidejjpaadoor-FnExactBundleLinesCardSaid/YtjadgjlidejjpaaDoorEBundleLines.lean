/- FnExactBundleLines, walked. Written by exgen.py. -/
import Derived.Test.YtjadgjlidejjpaaDoorBl
import Derived.Test.YtjadgjlidejjpaaDoorSPiece
import Derived.Test.YtjadgjlidejjpaaDoorKi
import Derived.Test.YtjadgjlidejjpaaDoorL1
set_option linter.unusedVariables false
namespace Go.Proofs.YtjadgjlidejjpaaDoor
open Go.RowKit

set_option maxHeartbeats 2000000 in
set_option maxRecDepth 100000 in
theorem wFnExactBundleLines (A0 : Option Addr) (n0 c0 : Nat) (w : World) (h0 : PiecesIn w A0 n0 c0) (htz : TzL w) : Calls Tryd.prog 3 #[.slice A0 n0 c0] w (LawOk w) := by
  obtain ⟨l0, rfl, hnc0, hcm0, hs0, hm0⟩ := h0
  have HM0 := Lib.hid hm0
  clear hm0
  have HS0 := Lib.hid hs0
  have hln0 : l0.length ≤ maxLen := Nat.le_trans hnc0 hcm0
  have HLN0 := Lib.hid hln0
  clear hs0 hnc0 hcm0 hln0
  go_enter Tryd.func3, Tryd.ntmps3
  have HB0 := Lib.hid (Below.refl w.heap.size w)
  go_wp2_with fail
  refine (szPieceS_any _ _ l0 1048576 _ (HS0.out.below HB0.out) HLN0.out HM0.out (by omega) (by omega)).mono ?_
  rintro e w1 ⟨r0, rfl, hr0, hg0, hb⟩
  have HB1 := Lib.hid (Below_then HB0.out hb (Nat.le_refl _))
  have hz1 := hb.size
  have HG0 := Lib.hid hg0
  clear hb hg0
  by_cases hn0 : r0 < 0
  case pos =>
    go_wp2
    go_ret
    exact ⟨rfl, HB1.out⟩
  case neg =>
    obtain ⟨hl0, hf0⟩ := HG0.out (by omega)
    have HF0 := Lib.hid hf0
    clear hf0 HG0
    have HTZ := Lib.hid htz
    clear htz
    have hf0 : FitP l0 := fun p hp => Nat.le_trans (HF0.out p hp) (by omega)
    have hS := fun A c w h => sBundleLines_any A c l0 w h (by omega) hf0
    have hI := fun A c w h => iBundleLines_any A c l0 w h (by omega) hf0
    unfold OwnRes at hS hI
    have hR0 := bundL_len l0
    have hR0b : (bundL l0).length ≤ 1048576 := by omega
    clear hR0
    generalize bundL l0 = R0 at *
    have HCS := Lib.hid hS
    have HCI := Lib.hid hI
    clear hS hI hf0
    go_wp2_with fail
    refine (toPieceS_any _ _ _ _ (HS0.out.below HB1.out) (by omega)).mono ?_
    rintro e w2 ⟨v, rfl, hown, hb⟩
    obtain ⟨X_s0, d_s0, rfl, _, _, _⟩ := hown.sl
    have HU_s0 := Lib.hid hown.up
    have HO_s0 := Lib.hid hown
    have HB2 := Lib.hid (Below_then HB1.out hb (Nat.le_refl _))
    have hz2 := hb.size
    clear hb hown
    go_wp2_with fail
    refine (HCS.out _ _ _ HO_s0.out.sl').mono ?_
    rintro e w3 ⟨v, rfl, hown0, hb⟩
    obtain ⟨X_w0_, d_w0_, rfl, _, _, _⟩ := hown0.sl
    have HU_w0_ := Lib.hid hown0.up
    have HO_w0_ := Lib.hid hown0
    have HB3 := Lib.hid (Below_then HB2.out hb (Nat.le_refl _))
    have hz3 := hb.size
    clear hb hown0
    go_wp2_with fail
    refine (toPieceS_any _ _ _ _ (HS0.out.below HB3.out) (by omega)).mono ?_
    rintro e w4 ⟨v, rfl, hown, hb⟩
    obtain ⟨X_x0, d_x0, rfl, _, _, _⟩ := hown.sl
    have HU_x0 := Lib.hid hown.up
    have HO_x0 := Lib.hid hown
    have HB4 := Lib.hid (Below_then HB3.out hb (Nat.le_refl _))
    have hz4 := hb.size
    replace HO_w0_ := Lib.hid (HO_w0_.out.below hb)
    clear hb hown
    go_wp2_with fail
    refine (HCI.out _ _ _ HO_x0.out.sl' (HTZ.out.below HB4.out)).mono ?_
    rintro e w5 ⟨v, rfl, hown0, hb⟩
    obtain ⟨X_g0_, d_g0_, rfl, _, _, _⟩ := hown0.sl
    have HU_g0_ := Lib.hid hown0.up
    have HO_g0_ := Lib.hid hown0
    have HB5 := Lib.hid (Below_then HB4.out hb (Nat.le_refl _))
    have hz5 := hb.size
    replace HO_w0_ := Lib.hid (HO_w0_.out.below hb)
    replace HO_x0 := Lib.hid (HO_x0.out.below hb)
    clear hb hown0
    go_wp2_with fail
    refine (str_eq2 _ _ _ _ R0 _ HO_g0_.out.sl' HO_w0_.out.sl' (by omega)).mono ?_
    rintro e w6 ⟨rfl, hb⟩
    have HB6 := Lib.hid (Below_then HB5.out hb (Nat.le_refl _))
    have hz6 := hb.size
    replace HO_w0_ := Lib.hid (HO_w0_.out.below hb)
    replace HO_x0 := Lib.hid (HO_x0.out.below hb)
    replace HO_g0_ := Lib.hid (HO_g0_.out.below hb)
    clear hb
    go_wp2_with fail
    refine (toPieceS_any _ _ _ _ (HS0.out.below HB6.out) (by omega)).mono ?_
    rintro e w7 ⟨v, rfl, hown, hb⟩
    obtain ⟨X_y0, d_y0, rfl, _, _, _⟩ := hown.sl
    have HU_y0 := Lib.hid hown.up
    have HO_y0 := Lib.hid hown
    have HB7 := Lib.hid (Below_then HB6.out hb (Nat.le_refl _))
    have hz7 := hb.size
    replace HO_w0_ := Lib.hid (HO_w0_.out.below hb)
    replace HO_x0 := Lib.hid (HO_x0.out.below hb)
    replace HO_g0_ := Lib.hid (HO_g0_.out.below hb)
    clear hb hown
    go_wp2_with fail
    refine (eqPieceS_same _ _ _ _ l0 _ HO_x0.out.sl' HO_y0.out.sl' (by omega)).mono ?_
    rintro e w8 ⟨rfl, hb⟩
    have HB8 := Lib.hid (Below_then HB7.out hb (Nat.le_refl _))
    have hz8 := hb.size
    replace HO_w0_ := Lib.hid (HO_w0_.out.below hb)
    replace HO_x0 := Lib.hid (HO_x0.out.below hb)
    replace HO_g0_ := Lib.hid (HO_g0_.out.below hb)
    replace HO_y0 := Lib.hid (HO_y0.out.below hb)
    clear hb
    clear HO_y0 HU_y0
    go_wp2_with fail
    refine (markPieceS_any _ _ l0 1 _ HO_x0.out (by omega) (by omega)).mono ?_
    rintro e w9 ⟨rfl, hown, hgr⟩
    have HB9 := Lib.hid (hgr.under HB8.out (fun g hg => Nat.le_trans HB3.out.size (HO_x0.out.lo g hg)))
    have hz9 := hgr.size
    replace HO_w0_ := Lib.hid (HO_w0_.out.grew hgr (apart_of HU_w0_.out HO_x0.out.lo (by omega)))
    replace HO_g0_ := Lib.hid (HO_g0_.out.grew hgr (apart_of' HO_g0_.out.lo HU_x0.out (by omega)))
    clear HO_x0 HU_x0
    clear hgr hown
    generalize hK0 : 1 + 2 * l0.length = K0 at *
    have hKb0 : K0 ≤ 10000000 := by omega
    have hKz0 : (0 : Int) ≤ (K0 : Int) := by omega
    have HK0 := Lib.hid hK0
    clear hK0
    go_wp2_with fail
    refine (str_eq2 _ _ _ _ R0 _ HO_g0_.out.sl' HO_w0_.out.sl' (by omega)).mono ?_
    rintro e w10 ⟨rfl, hb⟩
    have HB10 := Lib.hid (Below_then HB9.out hb (Nat.le_refl _))
    have hz10 := hb.size
    replace HO_w0_ := Lib.hid (HO_w0_.out.below hb)
    replace HO_g0_ := Lib.hid (HO_g0_.out.below hb)
    clear hb
    go_wp2_with fail
    refine (markStringS_any _ _ R0 1 _ HO_g0_.out (by omega) (by omega)).mono ?_
    rintro e w11 ⟨rfl, hown, hgr⟩
    have HB11 := Lib.hid (hgr.under HB10.out (fun g hg => Nat.le_trans HB4.out.size (HO_g0_.out.lo g hg)))
    have hz11 := hgr.size
    replace HO_w0_ := Lib.hid (HO_w0_.out.grew hgr (apart_of HU_w0_.out HO_g0_.out.lo (by omega)))
    replace HO_g0_ := Lib.hid hown
    clear hgr hown
    generalize hM0 : 1 + R0.length = M0 at *
    have hMb0 : M0 ≤ 10000000 := by omega
    have hMz0 : (0 : Int) ≤ (M0 : Int) := by omega
    have HMM0 := Lib.hid hM0
    clear hM0
    go_wp2_with fail
    refine (heldStringS_any _ _ 1 _ _ HO_g0_.out.sl' (by omega) (by omega)).mono ?_
    rintro e w12 ⟨rfl, hb⟩
    have HB12 := Lib.hid (Below_then HB11.out hb (Nat.le_refl _))
    have hz12 := hb.size
    replace HO_w0_ := Lib.hid (HO_w0_.out.below hb)
    replace HO_g0_ := Lib.hid (HO_g0_.out.below hb)
    clear hb
    rw [HMM0.out]
    go_wp2_with fail
    refine (toPieceS_any _ _ _ _ (HS0.out.below HB12.out) (by omega)).mono ?_
    rintro e w13 ⟨v, rfl, hown, hb⟩
    obtain ⟨X_z0, d_z0, rfl, _, _, _⟩ := hown.sl
    have HU_z0 := Lib.hid hown.up
    have HO_z0 := Lib.hid hown
    have HB13 := Lib.hid (Below_then HB12.out hb (Nat.le_refl _))
    have hz13 := hb.size
    replace HO_w0_ := Lib.hid (HO_w0_.out.below hb)
    replace HO_g0_ := Lib.hid (HO_g0_.out.below hb)
    clear hb hown
    go_wp2_with fail
    refine (HCI.out _ _ _ HO_z0.out.sl' (HTZ.out.below HB13.out)).mono ?_
    rintro e w14 ⟨v, rfl, hown0, hb⟩
    obtain ⟨X_h0_, d_h0_, rfl, _, _, _⟩ := hown0.sl
    have HU_h0_ := Lib.hid hown0.up
    have HO_h0_ := Lib.hid hown0
    have HB14 := Lib.hid (Below_then HB13.out hb (Nat.le_refl _))
    have hz14 := hb.size
    replace HO_w0_ := Lib.hid (HO_w0_.out.below hb)
    replace HO_g0_ := Lib.hid (HO_g0_.out.below hb)
    clear hb hown0
    go_wp2_with fail
    refine (str_eq2 _ _ _ _ R0 _ HO_h0_.out.sl' HO_w0_.out.sl' (by omega)).mono ?_
    rintro e w15 ⟨rfl, hb⟩
    have HB15 := Lib.hid (Below_then HB14.out hb (Nat.le_refl _))
    have hz15 := hb.size
    replace HO_w0_ := Lib.hid (HO_w0_.out.below hb)
    replace HO_g0_ := Lib.hid (HO_g0_.out.below hb)
    replace HO_h0_ := Lib.hid (HO_h0_.out.below hb)
    clear hb
    go_wp2_with fail
    refine (heldStringS_any _ _ 1 _ _ HO_g0_.out.sl' (by omega) (by omega)).mono ?_
    rintro e w16 ⟨rfl, hb⟩
    have HB16 := Lib.hid (Below_then HB15.out hb (Nat.le_refl _))
    have hz16 := hb.size
    replace HO_g0_ := Lib.hid (HO_g0_.out.below hb)
    clear hb
    rw [HMM0.out]
    go_wp2
    go_ret
    exact ⟨rfl, HB16.out⟩
end Go.Proofs.YtjadgjlidejjpaaDoor
