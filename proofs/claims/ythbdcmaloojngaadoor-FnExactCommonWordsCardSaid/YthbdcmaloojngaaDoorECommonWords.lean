/- FnExactCommonWords, walked. Written by exgen.py. -/
import Derived.Test.YthbdcmaloojngaaDoorWr
import Derived.Test.YthbdcmaloojngaaDoorWq
import Derived.Test.YthbdcmaloojngaaDoorKi
import Derived.Test.YthbdcmaloojngaaDoorL1
set_option linter.unusedVariables false
namespace Go.Proofs.YthbdcmaloojngaaDoor
open Go.RowKit

set_option maxHeartbeats 2000000 in
set_option maxRecDepth 100000 in
theorem wFnExactCommonWords (a0 : ByteArray) (a1 : ByteArray) (w : World)  (hmx : MaxL w) : Calls Tryd.prog 6 #[.string a0, .string a1] w (LawOk w) := by
  by_cases ht0 : a0.size ≤ 1048576
  case neg =>
    go_enter Tryd.func6, Tryd.ntmps6
    go_wp2
    go_ret
    exact ⟨rfl, Below.refl _ _⟩
  case pos =>
    by_cases ht1 : a1.size ≤ 1048576
    case neg =>
      go_enter Tryd.func6, Tryd.ntmps6
      go_wp2
      go_ret
      exact ⟨rfl, Below.refl _ _⟩
    case pos =>
      go_enter Tryd.func6, Tryd.ntmps6
      have HB0 := Lib.hid (Below.refl w.heap.size w)
      have HM := Lib.hid hmx
      clear hmx
      have hS := fun w => sCommonWords_any a0 a1 w (by omega) (by omega)
      have hI := fun w h => iCommonWords_any a0 a1 w (by omega) (by omega) h
      unfold OwnRes at hS hI
      have hR0 := commonB_len a0 a1
      generalize commonB a0 a1 = R0 at *
      have HCS := Lib.hid hS
      have HCI := Lib.hid hI
      clear hS hI
      go_wp2_with fail
      refine (HCS.out _).mono ?_
      rintro e w1 ⟨v, rfl, hown0, hb⟩
      obtain ⟨X_w0_, d_w0_, rfl, _, _, _⟩ := hown0.sl
      have HU_w0_ := Lib.hid hown0.up
      have HO_w0_ := Lib.hid hown0
      have HB1 := Lib.hid (Below_then HB0.out hb (Nat.le_refl _))
      have hz1 := hb.size
      clear hb hown0
      go_wp2_with fail
      refine ((HCI.out _ (HM.out.below HB1.out))).mono ?_
      rintro e w2 ⟨v, rfl, hown0, hb⟩
      obtain ⟨X_g0_, d_g0_, rfl, _, _, _⟩ := hown0.sl
      have HU_g0_ := Lib.hid hown0.up
      have HO_g0_ := Lib.hid hown0
      have HB2 := Lib.hid (Below_then HB1.out hb (Nat.le_refl _))
      have hz2 := hb.size
      replace HO_w0_ := Lib.hid (HO_w0_.out.below hb)
      clear hb hown0
      go_wp2_with fail
      refine (str_eq2 _ _ _ _ R0 _ HO_g0_.out.sl' HO_w0_.out.sl' (by omega)).mono ?_
      rintro e w3 ⟨rfl, hb⟩
      have HB3 := Lib.hid (Below_then HB2.out hb (Nat.le_refl _))
      have hz3 := hb.size
      replace HO_w0_ := Lib.hid (HO_w0_.out.below hb)
      replace HO_g0_ := Lib.hid (HO_g0_.out.below hb)
      clear hb
      go_wp2_with fail
      refine (markStringS_any _ _ R0 1 _ HO_g0_.out (by omega) (by omega)).mono ?_
      rintro e w4 ⟨rfl, hown, hgr⟩
      have HB4 := Lib.hid (hgr.under HB3.out (fun g hg => Nat.le_trans HB1.out.size (HO_g0_.out.lo g hg)))
      have hz4 := hgr.size
      replace HO_w0_ := Lib.hid (HO_w0_.out.grew hgr (apart_of HU_w0_.out HO_g0_.out.lo (by omega)))
      replace HO_g0_ := Lib.hid hown
      clear hgr hown
      generalize hM0 : 1 + R0.length = M0 at *
      have hMb0 : M0 ≤ 10000000 := by omega
      have hMz0 : (0 : Int) ≤ (M0 : Int) := by omega
      have HMM0 := Lib.hid hM0
      clear hM0
      go_wp2_with fail
      refine (heldStringS_any _ _ 1 _ _ HO_g0_.out.sl' (by omega) (by omega)).mono ?_
      rintro e w5 ⟨rfl, hb⟩
      have HB5 := Lib.hid (Below_then HB4.out hb (Nat.le_refl _))
      have hz5 := hb.size
      replace HO_w0_ := Lib.hid (HO_w0_.out.below hb)
      replace HO_g0_ := Lib.hid (HO_g0_.out.below hb)
      clear hb
      rw [HMM0.out]
      go_wp2_with fail
      refine ((HCI.out _ (HM.out.below HB5.out))).mono ?_
      rintro e w6 ⟨v, rfl, hown0, hb⟩
      obtain ⟨X_h0_, d_h0_, rfl, _, _, _⟩ := hown0.sl
      have HU_h0_ := Lib.hid hown0.up
      have HO_h0_ := Lib.hid hown0
      have HB6 := Lib.hid (Below_then HB5.out hb (Nat.le_refl _))
      have hz6 := hb.size
      replace HO_w0_ := Lib.hid (HO_w0_.out.below hb)
      replace HO_g0_ := Lib.hid (HO_g0_.out.below hb)
      clear hb hown0
      go_wp2_with fail
      refine (str_eq2 _ _ _ _ R0 _ HO_h0_.out.sl' HO_w0_.out.sl' (by omega)).mono ?_
      rintro e w7 ⟨rfl, hb⟩
      have HB7 := Lib.hid (Below_then HB6.out hb (Nat.le_refl _))
      have hz7 := hb.size
      replace HO_w0_ := Lib.hid (HO_w0_.out.below hb)
      replace HO_g0_ := Lib.hid (HO_g0_.out.below hb)
      replace HO_h0_ := Lib.hid (HO_h0_.out.below hb)
      clear hb
      go_wp2_with fail
      refine (heldStringS_any _ _ 1 _ _ HO_g0_.out.sl' (by omega) (by omega)).mono ?_
      rintro e w8 ⟨rfl, hb⟩
      have HB8 := Lib.hid (Below_then HB7.out hb (Nat.le_refl _))
      have hz8 := hb.size
      replace HO_g0_ := Lib.hid (HO_g0_.out.below hb)
      clear hb
      rw [HMM0.out]
      go_wp2
      go_ret
      exact ⟨rfl, HB8.out⟩
end Go.Proofs.YthbdcmaloojngaaDoor
