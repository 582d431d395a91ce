/- FnExactBundlePrint, walked. Written by exgen.py. -/
import Derived.Test.YtjadgjlidejjpaaSto
import Derived.Test.YtjadgjlidejjpaaSPiece
import Derived.Test.YtjadgjlidejjpaaKi
import Derived.Test.YtjadgjlidejjpaaL1
set_option linter.unusedVariables false
namespace Go.Proofs.Ytjadgjlidejjpaa
open Go.RowKit

set_option maxHeartbeats 2000000 in
set_option maxRecDepth 100000 in
theorem wFnExactBundlePrint (A0 : Option Addr) (n0 c0 : Nat) (w : World) (h0 : PiecesIn w A0 n0 c0) : Calls Try.prog 3 #[.slice A0 n0 c0] w (LawOk w) := by
  obtain ⟨l0, rfl, hnc0, hcm0, hs0, hm0⟩ := h0
  have HM0 := Lib.hid hm0
  clear hm0
  have HS0 := Lib.hid hs0
  have hln0 : l0.length ≤ maxLen := Nat.le_trans hnc0 hcm0
  have HLN0 := Lib.hid hln0
  clear hs0 hnc0 hcm0 hln0
  go_enter Try.func3, Try.ntmps3
  have HB0 := Lib.hid (Below.refl w.heap.size w)
  go_wp2_with fail
  refine (szPieceS_any _ _ l0 1048576 _ (HS0.out.below HB0.out) HLN0.out HM0.out (by omega) (by omega)).mono ?_
  rintro e w1 ⟨r0, rfl, hr0, hg0, hb⟩
  have HB1 := Lib.hid (Below_then HB0.out hb (Nat.le_refl _))
  have hz1 := hb.size
  have HG0 := Lib.hid hg0
  clear hb hg0
  by_cases hn0 : r0 < 0
  case pos =>
    go_wp2
    go_ret
    exact ⟨rfl, HB1.out⟩
  case neg =>
    obtain ⟨hl0, hf0⟩ := HG0.out (by omega)
    have HF0 := Lib.hid hf0
    clear hf0 HG0
    have hf0 : FitP l0 := fun p hp => Nat.le_trans (HF0.out p hp) (by omega)
    have hS := fun A c w h => sBundlePrint_any A c l0 w h (by omega) hf0
    have hI := fun A c w h => iBundlePrint_any A c l0 w h (by omega) hf0
    generalize bundP l0 = R at *
    have HCS := Lib.hid hS
    have HCI := Lib.hid hI
    clear hS hI hf0
    go_wp2_with fail
    refine (toPieceS_any _ _ _ _ (HS0.out.below HB1.out) (by omega)).mono ?_
    rintro e w2 ⟨v, rfl, hown, hb⟩
    obtain ⟨X_s0, d_s0, rfl, _, _, _⟩ := hown.sl
    have HU_s0 := Lib.hid hown.up
    have HO_s0 := Lib.hid hown
    have HB2 := Lib.hid (Below_then HB1.out hb (Nat.le_refl _))
    have hz2 := hb.size
    clear hb hown
    go_wp2_with fail
    refine (HCS.out _ _ _ HO_s0.out.sl').mono ?_
    rintro e w3 ⟨rfl, hb⟩
    have HB3 := Lib.hid (Below_then HB2.out hb (Nat.le_refl _))
    have hz3 := hb.size
    clear hb 
    go_wp2_with fail
    refine (toPieceS_any _ _ _ _ (HS0.out.below HB3.out) (by omega)).mono ?_
    rintro e w4 ⟨v, rfl, hown, hb⟩
    obtain ⟨X_x0, d_x0, rfl, _, _, _⟩ := hown.sl
    have HU_x0 := Lib.hid hown.up
    have HO_x0 := Lib.hid hown
    have HB4 := Lib.hid (Below_then HB3.out hb (Nat.le_refl _))
    have hz4 := hb.size
    clear hb hown
    go_wp2_with fail
    refine (HCI.out _ _ _ HO_x0.out.sl').mono ?_
    rintro e w5 ⟨rfl, hb⟩
    have HB5 := Lib.hid (Below_then HB4.out hb (Nat.le_refl _))
    have hz5 := hb.size
    replace HO_x0 := Lib.hid (HO_x0.out.below hb)
    clear hb 
    go_wp2_with fail
    refine (toPieceS_any _ _ _ _ (HS0.out.below HB5.out) (by omega)).mono ?_
    rintro e w6 ⟨v, rfl, hown, hb⟩
    obtain ⟨X_y0, d_y0, rfl, _, _, _⟩ := hown.sl
    have HU_y0 := Lib.hid hown.up
    have HO_y0 := Lib.hid hown
    have HB6 := Lib.hid (Below_then HB5.out hb (Nat.le_refl _))
    have hz6 := hb.size
    replace HO_x0 := Lib.hid (HO_x0.out.below hb)
    clear hb hown
    go_wp2_with fail
    refine (eqPieceS_same _ _ _ _ l0 _ HO_x0.out.sl' HO_y0.out.sl' (by omega)).mono ?_
    rintro e w7 ⟨rfl, hb⟩
    have HB7 := Lib.hid (Below_then HB6.out hb (Nat.le_refl _))
    have hz7 := hb.size
    replace HO_x0 := Lib.hid (HO_x0.out.below hb)
    replace HO_y0 := Lib.hid (HO_y0.out.below hb)
    clear hb
    clear HO_y0 HU_y0
    go_wp2
    go_ret
    exact ⟨rfl, HB7.out⟩
end Go.Proofs.Ytjadgjlidejjpaa
