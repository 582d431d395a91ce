/- Laws' walks: FnExactClashOf. -/
import Derived.Test.YtbefbenihahdnaaL1
import Derived.Test.YtbefbenihahdnaaEq
import Derived.Test.YtbefbenihahdnaaSl
import Derived.Test.YtbefbenihahdnaaNm2
set_option linter.unusedVariables false
namespace Go.Proofs.Ytbefbenihahdnaa
open Go.RowKit

set_option maxHeartbeats 2000000 in
set_option maxRecDepth 100000 in
theorem wFnExactClashOf (A : Option Addr) (n c : Nat) (w : World) (h : StrsIn w A n c) : Calls Try.prog 11 #[.slice A n c] w (LawOk w) := by
  obtain ⟨ss, rfl, hnc, hcm, hs, hm⟩ := h
  have HS := Lib.hid hs
  have HM := Lib.hid hm
  have hln : ss.length ≤ maxLen := Nat.le_trans hnc hcm
  clear hs hm hcm
  go_enter Try.func11, Try.ntmps11
  go_wp2_with fail
  refine (szStringS_any _ _ _ _ _ HS.out hln HM.out (by omega) (by omega)).mono ?_
  rintro e w' ⟨r, rfl, hr1, hr, rfl⟩
  have HR := Lib.hid hr
  clear hr hln
  by_cases hr0 : r < 0
  · go_wp2
    go_ret
    exact ⟨rfl, Below.refl _ _⟩
  · obtain ⟨hl, hf⟩ := HR.out (by omega)
    have hfit : ∀ s ∈ ss, s.size ≤ 16777216 := fun s hs => Nat.le_trans (hf s hs) (by omega)
    have HF := Lib.hid hfit
    clear hf hfit HR
    go_wp2_with fail
    refine (toStringS_any _ _ _ _ HS.out (by omega)).mono ?_
    rintro e w1 ⟨v1, rfl, hown1, hb1⟩
    obtain ⟨A1, c1, rfl, _, hs1, _⟩ := hown1.sl
    have HB1 := Lib.hid hb1
    have HS1 := Lib.hid (HS.out.below hb1)
    clear hb1 hown1
    go_wp2_with fail
    refine (sClashOf_any _ _ _ _ hs1 (by omega) HF.out).mono ?_
    rintro e w2 ⟨rfl, hb2⟩
    have HB2 := Lib.hid (Below_then HB1.out hb2 (Nat.le_refl _))
    have HS2 := Lib.hid (HS1.out.below hb2)
    clear hb2 hs1
    go_wp2_with fail
    refine (toStringS_any _ _ _ _ HS2.out (by omega)).mono ?_
    rintro e w3 ⟨v3, rfl, hown3, hb3⟩
    obtain ⟨A3, c3, rfl, _, hs3, _⟩ := hown3.sl
    have HB3 := Lib.hid (Below_then HB2.out hb3 (Nat.le_refl _))
    have HS3 := Lib.hid (HS2.out.below hb3)
    have HX3 := Lib.hid hs3
    clear hb3 hown3 hs3
    go_wp2_with fail
    refine (iClashOf_any _ _ _ _ HX3.out (by omega) HF.out).mono ?_
    rintro e w4 ⟨rfl, hb4⟩
    have HB4 := Lib.hid (Below_then HB3.out hb4 (Nat.le_refl _))
    have HS4 := Lib.hid (HS3.out.below hb4)
    have HX4 := Lib.hid (HX3.out.below hb4)
    clear hb4
    go_wp2_with fail
    refine (toStringS_any _ _ _ _ HS4.out (by omega)).mono ?_
    rintro e w5 ⟨v5, rfl, hown5, hb5⟩
    obtain ⟨A5, c5, rfl, _, hs5, _⟩ := hown5.sl
    have HB5 := Lib.hid (Below_then HB4.out hb5 (Nat.le_refl _))
    have HX5 := Lib.hid (HX4.out.below hb5)
    have HY5 := Lib.hid hs5
    clear hb5 hown5 hs5
    go_wp2_with fail
    refine (l_eqStringS_same _ _ _ _ _ _ HX5.out HY5.out (by omega)).mono ?_
    rintro e w6 ⟨rfl, hd6⟩
    have HB6 := Lib.hid (HB5.out.trans (hd6.below.mono HB5.out.size))
    clear hd6
    go_wp2
    go_ret
    exact ⟨rfl, HB6.out⟩
end Go.Proofs.Ytbefbenihahdnaa
