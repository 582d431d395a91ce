/- FnExactMakeTag, walked. -/
import Derived.Test.YtbefbenihahdnaaVt
import Derived.Test.YtbefbenihahdnaaSVersion
import Derived.Test.YtbefbenihahdnaaSTag
import Derived.Test.YtbefbenihahdnaaKi
import Derived.Test.YtbefbenihahdnaaL1
set_option linter.unusedVariables false
namespace Go.Proofs.Ytbefbenihahdnaa
open Go.RowKit

set_option maxHeartbeats 2000000 in
set_option maxRecDepth 100000 in
theorem wFnExactMakeTag (A0 : Option Addr) (n0 c0 : Nat) (a1 : ByteArray) (a2 : Int) (w : World) (h0 : VersionsIn w A0 n0 c0) : Calls Try.prog 23 #[.slice A0 n0 c0, .string a1, .int .i64 a2] w (LawOk w) := by
  obtain ⟨l0, rfl, hnc0, hcm0, hs0, hm0⟩ := h0
  have HM0 := Lib.hid hm0
  clear hm0
  have HS0 := Lib.hid hs0
  have hln0 : l0.length ≤ maxLen := Nat.le_trans hnc0 hcm0
  have HLN0 := Lib.hid hln0
  clear hs0 hnc0 hcm0 hln0
  by_cases ht1 : a1.size ≤ 1048576
  case neg =>
    go_enter Try.func23, Try.ntmps23
    go_wp2
    go_ret
    exact ⟨rfl, Below.refl _ _⟩
  case pos =>
  go_enter Try.func23, Try.ntmps23
  have HB0 := Lib.hid (Below.refl w.heap.size w)
  go_wp2_with fail
  refine (szVersionS_any _ _ l0 1048576 _ (HS0.out.below HB0.out) HLN0.out HM0.out (by omega) (by omega)).mono ?_
  rintro e w1 ⟨r0, rfl, hr0, hg0, hb⟩
  have HB1 := Lib.hid (Below_then HB0.out hb (Nat.le_refl _))
  have hz1 := hb.size
  have HG0 := Lib.hid hg0
  clear hb hg0
  by_cases hn0 : r0 < 0
  case pos =>
    go_wp2
    go_ret
    exact ⟨rfl, HB1.out⟩
  case neg =>
    obtain ⟨hl0, hf0⟩ := HG0.out (by omega)
    have hf : FitV l0 := fun p hp => Nat.le_trans (hf0 p hp) (by omega)
    have hS := fun A c w h => sMakeTag_any A c l0 a1 a2 w h (by omega) hf (by omega)
    have hI := fun A c w h => iMakeTag_any A c l0 a1 a2 w h (by omega) hf (by omega)
    unfold MkR at hS hI
    generalize mkT l0 a1 a2 = T at *
    generalize mkOk l0 a1 a2 = B at *
    obtain ⟨t0, t1, t2, t3⟩ := T
    have HCS := Lib.hid hS
    have HCI := Lib.hid hI
    clear hS hI hf hf0
    go_wp2_with fail
    refine (toVersionS_any _ _ _ _ (HS0.out.below HB1.out) (by omega)).mono ?_
    rintro e w2 ⟨v, rfl, hown, hb⟩
    obtain ⟨X0, d0, rfl, _, _, _⟩ := hown.sl
    have HO0 := Lib.hid hown
    have HB2 := Lib.hid (Below_then HB1.out hb (Nat.le_refl _))
    have hz2 := hb.size
    clear hb hown
    go_wp2_with fail
    refine (HCS.out _ _ _ HO0.out.sl').mono ?_
    rintro e w3 ⟨rfl, hb⟩
    have HB3 := Lib.hid (Below_then HB2.out hb (Nat.le_refl _))
    have hz3 := hb.size
    clear hb HO0
    go_wp2_with fail
    refine (toVersionS_any _ _ _ _ ((HS0.out.below HB3.out).alloc _) (by omega)).mono ?_
    rintro e w4 ⟨v, rfl, hown, hb⟩
    obtain ⟨X1, d1, rfl, _, _, _⟩ := hown.sl
    have HO1 := Lib.hid hown
    have HB4 := Lib.hid (Below_then HB3.out (Below_of_alloc hb) (Nat.le_refl _))
    have hz4 : w3.heap.size < w4.heap.size := by have := hb.size; simp at this; omega
    have e0 : w4.cell? ⟨w3.heap.size, 0, none⟩ = some (.string t0) := box_cell hb 0 rfl
    have e1 : w4.cell? ⟨w3.heap.size, 1, none⟩ = some (.int .i64 t1) := box_cell hb 1 rfl
    have e2 : w4.cell? ⟨w3.heap.size, 2, none⟩ = some (.int .i64 t2) := box_cell hb 2 rfl
    have e3 : w4.cell? ⟨w3.heap.size, 3, none⟩ = some (.int .i64 t3) := box_cell hb 3 rfl
    clear hb hown
    go_wp2_with fail
    refine (HCI.out _ _ _ HO1.out.sl').mono ?_
    rintro e w5 ⟨rfl, hb⟩
    have HB5 := Lib.hid (Below_then HB4.out hb (Nat.le_refl _))
    have hz5 := hb.size
    replace HO1 := Lib.hid (HO1.out.below hb)
    replace e0 := fun o => (World.cell?_alloc_lt w5 o ⟨w3.heap.size, 0, none⟩ (by show w3.heap.size < _; omega)).trans (Below_cells hb _ _ _ e0)
    replace e1 := fun o => (World.cell?_alloc_lt w5 o ⟨w3.heap.size, 1, none⟩ (by show w3.heap.size < _; omega)).trans (Below_cells hb _ _ _ e1)
    replace e2 := fun o => (World.cell?_alloc_lt w5 o ⟨w3.heap.size, 2, none⟩ (by show w3.heap.size < _; omega)).trans (Below_cells hb _ _ _ e2)
    replace e3 := fun o => (World.cell?_alloc_lt w5 o ⟨w3.heap.size, 3, none⟩ (by show w3.heap.size < _; omega)).trans (Below_cells hb _ _ _ e3)
    clear hb
    go_wp2_with fail
    refine (eqTag1 t0 t1 t2 t3 _).mono ?_
    rintro e w6 ⟨rfl, hb⟩
    replace HO1 := Lib.hid (HO1.out.below (Below_of_alloc hb))
    have HB6 := Lib.hid (Below_then HB5.out (Below_of_alloc hb) (Nat.le_refl _))
    clear hb e0 e1 e2 e3
    go_wp2_with fail
    refine (toVersionS_any _ _ _ _ (HS0.out.below HB6.out) (by omega)).mono ?_
    rintro e w7 ⟨v, rfl, hown, hb⟩
    obtain ⟨X2, d2, rfl, _, _, _⟩ := hown.sl
    have HO2 := Lib.hid hown
    replace HO1 := Lib.hid (HO1.out.below hb)
    have HB7 := Lib.hid (Below_then HB6.out hb (Nat.le_refl _))
    clear hb hown
    go_wp2_with fail
    refine (eqVersionS_same _ _ _ _ l0 _ HO1.out.sl' HO2.out.sl' (by omega)).mono ?_
    rintro e w8 ⟨rfl, hb⟩
    have HB8 := Lib.hid (Below_then HB7.out hb (Nat.le_refl _))
    clear hb
    go_wp2
    go_ret
    exact ⟨rfl, HB8.out⟩
end Go.Proofs.Ytbefbenihahdnaa
