/- FnExactTagRight, walked. -/
import Derived.Test.YtbefbenihahdnaaVt
import Derived.Test.YtbefbenihahdnaaSVersion
import Derived.Test.YtbefbenihahdnaaSTag
import Derived.Test.YtbefbenihahdnaaKi
import Derived.Test.YtbefbenihahdnaaL1
import Derived.Test.YtbefbenihahdnaaOpen4
import Derived.Deep.RegionHeld3
set_option linter.unusedVariables false
namespace Go.Proofs.Ytbefbenihahdnaa
open Go.RowKit

/-- A row of four cells stays. -/
theorem keep4 {w w' : World} {x : Nat} {v0 v1 v2 v3 : Value} (hb : Below w.heap.size w w') (h : w.cell? ⟨x, 0, none⟩ = some v0 ∧ w.cell? ⟨x, 1, none⟩ = some v1 ∧ w.cell? ⟨x, 2, none⟩ = some v2 ∧ w.cell? ⟨x, 3, none⟩ = some v3) :
    w'.cell? ⟨x, 0, none⟩ = some v0 ∧ w'.cell? ⟨x, 1, none⟩ = some v1 ∧ w'.cell? ⟨x, 2, none⟩ = some v2 ∧ w'.cell? ⟨x, 3, none⟩ = some v3 :=
  ⟨Below_cells hb _ _ _ h.1, Below_cells hb _ _ _ h.2.1, Below_cells hb _ _ _ h.2.2.1, Below_cells hb _ _ _ h.2.2.2⟩
set_option maxHeartbeats 2000000 in
set_option maxRecDepth 100000 in
theorem wFnExactTagRight (A0 : Option Addr) (n0 c0 : Nat) (v1 : Value) (w : World) (h0 : VersionsIn w A0 n0 c0) (h1 : TagIn v1) : Calls Try.prog 24 #[.slice A0 n0 c0, v1] w (LawOk w) := by
  obtain ⟨l0, rfl, hnc0, hcm0, hs0, hm0⟩ := h0
  obtain ⟨t0, t1, t2, t3, rfl, ht0⟩ := h1
  have HM0 := Lib.hid hm0
  clear hm0
  have HS0 := Lib.hid hs0
  have hln0 : l0.length ≤ maxLen := Nat.le_trans hnc0 hcm0
  have HLN0 := Lib.hid hln0
  clear hs0 hnc0 hcm0 hln0
  go_enter Try.func24, Try.ntmps24
  have HB0 := Lib.hid (Below.refl w.heap.size w)
  go_wp2_with fail
  refine (szVersionS_any _ _ l0 1048576 _ ((HS0.out.below HB0.out).alloc _) HLN0.out HM0.out (by omega) (by omega)).mono ?_
  rintro e w1 ⟨r0, rfl, hr0, hg0, hb⟩
  have HB1 := Lib.hid (Below_of_alloc hb)
  have hS : w1.cell? ⟨w.heap.size, 0, none⟩ = some (.string t0) ∧ w1.cell? ⟨w.heap.size, 1, none⟩ = some (.int .i64 t1) ∧ w1.cell? ⟨w.heap.size, 2, none⟩ = some (.int .i64 t2) ∧ w1.cell? ⟨w.heap.size, 3, none⟩ = some (.int .i64 t3) := ⟨box_cell hb 0 rfl, box_cell hb 1 rfl, box_cell hb 2 rfl, box_cell hb 3 rfl⟩
  have HG0 := Lib.hid hg0
  clear hb hg0
  by_cases hn0 : r0 < 0
  case pos =>
    clear hS
    go_wp2
    go_ret
    exact ⟨rfl, HB1.out⟩
  case neg =>
    obtain ⟨hl0, hf0⟩ := HG0.out (by omega)
    have HF0 := Lib.hid hf0
    clear hf0 HG0
    have HS1 := Lib.hid hS
    obtain ⟨e0, e1, e2, e3⟩ := hS
    go_wp2_with fail
    refine (szTag1 t0 t1 t2 t3 _ _ ht0 (by omega) (by omega)).mono ?_
    rintro e w2 ⟨rfl, hb⟩
    have HS2 := Lib.hid (keep4 hb HS1.out)
    have HB2 := Lib.hid (Below_then HB1.out hb (Nat.le_refl _))
    clear hb e0 e1 e2 e3
    by_cases hn1 : szT r0 t0.size < 0
    case pos =>
      go_wp2
      go_ret
      exact ⟨rfl, HB2.out⟩
    case neg =>
      have htz : t0.size ≤ 1048576 := by unfold szT at hn1; split at hn1 <;> omega
      have hf : FitV l0 := fun p hp => Nat.le_trans (HF0.out p hp) (by omega)
      have hS := fun A c w h => sTagRight_any A c l0 (t0, t1, t2, t3) w h (by omega) hf (by show t0.size ≤ _; omega)
      have hI := fun A c w h => iTagRight_any A c l0 (t0, t1, t2, t3) w h (by omega) hf (by show t0.size ≤ _; omega)
      generalize szT r0 t0.size = r1 at *
      generalize tagR l0 (t0, t1, t2, t3) = R at *
      have HCS := Lib.hid hS
      have HCI := Lib.hid hI
      clear hS hI hf
      have hz : w.heap.size ≤ w2.heap.size := HB2.out.size
      have HR := Lib.hid (Below.refl w2.heap.size w2)
      have HK := HS2
      go_wp2_with fail
      go_region_held3 (fun w' => w'.cell? ⟨w.heap.size, 0, none⟩ = some (.string t0) ∧ w'.cell? ⟨w.heap.size, 1, none⟩ = some (.int .i64 t1) ∧ w'.cell? ⟨w.heap.size, 2, none⟩ = some (.int .i64 t2) ∧ w'.cell? ⟨w.heap.size, 3, none⟩ = some (.int .i64 t3))
        (first | assumption | exact HK.out)
        ((first
          | (go_at_call 91; refine (toVersionS_any _ _ _ _ (by exact HS0.out.below HB2.out.drew) (by omega)).mono ?_; rintro e w3 ⟨v, rfl, hown, hb⟩; obtain ⟨X0, d0, rfl, _, _, _⟩ := hown.sl; have HO0 := Lib.hid hown; have HK := Lib.hid (keep4 (Below_drew hb) HK.out); have HB2 := Lib.hid (Below_then HB2.out (Below_drew hb) (Nat.le_refl _)); clear hb hown)
          | (go_at_call 96; refine (toTag1 t0 t1 t2 t3 _).mono ?_; rintro e w4 ⟨rfl, hb⟩; have HK := Lib.hid (keep4 hb HK.out); have HB2 := Lib.hid (Below_then HB2.out hb (Nat.le_refl _)); have HO0 := Lib.hid (HO0.out.below hb); clear hb)
          | (go_at_call 95; refine (HCS.out _ _ _ (by exact HO0.out.sl')).mono ?_; rintro e w5 ⟨rfl, hb⟩; have HK := Lib.hid (keep4 hb HK.out); have HB2 := Lib.hid (Below_then HB2.out hb (Nat.le_refl _)); clear hb)))
      go_wp2_with fail
      refine (toVersionS_any _ _ _ _ (HS0.out.below HB2.out) (by omega)).mono ?_
      rintro e w6 ⟨v, rfl, hown, hb⟩
      obtain ⟨X1, d1, rfl, _, _, _⟩ := hown.sl
      have HO1 := Lib.hid hown
      have HK := Lib.hid (keep4 hb HK.out)
      have HB3 := Lib.hid (Below_then HB2.out hb (Nat.le_refl _))
      clear hb hown
      obtain ⟨e0, e1, e2, e3⟩ := HK.out
      go_wp2_with fail
      refine (toTag1 t0 t1 t2 t3 _).mono ?_
      rintro e w7 ⟨rfl, hb⟩
      replace HO1 := Lib.hid (HO1.out.below hb)
      have HB4 := Lib.hid (Below_then HB3.out hb (Nat.le_refl _))
      clear hb e0 e1 e2 e3
      go_wp2_with fail
      refine (HCI.out _ _ _ HO1.out.sl').mono ?_
      rintro e w8 ⟨rfl, hb⟩
      replace HO1 := Lib.hid (HO1.out.below hb)
      have HB5 := Lib.hid (Below_then HB4.out hb (Nat.le_refl _))
      clear hb
      go_wp2_with fail
      refine (toVersionS_any _ _ _ _ (HS0.out.below HB5.out) (by omega)).mono ?_
      rintro e w9 ⟨v, rfl, hown, hb⟩
      obtain ⟨X2, d2, rfl, _, _, _⟩ := hown.sl
      have HO2 := Lib.hid hown
      replace HO1 := Lib.hid (HO1.out.below hb)
      have HB6 := Lib.hid (Below_then HB5.out hb (Nat.le_refl _))
      clear hb hown
      go_wp2_with fail
      refine (eqVersionS_same _ _ _ _ l0 _ HO1.out.sl' HO2.out.sl' (by omega)).mono ?_
      rintro e w10 ⟨rfl, hb⟩
      have HB7 := Lib.hid (Below_then HB6.out hb (Nat.le_refl _))
      clear hb
      go_wp2
      go_ret
      exact ⟨rfl, HB7.out⟩
end Go.Proofs.Ytbefbenihahdnaa
