/- Laws of tags, walked: turned tags are wrong. -/
import Derived.Test.YtbefbenihahdnaaDw
import Derived.Test.YtbefbenihahdnaaFar
import Derived.Test.YtbefbenihahdnaaL1
set_option linter.unusedVariables false
namespace Go.Proofs.Ytbefbenihahdnaa
open Go.RowKit

theorem wrap_succ_ne (s : Int) : wrap64 (s + 1) ≠ s := by unfold wrap64; omega
set_option maxHeartbeats 4000000 in
set_option maxRecDepth 100000 in
theorem wFnTagRight (A : Option Addr) (n c : Nat) (w : World) (hb : BytesIn w A n c) : Calls Try.prog 25 #[.slice A n c] w (LawOk w) := by
  by_cases h : n ≤ 1048576
  case neg =>
    go_enter Try.func25, Try.ntmps25
    go_wp2
    go_ret
    exact ⟨rfl, Below.refl _ _⟩
  have HBI := Lib.hid hb
  clear hb
  go_enter Try.func25, Try.ntmps25
  go_wp2_with fail
  refine (DrawTagRight_any _ _ _ _ HBI.out).mono ?_
  rintro e w1 ⟨v1, l, T, rfl, hown1, hf1, hT, hb1⟩
  obtain ⟨A1, c1, rfl, _, hs1, _⟩ := hown1.sl
  obtain ⟨t0, t1, t2, t3⟩ := T
  have hT' : t0.size ≤ 60 := hT
  have HS1 := Lib.hid hs1
  have HB1 := Lib.hid hb1
  have hl1 := hf1.1
  have HF1 := Lib.hid hf1.fit
  clear hown1 hs1 hb1 hf1 hT
  have hI := fun w h => iTagRight_any A1 c1 l (t0, t1, t2, t3) w h (by omega) HF1.out (by show t0.size ≤ _; omega)
  have hS := fun w h => sTagRight_any A1 c1 l (t0, t1, t2, t3) w h (by omega) HF1.out (by show t0.size ≤ _; omega)
  have hI2 := fun w h => iTagRight_any A1 c1 l (t0, t1, t2, wrap64 (t3 + 1)) w h (by omega) HF1.out (by show t0.size ≤ _; omega)
  have hsl := fun h => tagR_seal (l := l) (a := t0) (n := t1) (r := t2) (s := t3) h (wrap_succ_ne t3)
  have hgd := tg_guard
  generalize tagR l (t0, t1, t2, t3) = R at *
  cases R
  · have HI := Lib.hid hI
    have HS := Lib.hid hS
    clear hI hS hI2 hsl
    go_wp2_with fail
    refine (HI.out _ (HS1.out.alloc _)).mono ?_
    rintro e w2 ⟨rfl, hb2⟩
    have d0 := box_cell hb2 0 rfl
    have d1 := box_cell hb2 1 rfl
    have d2 := box_cell hb2 2 rfl
    have d3 := box_cell hb2 3 rfl
    have HS2 := Lib.hid (HS1.out.below (Below_of_alloc hb2))
    have HB2 := Lib.hid (Below_then HB1.out (Below_of_alloc hb2) (Nat.le_refl _))
    have hz2 : w1.heap.size < w2.heap.size := by have := hb2.size; simp at this; omega
    clear hb2
    go_wp2_with fail
    refine (HS.out _ HS2.out).mono ?_
    rintro e w3 ⟨rfl, hb3⟩
    replace d0 := Below_cells hb3 _ _ _ d0
    replace d1 := Below_cells hb3 _ _ _ d1
    replace d2 := Below_cells hb3 _ _ _ d2
    replace d3 := Below_cells hb3 _ _ _ d3
    have HB3 := Lib.hid (Below_then HB2.out hb3 (Nat.le_refl _))
    have hz3 : w1.heap.size < w3.heap.size := by have := hb3.size; omega
    clear hb3
    have e3 := fun o => cell_alloc (x := o) d3
    go_wp2_with (go_at_call 41; refine (alive_any _).mono ?_; rintro e w' ⟨rfl, rfl⟩)
    go_ret
    exact ⟨rfl, HB3.out.alloc HB3.out.size _⟩
  · have HI := Lib.hid hI
    have HS := Lib.hid hS
    rw [hsl rfl] at hI2
    have HI2 := Lib.hid hI2
    clear hI hS hI2 hsl
    go_wp2_with fail
    refine (HI.out _ (HS1.out.alloc _)).mono ?_
    rintro e w2 ⟨rfl, hb2⟩
    have d0 := box_cell hb2 0 rfl
    have d1 := box_cell hb2 1 rfl
    have d2 := box_cell hb2 2 rfl
    have d3 := box_cell hb2 3 rfl
    have HS2 := Lib.hid (HS1.out.below (Below_of_alloc hb2))
    have HB2 := Lib.hid (Below_then HB1.out (Below_of_alloc hb2) (Nat.le_refl _))
    have hz2 : w1.heap.size < w2.heap.size := by have := hb2.size; simp at this; omega
    clear hb2
    go_wp2_with fail
    refine (HS.out _ HS2.out).mono ?_
    rintro e w3 ⟨rfl, hb3⟩
    replace d0 := Below_cells hb3 _ _ _ d0
    replace d1 := Below_cells hb3 _ _ _ d1
    replace d2 := Below_cells hb3 _ _ _ d2
    replace d3 := Below_cells hb3 _ _ _ d3
    have HS3 := Lib.hid (HS2.out.below hb3)
    have HB3 := Lib.hid (Below_then HB2.out hb3 (Nat.le_refl _))
    have hz3 : w1.heap.size < w3.heap.size := by have := hb3.size; omega
    clear hb3
    have e3 := fun o => cell_alloc (x := o) d3
    go_wp2_with fail
    refine (HI2.out _ (HS3.out.alloc _)).mono ?_
    rintro e w4 ⟨rfl, hb4⟩
    have HB4 := Lib.hid (Below_then HB3.out (Below_of_alloc hb4) (Nat.le_refl _))
    clear hb4 d0 d1 d2 d3 e3
    go_wp2_with (go_at_call 41; refine (alive_any _).mono ?_; rintro e w' ⟨rfl, rfl⟩)
    go_ret
    exact ⟨rfl, HB4.out⟩
end Go.Proofs.Ytbefbenihahdnaa
