/- Laws of tags, walked: tags stay right. -/
import Derived.Test.YtbefbenihahdnaaDw
import Derived.Test.YtbefbenihahdnaaAi
import Derived.Test.YtbefbenihahdnaaL1
set_option linter.unusedVariables false
namespace Go.Proofs.Ytbefbenihahdnaa
open Go.RowKit

def moreV : Vr := (5, -1, ⟨#[109, 111, 114, 101]⟩)
set_option maxHeartbeats 4000000 in
set_option maxRecDepth 100000 in
theorem wFnTagsStay (A : Option Addr) (n c : Nat) (w : World) (hb : BytesIn w A n c) : Calls Try.prog 26 #[.slice A n c] w (LawOk w) := by
  by_cases h : n ≤ 1048576
  case neg =>
    go_enter Try.func26, Try.ntmps26
    go_wp2
    go_ret
    exact ⟨rfl, Below.refl _ _⟩
  have HBI := Lib.hid hb
  clear hb
  go_enter Try.func26, Try.ntmps26
  go_wp2_with fail
  refine (DrawTagRight_any _ _ _ _ HBI.out).mono ?_
  rintro e w1 ⟨v1, l, T, rfl, hown1, hf1, hT, hb1⟩
  obtain ⟨A1, c1, rfl, _, hs1, _⟩ := hown1.sl
  obtain ⟨t0, t1, t2, t3⟩ := T
  have hT' : t0.size ≤ 60 := hT
  have HC1 := Lib.hid hown1.cz
  have HS1 := Lib.hid hs1
  have HB1 := Lib.hid hb1
  have hl1 := hf1.1
  have HF1 := Lib.hid hf1.fit
  clear hown1 hs1 hb1 hf1 hT
  have hf2 : FitV (l ++ [moreV]) := fun p hp => by
    rw [List.mem_append, List.mem_singleton] at hp
    rcases hp with hp | rfl
    · exact HF1.out p hp
    · show (4 : Nat) ≤ 16777216; omega
  have hI := fun w h => iTagRight_any A1 c1 l (t0, t1, t2, t3) w h (by omega) HF1.out (by show t0.size ≤ _; omega)
  have hI2 := fun X d w h => iTagRight_any X d (l ++ [moreV]) (t0, t1, t2, t3) w h (by simp; omega) hf2 (by show t0.size ≤ _; omega)
  have hlen : (l ++ [moreV]).length = l.length + 1 := by simp
  rw [hlen] at hI2
  have hst := fun h => @tagR_stays l moreV (t0, t1, t2, t3) h
  generalize tagR l (t0, t1, t2, t3) = R at *
  generalize tagR (l ++ [moreV]) (t0, t1, t2, t3) = R2 at *
  have HI := Lib.hid hI
  have HI2 := Lib.hid hI2
  have HST := Lib.hid hst
  have HLEN := Lib.hid hlen
  clear hI hI2 hf2 hst hlen
  go_wp2_with fail
  refine (iAddVersion_any A1 c1 l moreV _ (HS1.out.alloc _) HC1.out (by omega) HF1.out (by show (4 : Nat) ≤ 16777216; omega)).mono ?_
  rintro e w2 ⟨v2, l2, ok, rfl, hown2, hl2, hok, hb2⟩
  have d0 := box_cell hb2 0 rfl
  have d1 := box_cell hb2 1 rfl
  have d2 := box_cell hb2 2 rfl
  have d3 := box_cell hb2 3 rfl
  have HS2 := Lib.hid (HS1.out.below (Below_of_alloc hb2))
  have HB2 := Lib.hid (Below_then HB1.out (Below_of_alloc hb2) (Nat.le_refl _))
  clear hb2 hl2
  cases ok
  · clear hok hown2 d0 d1 d2 d3
    go_wp2_with (go_at_call 41; refine (alive_any _).mono ?_; rintro e w' ⟨rfl, rfl⟩)
    go_ret
    exact ⟨rfl, HB2.out⟩
  · obtain ⟨rfl, hvv⟩ := hok rfl
    obtain ⟨X, d, ev, _, hs2, _⟩ := hown2.sl
    rw [HLEN.out] at ev
    subst ev
    have HX2 := Lib.hid hs2
    have HVV := Lib.hid hvv
    clear hok hown2 hs2 hvv
    cases R
    · go_wp2_with fail
      refine (HI.out _ HS2.out).mono ?_
      rintro e w3 ⟨rfl, hb3⟩
      have HB3 := Lib.hid (Below_then HB2.out hb3 (Nat.le_refl _))
      clear hb3 d0 d1 d2 d3
      go_wp2_with (go_at_call 41; refine (alive_any _).mono ?_; rintro e w' ⟨rfl, rfl⟩)
      go_ret
      exact ⟨rfl, HB3.out⟩
    · obtain rfl := HST.out HVV.out rfl
      go_wp2_with fail
      refine (HI.out _ HS2.out).mono ?_
      rintro e w3 ⟨rfl, hb3⟩
      replace d0 := Below_cells hb3 _ _ _ d0
      replace d1 := Below_cells hb3 _ _ _ d1
      replace d2 := Below_cells hb3 _ _ _ d2
      replace d3 := Below_cells hb3 _ _ _ d3
      have HX3 := Lib.hid (HX2.out.below hb3)
      have HB3 := Lib.hid (Below_then HB2.out hb3 (Nat.le_refl _))
      clear hb3
      go_wp2_with fail
      refine (HI2.out _ _ _ HX3.out).mono ?_
      rintro e w4 ⟨rfl, hb4⟩
      have HB4 := Lib.hid (Below_then HB3.out hb4 (Nat.le_refl _))
      clear hb4 d0 d1 d2 d3
      go_wp2_with (go_at_call 41; refine (alive_any _).mono ?_; rintro e w' ⟨rfl, rfl⟩)
      go_ret
      exact ⟨rfl, HB4.out⟩
end Go.Proofs.Ytbefbenihahdnaa
