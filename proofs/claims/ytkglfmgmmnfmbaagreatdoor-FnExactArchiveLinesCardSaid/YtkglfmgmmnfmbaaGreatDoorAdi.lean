/- AddVersion of the program, told exactly. Written by gen_ad.py. -/
import Derived.Test.YtkglfmgmmnfmbaaGreatDoorGb4
import Derived.Test.YtkglfmgmmnfmbaaGreatDoorGb1
set_option linter.unusedVariables false
namespace Go.Proofs.YtkglfmgmmnfmbaaGreatDoor
open Go.RowKit
set_option maxHeartbeats 4000000 in
set_option maxRecDepth 100000 in
theorem iAddX_any (A : Option Addr) (c : Nat) (l : List Vr) (y : Vr) (w : World) (hs : Sl w encV 3 A l) (hcz : A = none → c = 0) (hl : l.length ≤ 16777215) (hf : FitV l) (hy : y.2.2.size ≤ 16777216) :
    Calls Tryz.prog 50 #[.slice A l.length c, .agg #[.int .i64 y.1, .int .i64 y.2.1, .string y.2.2]] w (AddX l y w) := by
  have HS := Lib.hid hs
  have HF := Lib.hid hf
  have HC := Lib.hid hcz
  have HL := Lib.hid (show l.length ≤ 16777216 by omega)
  have HLEN := Lib.hid (show (l ++ [y]).length = l.length + 1 by simp)
  clear hs hf hcz
  have hV : ∀ w, Sl w encV 3 A l → Calls Tryz.prog 71 #[.slice A l.length c] w fun e w' => e = .returned (.bool (versV l)) ∧ Below w.heap.size w w' := fun w h => by
    first
      | exact iVersionsValid_any A c l w h (by omega) HF.out
      | exact (iVersionsValid_any A c l w h (by omega) HF.out).mono fun _ _ ⟨h1, h2⟩ => ⟨h1, h2 ▸ Below.refl _ _⟩
  have hf2 : FitV (l ++ [y]) := fun p hp => by
    rw [List.mem_append, List.mem_singleton] at hp
    rcases hp with hp | rfl
    · exact HF.out p hp
    · exact hy
  have hV2 : ∀ A c w, Sl w encV 3 A (l ++ [y]) → Calls Tryz.prog 71 #[.slice A (l ++ [y]).length c] w fun e w' => e = .returned (.bool (versV (l ++ [y]))) ∧ Below w.heap.size w w' := fun A c w h => by
    first
      | exact iVersionsValid_any A c (l ++ [y]) w h (by simp; omega) hf2
      | exact (iVersionsValid_any A c (l ++ [y]) w h (by simp; omega) hf2).mono fun _ _ ⟨h1, h2⟩ => ⟨h1, h2 ▸ Below.refl _ _⟩
  rw [HLEN.out] at hV2
  cases hv : versV l
  · have HE := Lib.hid (addV_none (y := y) hv)
    rw [hv] at hV
    have HV := Lib.hid hV
    clear hV hv hV2 hf2
    go_enter Tryz.func50, Tryz.ntmps50
    go_wp2_with fail
    refine (HV.out _ (HS.out.alloc _)).mono ?_
    rintro e w1 ⟨rfl, hb1⟩
    have HB1 := Lib.hid (Below_of_alloc hb1)
    clear hb1
    go_wp2
    go_ret2
    unfold AddX
    rw [HE.out]
    exact ⟨_, rfl, Own.nil, HB1.out⟩
  · rw [hv] at hV
    have HV := Lib.hid hV
    have HEN := Lib.hid (fun h => addV_same (y := y) hv h)
    have HEY := Lib.hid (fun h => addV_more (y := y) hv h)
    cases hv2 : versV (l ++ [y])
    all_goals
      rw [hv2] at hV2
      have HV2 := Lib.hid hV2
      have HVV := Lib.hid hv2
      clear hV hv hV2 hv2 hf2
      go_enter Tryz.func50, Tryz.ntmps50
      go_wp2_with fail
      refine (HV.out _ (HS.out.alloc _)).mono ?_
      rintro e w1 ⟨rfl, hb1⟩
      have HK := Lib.hid (show w1.cell? ⟨w.heap.size, 0, none⟩ = some (.int .i64 y.1) ∧ w1.cell? ⟨w.heap.size, 1, none⟩ = some (.int .i64 y.2.1) ∧ w1.cell? ⟨w.heap.size, 2, none⟩ = some (.string y.2.2) from ⟨box_cell hb1 0 rfl, box_cell hb1 1 rfl, box_cell hb1 2 rfl⟩)
      have HB1 := Lib.hid (Below_of_alloc hb1)
      have HS1 := Lib.hid (HS.out.below HB1.out)
      have HD := Lib.hid (Below.refl w1.heap.size w1).drew
      clear hb1
      go_wp2_with fail
      go_region_held3 (fun w' => w'.cell? ⟨w.heap.size, 0, none⟩ = some (.int .i64 y.1) ∧ w'.cell? ⟨w.heap.size, 1, none⟩ = some (.int .i64 y.2.1) ∧ w'.cell? ⟨w.heap.size, 2, none⟩ = some (.string y.2.2))
        (first | assumption | exact HK.out | exact keep3 HD.out HK.out | exact keep3 HB3.out HK.out | exact keep3 HB2.out HK.out | exact keep3 (HB2.out.alloc HB2.out.size _) HK.out | exact keep3 ((Below.refl _ _).alloc (Nat.le_refl _) _).drew HK.out)
        ((first
          | (go_at_call 98; refine (clone_a y HS1.out HC.out HL.out).mono ?_; rintro e w2 ⟨v2, rfl, hown2, hb2⟩; have HW2 := Lib.hid (hown2.alloc (rowV y)); have HB2 := Lib.hid hb2; have HBR := Lib.hid (hb2.alloc hb2.size (rowV y)); have HR := Lib.hid (RowAt.new w2 y); clear hown2 hb2)
          | (go_at_call 98; refine (clone_b y HS1.out HC.out HL.out).mono ?_; rintro e w2 ⟨v2, rfl, hown2, hb2, hr2⟩; have HW2 := Lib.hid hown2; have HB2 := Lib.hid hb2; have HBR := HB2; have HR := Lib.hid hr2; clear hown2 hb2 hr2)
          | (refine step_vr_d HW2.out HBR.out HR.out HL.out rfl rfl (by rfl) (by rfl) ?_; intro v3 w3 hown3 hb3; have HW3 := Lib.hid hown3; have HB3 := Lib.hid hb3; clear hown3 hb3)))
      all_goals
        obtain ⟨X, d, ev, _, _, _⟩ := HW3.out.sl
        rw [HLEN.out] at ev
        subst ev
        have HBB := Lib.hid (Below_then HB1.out HB3.out (Nat.le_refl _))
        go_wp2_with fail
        refine (HV2.out _ _ _ HW3.out.sl').mono ?_
        rintro e w4 ⟨rfl, hb4⟩
        have HW4 := Lib.hid (HW3.out.below hb4)
        have HB4 := Lib.hid (Below_then HBB.out hb4 (Nat.le_refl _))
        have HS4 := Lib.hid (HS.out.below HB4.out)
        clear hb4
        go_wp2_with (go_at_call 98; refine (CloneVr_any A c l _ HS4.out HC.out HL.out).mono ?_; rintro e w5 ⟨v5, rfl, hown5, hb5⟩; have HW5 := Lib.hid hown5; have HB5 := Lib.hid hb5; clear hown5 hb5)
        go_ret2
        unfold AddX
        first
          | (rw [HEN.out HVV.out]; exact ⟨_, rfl, HW5.out.mono HB4.out.size, Below_then HB4.out HB5.out (Nat.le_refl _)⟩)
          | (rw [HEY.out HVV.out]; exact ⟨_, rfl, HW4.out.mono HB1.out.size, HB4.out⟩)
end Go.Proofs.YtkglfmgmmnfmbaaGreatDoor
