/- sameVersions, sameArchive of equal ones, walked. -/
import Derived.Test.YtkglfmgmmnfmbaaGreatDoorSm
import Derived.Test.YtkglfmgmmnfmbaaGreatDoorGa7
set_option linter.unusedVariables false
namespace Go.Proofs.YtkglfmgmmnfmbaaGreatDoor
open Go.RowKit
set_option maxHeartbeats 2000000 in
set_option maxRecDepth 100000 in
theorem sameVersions_same (A B : Option Addr) (c d : Nat) (l : List Vr) (w : World) (ha : Sl w encV 3 A l) (hb : Sl w encV 3 B l) (hl : l.length ≤ 16777216) :
    Calls Tryz.prog 30 #[.slice A l.length c, .slice B l.length d] w fun e w' => e = .returned (.bool true) ∧ Below w.heap.size w w' := by
  have HA := Lib.hid ha
  have HB := Lib.hid hb
  clear ha hb
  have hgd := vr_guard
  go_enter Tryz.func30, Tryz.ntmps30
  go_wp2
  go_loopw [5] (fun i wr => ∃ (k : Nat), k ≤ l.length ∧ i = .int .i64 k ∧ Below w.heap.size w wr) (fun i _ => l.length - (intOf i).toNat)
  case atStart => exact ⟨0, Nat.zero_le _, rfl, Below.refl _ _⟩
  case round =>
    obtain ⟨k, hk, rfl, hbw⟩ := hrel
    have HW := Lib.hid hbw
    clear hbw
    by_cases hlt : k < l.length
    · obtain ⟨b1, o1, rfl, hc0, hc1, hc2⟩ := (HA.out.below HW.out).getV hlt
      obtain ⟨b2, o2, rfl, hd0, hd1, hd2⟩ := (HB.out.below HW.out).getV hlt
      generalize l[k] = p at *
      have heq := fun W => eq_vr W p.1 p.1 p.2.1 p.2.1 p.2.2 p.2.2
      simp only [beq_self_eq_true, Bool.and_self] at heq
      replace hc0 := far_cell hc0
      replace hc1 := far_cell hc1
      replace hd0 := far_cell hd0
      replace hd1 := far_cell hd1
      replace hc2 := far_cell hc2
      replace hd2 := far_cell hd2
      go_wp2
      refine wp_region_far (by kernel_rfl) (by kernel_rfl) ?_
      repeat (go_big_quiet_step (fail))
      refine wpQuiet_nil ?_
      intro _ hwF
      obtain ⟨pF, hwF⟩ := hwF
      subst hwF
      go_wp2
      go_roundw
      case rel => exact ⟨k + 1, by omega, by go_num, Below_then HW.out (far_below _ _) (Nat.le_refl _)⟩
      case measure => simp [intOf]; omega
    · go_wp2
      go_ret
      exact ⟨rfl, HW.out⟩
set_option maxHeartbeats 2000000 in
set_option maxRecDepth 100000 in
theorem sameArchive_same (A B A' B' : Option Addr) (c d c' d' : Nat) (l : List Pc) (m : List Vr) (x : Int) (w : World) (h1 : Sl w encP 2 A l) (h2 : Sl w encP 2 A' l) (hl : l.length ≤ 16777216) (h3 : Sl w encV 3 B m) (h4 : Sl w encV 3 B' m) (hl2 : m.length ≤ 16777216) :
    Calls Tryz.prog 28 #[.agg #[.slice A l.length c, .int .i64 x, .slice B m.length d], .agg #[.slice A' l.length c', .int .i64 x, .slice B' m.length d']] w fun e w' => e = .returned (.bool true) ∧ Below w.heap.size w w' := by
  have H1 := Lib.hid h1
  have H2 := Lib.hid h2
  have H3 := Lib.hid h3
  have H4 := Lib.hid h4
  clear h1 h2 h3 h4
  go_enter Tryz.func28, Tryz.ntmps28
  go_wp2_with fail
  refine (samePieces_same _ _ _ _ l _ ((H1.out.alloc _).alloc _) ((H2.out.alloc _).alloc _) hl).mono ?_
  rintro e w1 ⟨rfl, hb⟩
  have HB1 := Lib.hid (Below_of_alloc (Below_of_alloc hb))
  have hx := Row3.new.below (w' := w1) (Below_of_alloc hb)
  have hy := Row3.new.below hb
  obtain ⟨⟨x0, x1, x2⟩, _, _⟩ := hx
  obtain ⟨⟨y0, y1, y2⟩, _, _⟩ := hy
  rw [World.alloc_size_] at y0 y1 y2
  clear hb
  go_wp2_with fail
  refine (sameVersions_same _ _ _ _ m _ (H3.out.below HB1.out) (H4.out.below HB1.out) hl2).mono ?_
  rintro e w2 ⟨rfl, hb⟩
  have HB2 := Lib.hid (Below_then HB1.out hb (Nat.le_refl _))
  clear hb
  go_wp2
  go_ret
  exact ⟨rfl, HB2.out⟩
end Go.Proofs.YtkglfmgmmnfmbaaGreatDoor
