/- FnPieceRight, walked. -/
import Derived.Test.YtbefbenihahdnaaL1
import Derived.Test.YtbefbenihahdnaaDr3
import Derived.Test.YtbefbenihahdnaaFar
set_option linter.unusedVariables false
namespace Go.Proofs.Ytbefbenihahdnaa
open Go.RowKit

theorem pieceR_next {a : Int} {t : ByteArray} (h : pieceR (a, t) = true) : pieceR (a + 1, t) = false := by
  unfold pieceR at *
  simp only [Bool.and_eq_true, beq_iff_eq] at h
  rw [h.1, h.2]; simp; omega
set_option maxHeartbeats 4000000 in
set_option maxRecDepth 100000 in
theorem wFnPieceRight (A : Option Addr) (n c : Nat) (w : World) (hb : BytesIn w A n c) : Calls Try.prog 9 #[.slice A n c] w (LawOk w) := by
  by_cases h : n ≤ 1048576
  · have HBI := Lib.hid hb
    clear hb
    go_enter Try.func9, Try.ntmps9
    go_wp2_with fail
    refine (DrawPieceRight_any _ _ _ _ HBI.out).mono ?_
    rintro e w1 ⟨a, t, rfl, ha0, ha1, ht, hb1⟩
    have HB1 := Lib.hid hb1
    clear hb1
    have hs16 : t.size ≤ 16777216 := by omega
    have hI := iPieceRight_any a t
    have hS := sPieceRight_any a t
    have hI1 := iPieceRight_any (a + 1) t
    have hP := iPrintOf_any t
    have hT := iTextValid_any t
    have hw1 : IntKind.i64.wrap (a + 1) = a + 1 := IntWalk.i64_in _ (by omega)
    cases hp : pieceR (a, t)
    · rw [hp] at hI hS
      have HI := Lib.hid hI
      have HS := Lib.hid hS
      clear hI hS hI1 hw1
      have hbb : (textV (bs t) && (prOf (bs t) == a)) = false := hp
      generalize hq : prOf (bs t) = q at *
      have HP := Lib.hid (fun w => hP w hs16)
      clear hq hP hp
      go_wp2_with fail
      refine (HI.out _ (by omega)).mono ?_
      rintro e w2 ⟨rfl, hb2⟩
      have hc0 : w2.cell? ⟨w1.heap.size, 0, none⟩ = some (.int .i64 a) := box_cell hb2 0 rfl
      have hc1 : w2.cell? ⟨w1.heap.size, 1, none⟩ = some (.string t) := box_cell hb2 1 rfl
      have HB2 := Lib.hid (Below_then HB1.out (Below_of_alloc hb2) (Nat.le_refl _))
      clear hb2
      go_wp2_with fail
      refine (HS.out _ (by omega)).mono ?_
      rintro e w3 ⟨rfl, hb3⟩
      have hd0 := far_cell (Below_cells hb3 _ _ _ hc0)
      have hd1 := far_cell (Below_cells hb3 _ _ _ hc1)
      have HB3 := Lib.hid (Below_then HB2.out hb3 (Nat.le_refl _))
      clear hb3 hc0 hc1
      cases htv : textV (bs t)
      · rw [htv] at hT
        have HT := Lib.hid (fun w => hT w hs16)
        clear hbb hT htv
        go_wp2
        refine wp_region_far (by kernel_rfl) (by kernel_rfl) ?_
        repeat (go_big_quiet_step ((first | (go_at_call 47; exact far_same (HT.out _)) | (go_at_call 41; exact far_same (alive_any _)))))
        refine wpQuiet_nil ?_
        intro _ hwF
        obtain ⟨pF, hwF⟩ := hwF
        subst hwF
        go_wp2
        go_ret
        exact ⟨rfl, Below_then HB3.out (far_below _ _) (Nat.le_refl _)⟩
      · rw [htv] at hT hbb
        have HT := Lib.hid (fun w => hT w hs16)
        have hqa : (q == a) = false := by simpa using hbb
        clear hbb hT htv
        go_wp2
        refine wp_region_far (by kernel_rfl) (by kernel_rfl) ?_
        repeat (go_big_quiet_step ((first | (go_at_call 47; exact far_same (HT.out _)) | (go_at_call 48; exact far_same (HP.out _)) | (go_at_call 41; exact far_same (alive_any _)))))
        refine wpQuiet_nil ?_
        intro _ hwF
        obtain ⟨pF, hwF⟩ := hwF
        subst hwF
        go_wp2
        go_ret
        exact ⟨rfl, Below_then HB3.out (far_below _ _) (Nat.le_refl _)⟩
    · rw [hp] at hI hS
      rw [pieceR_next hp] at hI1
      have HI := Lib.hid hI
      have HS := Lib.hid hS
      have HI1 := Lib.hid (fun w => hI1 w hs16)
      clear hI hS hI1
      have hbb : (textV (bs t) && (prOf (bs t) == a)) = true := hp
      rw [Bool.and_eq_true] at hbb
      rw [hbb.1] at hT
      have HT := Lib.hid (fun w => hT w hs16)
      have hqa := hbb.2
      generalize hq : prOf (bs t) = q at *
      have HP := Lib.hid (fun w => hP w hs16)
      clear hq hP hp hbb hT
      go_wp2_with fail
      refine (HI.out _ (by omega)).mono ?_
      rintro e w2 ⟨rfl, hb2⟩
      have hc0 : w2.cell? ⟨w1.heap.size, 0, none⟩ = some (.int .i64 a) := box_cell hb2 0 rfl
      have hc1 : w2.cell? ⟨w1.heap.size, 1, none⟩ = some (.string t) := box_cell hb2 1 rfl
      have HB2 := Lib.hid (Below_then HB1.out (Below_of_alloc hb2) (Nat.le_refl _))
      clear hb2
      go_wp2_with fail
      refine (HS.out _ (by omega)).mono ?_
      rintro e w3 ⟨rfl, hb3⟩
      have hd0 := far_cell (Below_cells hb3 _ _ _ hc0)
      have hd1 := far_cell (Below_cells hb3 _ _ _ hc1)
      have HB3 := Lib.hid (Below_then HB2.out hb3 (Nat.le_refl _))
      clear hb3 hc0 hc1
      go_wp2
      refine wp_region_far (by kernel_rfl) (by kernel_rfl) ?_
      repeat (go_big_quiet_step ((first | (go_at_call 47; exact far_same (HT.out _)) | (go_at_call 48; exact far_same (HP.out _)) | (go_at_call 41; exact far_same (alive_any _)) | (go_at_call 39; exact far_call (HI1.out _)))))
      refine wpQuiet_nil ?_
      intro _ hwF
      obtain ⟨pF, hwF⟩ := hwF
      subst hwF
      go_wp2
      go_ret
      exact ⟨rfl, Below_then HB3.out (far_below _ _) (Nat.le_refl _)⟩
  · go_enter Try.func9, Try.ntmps9
    go_wp2
    go_ret
    exact ⟨rfl, Below.refl _ _⟩
end Go.Proofs.Ytbefbenihahdnaa
