/- Laws of tags, walked: made tags are right. -/
import Derived.Test.YtbefbenihahdnaaDv
import Derived.Test.YtbefbenihahdnaaFar
import Derived.Test.YtbefbenihahdnaaL1
set_option linter.unusedVariables false
namespace Go.Proofs.Ytbefbenihahdnaa
open Go.RowKit

theorem mk_yes {l : List Vr} {name : ByteArray} {n : Int} (h : mkOk l name n = true) : ∃ (k : Nat) (r s : Int), n = k ∧ k < l.length ∧ (l[k]?).map (·.1) = some r ∧ mkT l name n = (name, (k : Int), r, s) ∧ tagR l (name, (k : Int), r, s) = true := by
  unfold mkOk at h
  cases hm : makeTag l name n with
  | none => rw [hm] at h; cases h
  | some m =>
    obtain ⟨k, hk, rfl, h1, h2, rfl⟩ := makeTag_some hm
    refine ⟨k, _, _, rfl, hk, ?_, ?_, (tagR_made hm).1⟩
    · rw [List.getElem?_eq_getElem hk]; rfl
    · unfold mkT; rw [hm]; rfl
theorem mk_no {l : List Vr} {name : ByteArray} {n : Int} (h : mkOk l name n = false) : mkT l name n = (⟨#[]⟩, 0, 0, 0) := by
  unfold mkOk at h
  unfold mkT
  cases hm : makeTag l name n with
  | none => rfl
  | some m => rw [hm] at h; cases h
set_option maxHeartbeats 4000000 in
set_option maxRecDepth 100000 in
theorem wFnMakeTag (A : Option Addr) (n c : Nat) (w : World) (hb : BytesIn w A n c) : Calls Try.prog 22 #[.slice A n c] w (LawOk w) := by
  by_cases h : n ≤ 1048576
  case neg =>
    go_enter Try.func22, Try.ntmps22
    go_wp2
    go_ret
    exact ⟨rfl, Below.refl _ _⟩
  have HBI := Lib.hid hb
  clear hb
  go_enter Try.func22, Try.ntmps22
  go_wp2_with fail
  refine (DrawMakeTag_any _ _ _ _ HBI.out).mono ?_
  rintro e w1 ⟨v1, l, name, m, rfl, hown1, hf1, hname, hb1⟩
  obtain ⟨A1, c1, rfl, _, hs1, _⟩ := hown1.sl
  have HS1 := Lib.hid hs1
  have HB1 := Lib.hid hb1
  have hl1 := hf1.1
  have HF1 := Lib.hid hf1.fit
  clear hown1 hs1 hb1 hf1
  have hI := fun w h => iMakeTag_any A1 c1 l name m w h (by omega) HF1.out (by omega)
  have hS := fun w h => sMakeTag_any A1 c1 l name m w h (by omega) HF1.out (by omega)
  have hR := fun t w h (ht : t.1.size ≤ 16777216) => iTagRight_any A1 c1 l t w h (by omega) HF1.out ht
  unfold MkR at hI hS
  have hyes := @mk_yes l name m
  have hno := @mk_no l name m
  generalize mkT l name m = T at *
  generalize mkOk l name m = B at *
  have hgd := tg_guard
  cases B
  · obtain rfl := hno rfl
    have HI := Lib.hid hI
    have HS := Lib.hid hS
    clear hI hS hR hyes hno
    have heq := fun W => eq_tg W ⟨#[]⟩ ⟨#[]⟩ 0 0 0 0 0 0
    simp only [beq_self_eq_true, Bool.and_self] at heq
    go_wp2_with fail
    refine (HI.out _ HS1.out).mono ?_
    rintro e w2 ⟨rfl, hb2⟩
    have HS2 := Lib.hid (HS1.out.below hb2)
    have HB2 := Lib.hid (Below_then HB1.out hb2 (Nat.le_refl _))
    clear hb2
    go_wp2_with fail
    refine (HS.out _ (HS2.out.alloc _)).mono ?_
    rintro e w3 ⟨rfl, hb3⟩
    have d0 := box_cell hb3 0 rfl
    have d1 := box_cell hb3 1 rfl
    have d2 := box_cell hb3 2 rfl
    have d3 := box_cell hb3 3 rfl
    replace d0 := fun o => cell_alloc (x := o) d0
    replace d1 := fun o => cell_alloc (x := o) d1
    replace d2 := fun o => cell_alloc (x := o) d2
    replace d3 := fun o => cell_alloc (x := o) d3
    have HB3 := Lib.hid (Below_then HB2.out (Below_of_alloc hb3) (Nat.le_refl _))
    have hz3 : w2.heap.size < w3.heap.size := by have := hb3.size; simp at this; omega
    clear hb3
    go_wp2_with (go_at_call 41; refine (alive_any _).mono ?_; rintro e w' ⟨rfl, rfl⟩)
    go_ret
    exact ⟨rfl, HB3.out.alloc HB3.out.size _⟩
  · obtain ⟨k, r, s, rfl, hk, hlk, rfl, ht⟩ := hyes rfl
    have hR2 := fun w h => hR (name, (k : Int), r, s) w h (by show name.size ≤ _; omega)
    rw [ht] at hR2
    have HI := Lib.hid hI
    have HS := Lib.hid hS
    have HR := Lib.hid hR2
    clear hI hS hR hyes hno hR2 ht
    have heq := fun W => eq_tg W name name k k r r s s
    simp only [beq_self_eq_true, Bool.and_self] at heq
    go_wp2_with fail
    refine (HI.out _ HS1.out).mono ?_
    rintro e w2 ⟨rfl, hb2⟩
    have HS2 := Lib.hid (HS1.out.below hb2)
    have HB2 := Lib.hid (Below_then HB1.out hb2 (Nat.le_refl _))
    clear hb2
    go_wp2_with fail
    refine (HS.out _ (HS2.out.alloc _)).mono ?_
    rintro e w3 ⟨rfl, hb3⟩
    have d0 := box_cell hb3 0 rfl
    have d1 := box_cell hb3 1 rfl
    have d2 := box_cell hb3 2 rfl
    have d3 := box_cell hb3 3 rfl
    replace d0 := fun o => cell_alloc (x := o) d0
    replace d1 := fun o => cell_alloc (x := o) d1
    replace d2 := fun o => cell_alloc (x := o) d2
    replace d3 := fun o => cell_alloc (x := o) d3
    have HB3 := Lib.hid (Below_then HB2.out (Below_of_alloc hb3) (Nat.le_refl _))
    have HS3 := Lib.hid (HS2.out.below (Below_of_alloc hb3))
    have hz3 : w2.heap.size < w3.heap.size := by have := hb3.size; simp at this; omega
    clear hb3
    obtain ⟨b, o, rfl, hv0, _, _⟩ := HS3.out.getV hk
    rw [List.getElem?_eq_getElem hk] at hlk
    simp at hlk
    rw [hlk] at hv0
    have g1 : (0 : Int) ≤ (k : Int) := by omega
    have g2 : (k : Int) < (l.length : Int) := by omega
    have g3 : ¬ (k : Int) < 0 := by omega
    have g4 : ¬ (l.length : Int) ≤ (k : Int) := by omega
    go_wp2_with fail
    replace d0 := far_cell (d0 (.cells #[.string name, .int .i64 (k : Int), .int .i64 r, .int .i64 s] 77))
    replace d1 := far_cell (d1 (.cells #[.string name, .int .i64 (k : Int), .int .i64 r, .int .i64 s] 77))
    replace d2 := far_cell (d2 (.cells #[.string name, .int .i64 (k : Int), .int .i64 r, .int .i64 s] 77))
    replace d3 := far_cell (d3 (.cells #[.string name, .int .i64 (k : Int), .int .i64 r, .int .i64 s] 77))
    replace hv0 := far_cell (cell_alloc (x := .cells #[.string name, .int .i64 (k : Int), .int .i64 r, .int .i64 s] 77) hv0)
    have HB4 := Lib.hid (HB3.out.alloc HB3.out.size (.cells #[.string name, .int .i64 (k : Int), .int .i64 r, .int .i64 s] 77))
    have HS4 := Lib.hid (HS3.out.alloc (.cells #[.string name, .int .i64 (k : Int), .int .i64 r, .int .i64 s] 77))
    refine wp_region_far (by kernel_rfl) (by kernel_rfl) ?_
    repeat (go_big_quiet_step ((go_at_call 89; exact far_call (HR.out _ (HS4.out.far _)))))
    refine wpQuiet_nil ?_
    intro _ hwF
    obtain ⟨pF, hwF⟩ := hwF
    subst hwF
    go_wp2
    go_ret
    exact ⟨rfl, Below_then HB4.out (far_below _ pF) (Nat.le_refl _)⟩
end Go.Proofs.Ytbefbenihahdnaa
