/- FnRepairPieces, walked. -/
import Derived.Test.YtbefbenihahdnaaDr4
import Derived.Test.YtbefbenihahdnaaRw2
import Derived.Test.YtbefbenihahdnaaNe
import Derived.Test.YtbefbenihahdnaaL1
set_option linter.unusedVariables false
namespace Go.Proofs.Ytbefbenihahdnaa
open Go.RowKit
theorem Sl.getPo {w : World} {A : Option Addr} {l : List Pc} {k : Nat} {x : Pc} (h : Sl w encP 2 A l) (hk : l[k]? = some x) :
    ∃ b o, A = some ⟨b, o, none⟩ ∧ w.cell? ⟨b, o + k * 2, none⟩ = some (.int .i64 x.1) ∧ w.cell? ⟨b, o + k * 2 + 1, none⟩ = some (.string x.2) := by
  obtain ⟨hlt, rfl⟩ := List.getElem?_eq_some_iff.1 hk
  exact h.getP hlt
set_option maxHeartbeats 2000000 in
set_option maxRecDepth 100000 in
theorem samePieces_same (A B : Option Addr) (c d : Nat) (l : List Pc) (w : World) (ha : Sl w encP 2 A l) (hb : Sl w encP 2 B l) (hl : l.length ≤ 16777216) :
    Calls Try.prog 83 #[.slice A l.length c, .slice B l.length d] w fun e w' => e = .returned (.bool true) ∧ Below w.heap.size w w' := by
  have HA := Lib.hid ha
  have HB := Lib.hid hb
  clear ha hb
  have hgd := pc_guard
  go_enter Try.func83, Try.ntmps83
  go_wp2
  go_loopw [5] (fun i wr => ∃ (k : Nat), k ≤ l.length ∧ i = .int .i64 k ∧ Below w.heap.size w wr) (fun i _ => l.length - (intOf i).toNat)
  case atStart => exact ⟨0, Nat.zero_le _, rfl, Below.refl _ _⟩
  case round =>
    obtain ⟨k, hk, rfl, hbw⟩ := hrel
    have HW := Lib.hid hbw
    clear hbw
    by_cases hlt : k < l.length
    · obtain ⟨b1, o1, rfl, hc0, hc1⟩ := (HA.out.below HW.out).getP hlt
      obtain ⟨b2, o2, rfl, hd0, hd1⟩ := (HB.out.below HW.out).getP hlt
      generalize l[k] = p at *
      have heq := fun W => eq_pc W p.1 p.1 p.2 p.2
      simp only [beq_self_eq_true, Bool.and_self] at heq
      replace hc0 := far_cell hc0
      replace hc1 := far_cell hc1
      replace hd0 := far_cell hd0
      replace hd1 := far_cell hd1
      go_wp2
      refine wp_region_far (by kernel_rfl) (by kernel_rfl) ?_
      repeat (go_big_quiet_step (fail))
      refine wpQuiet_nil ?_
      intro _ hwF
      obtain ⟨pF, hwF⟩ := hwF
      subst hwF
      go_wp2
      go_roundw
      case rel => exact ⟨k + 1, by omega, by go_num, Below_then HW.out (far_below _ _) (Nat.le_refl _)⟩
      case measure => simp [intOf]; omega
    · go_wp2
      go_ret
      exact ⟨rfl, HW.out⟩
set_option maxHeartbeats 4000000 in
set_option maxRecDepth 100000 in
theorem wFnRepairPieces (A : Option Addr) (n c : Nat) (w : World) (hb : BytesIn w A n c) : Calls Try.prog 19 #[.slice A n c] w (LawOk w) := by
  by_cases h : n ≤ 1048576
  case neg =>
    go_enter Try.func19, Try.ntmps19
    go_wp2
    go_ret
    exact ⟨rfl, Below.refl _ _⟩
  have HBI := Lib.hid hb
  clear hb
  go_enter Try.func19, Try.ntmps19
  go_wp2_with fail
  refine (DrawRepairPieces_any _ _ _ _ HBI.out).mono ?_
  rintro e w1 ⟨v1, v2, l, copies, rfl, hown1, hown2, hf1, hf2, hb1⟩
  obtain ⟨A1, c1, rfl, _, hs1, _⟩ := hown1.sl
  obtain ⟨A2, c2, rfl, _, hs2, _⟩ := hown2.sl
  have HC1 := Lib.hid hown1.cz
  have HS1 := Lib.hid hs1
  have HS2 := Lib.hid hs2
  have HB1 := Lib.hid hb1
  have HF1 := Lib.hid hf1.fit
  have HF2 := Lib.hid hf2.fit
  have hl1 := hf1.1
  have hl2 := hf2.1
  clear hown1 hown2 hs1 hs2 hb1 hf1 hf2
  have hI := fun c d w h hc h2 => iRepairPieces_any A1 A2 c d l copies w h hc h2 (by omega) (by omega) HF1.out HF2.out
  have hS := fun c d w h h2 => sRepairPieces_any A1 A2 c d l copies w h h2 (by omega) (by omega) HF1.out HF2.out
  unfold RepR at hI hS
  have hlen := repairs_len copies l
  have hdm := damaged_many copies l
  have hat := fun k (h : k < l.length) => (show (repairs copies l)[k]? = some (repair1 copies l[k]).1 from by simp [repairs, h])
  have hmb := many_bd copies l
  have hfR : FitP (repairs copies l) := by
    intro q hq
    obtain ⟨p, hp, rfl⟩ := List.mem_map.1 hq
    unfold repair1
    split
    · exact HF1.out p hp
    · split
      · rename_i c hc; exact HF2.out c (List.mem_of_find?_eq_some hc)
      · exact HF1.out p hp
  generalize repairs copies l = R at *
  generalize many copies l = M at *
  have HI := Lib.hid hI
  have HS := Lib.hid hS
  have HLEN := Lib.hid hlen
  have HDM := Lib.hid hdm
  have HAT := Lib.hid hat
  have HFR := Lib.hid hfR
  have hm0 := hmb.1
  have hm1 := hmb.2
  clear hI hS hlen hdm hat hfR hmb
  go_wp2_with fail
  refine (HI.out _ _ _ HS1.out HC1.out HS2.out).mono ?_
  rintro e w2 ⟨v3, rfl, hown3, hb2⟩
  obtain ⟨A3, c3, hv3, _, hs3, _⟩ := hown3.sl
  rw [HLEN.out] at hv3
  subst hv3
  have HX2 := Lib.hid hs3
  have HB2 := Lib.hid (Below_then HB1.out hb2 (Nat.le_refl _))
  have HS12 := Lib.hid (HS1.out.below hb2)
  have HS22 := Lib.hid (HS2.out.below hb2)
  clear hown3 hs3 hb2
  go_wp2_with fail
  refine (HS.out _ _ _ HS12.out HS22.out).mono ?_
  rintro e w3 ⟨v4, rfl, hown4, hb3⟩
  obtain ⟨A4, c4, hv4, _, hs4, _⟩ := hown4.sl
  rw [HLEN.out] at hv4
  subst hv4
  have HX3 := Lib.hid (HX2.out.below hb3)
  have HY3 := Lib.hid hs4
  have HB3 := Lib.hid (Below_then HB2.out hb3 (Nat.le_refl _))
  have HS13 := Lib.hid (HS12.out.below hb3)
  clear hown4 hs4 hb3
  go_wp2_with fail
  have hsame := samePieces_same A3 A4 c3 c4 R w3 HX3.out HY3.out (by rw [HLEN.out]; omega)
  rw [HLEN.out] at hsame
  refine hsame.mono ?_
  rintro e w4 ⟨rfl, hb4⟩
  have HX4 := Lib.hid (HX3.out.below hb4)
  have HB4 := Lib.hid (Below_then HB3.out hb4 (Nat.le_refl _))
  have HS14 := Lib.hid (HS13.out.below hb4)
  clear hsame hb4
  have hgd := pc_guard
  go_wp2_with fail
  go_loopw [9] (fun i wr => ∃ (k : Nat), k ≤ l.length ∧ i = .int .i64 k ∧ Hid (Below w4.heap.size w4 wr)) (fun i _ => l.length - (intOf i).toNat)
  case atStart => exact ⟨0, Nat.zero_le _, rfl, Below.refl _ _⟩
  case round =>
    obtain ⟨k, hk, rfl, HBW⟩ := hrel
    by_cases hlt : k < l.length
    · obtain ⟨b1, o1, rfl, hc0, hc1⟩ := (HS14.out.below HBW.out).getP hlt
      obtain ⟨b2, o2, rfl, hd0, hd1⟩ := (HX4.out.below HBW.out).getPo (HAT.out k hlt)
      have hfk := HF1.out.at hlt
      have hPR := iPieceRight_any l[k].1 l[k].2
      have hrp := repair1_print copies l[k]
      have hrr := @repair1_right copies l[k]
      generalize hr : repair1 copies l[k] = r at *
      clear hr
      generalize l[k] = p at *
      rw [show pieceR (p.1, p.2) = pieceR p from rfl] at hPR
      replace hc0 := far_cell hc0
      replace hc1 := far_cell hc1
      replace hd0 := far_cell hd0
      replace hd1 := far_cell hd1
      cases hp : pieceR p
      · rw [hrp] at hd0
        rw [hp] at hPR
        have HPR := Lib.hid (fun w => hPR w hfk)
        clear hPR hp hrp hrr
        go_wp2
        refine wp_region_far (by kernel_rfl) (by kernel_rfl) ?_
        repeat (go_big_quiet_step ((go_at_call 39; exact far_call (HPR.out _))))
        refine wpQuiet_nil ?_
        intro _ hwF
        obtain ⟨pF, hwF⟩ := hwF
        subst hwF
        have HB5 := Lib.hid (Below_then HBW.out (far_below _ pF) (Nat.le_refl _))
        generalize far _ pF = wF at *
        clear hc0 hc1 hd0 hd1
        go_wp2
        go_roundw
        case rel => exact ⟨k + 1, by omega, by go_num, HB5.out⟩
        case measure => simp [intOf]; omega
      · rw [hrr hp] at hd0 hd1
        rw [hp] at hPR
        have HPR := Lib.hid (fun w => hPR w hfk)
        clear hPR hp hrp hrr
        have heq := fun W => eq_pc W p.1 p.1 p.2 p.2
        simp only [beq_self_eq_true, Bool.and_self] at heq
        simp only at hd0 hd1
        go_wp2
        refine wp_region_far (by kernel_rfl) (by kernel_rfl) ?_
        repeat (go_big_quiet_step ((go_at_call 39; exact far_call (HPR.out _))))
        refine wpQuiet_nil ?_
        intro _ hwF
        obtain ⟨pF, hwF⟩ := hwF
        subst hwF
        have HB5 := Lib.hid (Below_then HBW.out (far_below _ pF) (Nat.le_refl _))
        generalize far _ pF = wF at *
        clear hc0 hc1 hd0 hd1
        go_wp2
        go_roundw
        case rel => exact ⟨k + 1, by omega, by go_num, HB5.out⟩
        case measure => simp [intOf]; omega
    · have HX5 := Lib.hid (HX4.out.below HBW.out)
      have HS5 := Lib.hid (HS14.out.below HBW.out)
      have HB5 := Lib.hid (Below_then HB4.out HBW.out (Nat.le_refl _))
      have hDX := fun w h => iDamagedPrints_any A3 c3 R w h (by rw [HLEN.out]; omega) HFR.out
      rw [HLEN.out] at hDX
      have HDX := Lib.hid hDX
      clear hDX
      go_wp2_with fail
      refine (HDX.out _ HX5.out).mono ?_
      rintro e w6 ⟨v6, rfl, hown6, hb6⟩
      obtain ⟨A6, c6, rfl, _, _, _⟩ := hown6.sl
      have HB6 := Lib.hid (Below_then HB5.out hb6 (Nat.le_refl _))
      have HS6 := Lib.hid (HS5.out.below hb6)
      clear hown6 hb6
      go_wp2_with fail
      refine (iDamagedPrints_any A1 c1 l _ HS6.out (by omega) HF1.out).mono ?_
      rintro e w7 ⟨v7, rfl, hown7, hb7⟩
      obtain ⟨A7, c7, rfl, _, _, _⟩ := hown7.sl
      have HB7 := Lib.hid (Below_then HB6.out hb7 (Nat.le_refl _))
      clear hown7 hb7
      have e1 := HDM.out
      have hd1 := damaged_len R
      rw [HLEN.out] at hd1
      have hd2 := damaged_len l
      generalize (damaged R).length = x at *
      generalize (damaged l).length = y at *
      have hw : wrap64 (y : Int) = (y : Int) := by unfold wrap64; omega
      clear HX5 HS5 HS6 hm0 hm1 hd1 hd2 hl1 hl2
      go_wp2_with (go_at_call 41; refine (alive_any _).mono ?_; rintro e w' ⟨rfl, rfl⟩)
      go_ret
      exact ⟨rfl, HB7.out⟩
end Go.Proofs.Ytbefbenihahdnaa
