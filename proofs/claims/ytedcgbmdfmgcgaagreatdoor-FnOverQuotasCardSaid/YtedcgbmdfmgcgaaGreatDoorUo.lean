/- OverQuotas of both. -/
import Derived.Test.YtedcgbmdfmgcgaaGreatDoorUs
import Derived.Test.YtedcgbmdfmgcgaaGreatDoorQv
import Derived.Test.YtedcgbmdfmgcgaaGreatDoorGa1
set_option linter.unusedVariables false
namespace Go.Proofs.YtedcgbmdfmgcgaaGreatDoor
open Go.RowKit
set_option maxHeartbeats 8000000 in
set_option maxRecDepth 100000 in
theorem iOverQuotas_any (A B : Option Addr) (c d : Nat) (s : List Pc) (root : Int) (l : List Qt) (w : World) (hs : Sl w encP 2 A s) (hl : s.length ≤ 16777216) (hf : FitP s) (hs2 : Sl w encQ 2 B l) (hle : l.length ≤ d) (hl2 : l.length ≤ 16777216) (hf2 : FitQ l) (ht : TzL w) (hm : MaxL w) :
    Calls Tryz.prog 26 #[.slice A s.length c, .int .i64 root, .slice B l.length d] w (OwnRes 9 1 encS (overR s root l) w) := by
  have HS := Lib.hid hs
  have HS2 := Lib.hid hs2
  have HT := Lib.hid ht
  have HM := Lib.hid hm
  have HB := Lib.hid (Below.refl w.heap.size w)
  have hQV := fun w h h3 => iQuotasValid_any B d l w h hle hl2 hf2 h3
  have hSV := fun w h => iStoreValid_any A c s w h hl hf
  clear hs hs2 ht hm
  cases hq : quoV l
  · rw [overR_no (.inl hq)]
    rw [hq] at hQV
    have HQV := Lib.hid hQV
    clear hQV hSV hq
    go_enter Tryz.func26, Tryz.ntmps26
    go_wp2_with fail
    refine (HQV.out _ HS2.out HM.out).mono ?_
    rintro e w' ⟨rfl, hb⟩
    replace HB := Lib.hid (Below_then HB.out hb (Nat.le_refl _))
    clear hb
    go_wp2
    go_ret
    exact ⟨_, rfl, Own.nil, HB.out⟩
  · rw [hq] at hQV
    cases hv : storeV s
    · rw [overR_no (.inr hv)]
      rw [hv] at hSV
      have HQV := Lib.hid hQV
      have HSV := Lib.hid hSV
      clear hQV hSV hq hv
      go_enter Tryz.func26, Tryz.ntmps26
      go_wp2_with fail
      refine (HQV.out _ HS2.out HM.out).mono ?_
      rintro e w' ⟨rfl, hb⟩
      replace HB := Lib.hid (Below_then HB.out hb (Nat.le_refl _))
      replace HS := Lib.hid (HS.out.below hb)
      clear hb
      go_wp2_with fail
      refine (HSV.out _ HS.out).mono ?_
      rintro e w' ⟨rfl, hb⟩
      replace HB := Lib.hid (Below_then HB.out hb (Nat.le_refl _))
      clear hb
      go_wp2
      go_ret
      exact ⟨_, rfl, Own.nil, HB.out⟩
    · rw [overR_yes hq hv]
      rw [hv] at hSV
      have hl6 := quoV_len hq
      have HF2 := Lib.hid hf2
      have HU := Lib.hid (fun p w h h1 h2 h3 => iUsedBelow_any A c s root p w h hl hf h1 h2 h3)
      have HQV := Lib.hid hQV
      have HSV := Lib.hid hSV
      have HLN := Lib.hid (fun k => overB_len s root (l.take k))
      clear hQV hSV hq hv
      go_enter Tryz.func26, Tryz.ntmps26
      go_wp2_with fail
      refine (HQV.out _ HS2.out HM.out).mono ?_
      rintro e w' ⟨rfl, hb⟩
      replace HB := Lib.hid (Below_then HB.out hb (Nat.le_refl _))
      replace HS := Lib.hid (HS.out.below hb)
      replace HS2 := Lib.hid (HS2.out.below hb)
      replace HT := Lib.hid (HT.out.below hb)
      replace HM := Lib.hid (HM.out.below hb)
      clear hb
      go_wp2_with fail
      refine (HSV.out _ HS.out).mono ?_
      rintro e w2 ⟨rfl, hb⟩
      replace HB := Lib.hid (Below_then HB.out hb (Nat.le_refl _))
      replace HS := Lib.hid (HS.out.below hb)
      replace HS2 := Lib.hid (HS2.out.below hb)
      replace HT := Lib.hid (HT.out.below hb)
      replace HM := Lib.hid (HM.out.below hb)
      clear hb
      go_wp2_with fail
      go_loopw [7, 20] (fun v i wr => ∃ (k : Nat), k ≤ l.length ∧ i = .int .i64 k ∧ Own wr w2.heap.size 9 1 encS v (overB s root (l.take k)) ∧ Hid (Below w2.heap.size w2 wr)) (fun _ i _ => l.length - (intOf i).toNat)
      case atStart => exact ⟨0, Nat.zero_le _, rfl, Own.nil, Below.refl _ _⟩
      case round =>
        obtain ⟨k, hk, rfl, hown, HBW⟩ := hrel
        have HBA := Lib.hid (Below_then HB.out HBW.out (Nat.le_refl _))
        have HW := Lib.hid hown
        by_cases hlt : k < l.length
        · have hlt' : (k : Int) < (l.length : Int) := by omega
          obtain ⟨b, o, rfl, hc0, hc1⟩ := (HS2.out.below HBW.out).getQ hlt
          have hsz := HF2.out _ (List.getElem_mem hlt)
          have HN := Lib.hid (overB_next (s := s) (root := root) hlt)
          have hacc := HLN.out k
          have hacc2 : (overB s root (l.take k)).length ≤ 16777216 := by rw [List.length_take] at hacc; omega
          have hu := usedP_bd (s := s) (root := root) (path := bs l[k].1)
          have hov : overQ s root l[k] = decide (usedP s root (bs l[k].1) > l[k].2) := rfl
          rw [hov] at HN
          have hU := fun w h h2 h3 => HU.out l[k].1 w h hsz h2 h3
          generalize l[k] = q at *
          obtain ⟨p, x⟩ := q
          simp only at *
          generalize usedP s root (bs p) = u at *
          have HUX := Lib.hid hU
          clear hU hov hown
          have HBX := Lib.hid (HBW.out.alloc HBW.out.size (.cells #[.string p, .int .i64 x] 52))
          have HWX := Lib.hid (HW.out.alloc (.cells #[.string p, .int .i64 x] 52))
          have HSF := Lib.hid (fun f => (HS.out.below HBX.out).below (far_below (wr.alloc (.cells #[.string p, .int .i64 x] 52)) f))
          have HTF := Lib.hid (fun f => (HT.out.below HBX.out).below (far_below (wr.alloc (.cells #[.string p, .int .i64 x] 52)) f))
          have HMF := Lib.hid (fun f => (HM.out.below HBX.out).below (far_below (wr.alloc (.cells #[.string p, .int .i64 x] 52)) f))
          have z0 := far_cell (show (wr.alloc (.cells #[.string p, .int .i64 x] 52)).cell? ⟨wr.heap.size, 0, none⟩ = some (.string p) from new_cell rfl)
          have z1 := far_cell (show (wr.alloc (.cells #[.string p, .int .i64 x] 52)).cell? ⟨wr.heap.size, 1, none⟩ = some (.int .i64 x) from new_cell rfl)
          by_cases hgt : x < u
          · have HN2 := Lib.hid (show overB s root (l.take (k + 1)) = overB s root (l.take k) ++ [p] by rw [HN.out, decide_eq_true hgt]; rfl)
            clear HN
            go_wp2
            refine wp_region_far (by kernel_rfl) (by kernel_rfl) ?_
            repeat (go_big_quiet_step ((go_at_call 16; exact far_call (HUX.out _ (HSF.out _) (HTF.out _) (HMF.out _)))))
            refine wpQuiet_nil ?_
            intro _ hwF
            obtain ⟨pF, hwF⟩ := hwF
            subst hwF
            have HBF := Lib.hid (Below_then HBX.out (far_below _ pF) (Nat.le_refl _))
            have HWF := Lib.hid (HWX.out.below (far_below _ pF))
            replace z0 := z0 pF
            replace z1 := z1 pF
            generalize far _ pF = wF at *
            clear hc0 hc1
            go_wp2_with (at_builtin; refine app_str (w0 := w2) rfl rfl rfl rfl HWF.out HBF.out hacc2 ?_; intro v1 w6 hown6 hb6; have HW6 := Lib.hid hown6; have HB6 := Lib.hid hb6; clear hown6 hb6)
            go_roundw
            case rel => exact ⟨k + 1, by omega, by go_num, by rw [HN2.out]; exact HW6.out, HB6.out⟩
            case measure => simp [intOf]; omega
          · have HN2 := Lib.hid (show overB s root (l.take (k + 1)) = overB s root (l.take k) by rw [HN.out, decide_eq_false hgt]; simp)
            clear HN
            go_wp2
            refine wp_region_far (by kernel_rfl) (by kernel_rfl) ?_
            repeat (go_big_quiet_step ((go_at_call 16; exact far_call (HUX.out _ (HSF.out _) (HTF.out _) (HMF.out _)))))
            refine wpQuiet_nil ?_
            intro _ hwF
            obtain ⟨pF, hwF⟩ := hwF
            subst hwF
            have HBF := Lib.hid (Below_then HBX.out (far_below _ pF) (Nat.le_refl _))
            have HWF := Lib.hid (HWX.out.below (far_below _ pF))
            generalize far _ pF = wF at *
            clear hc0 hc1 z0 z1
            go_wp2
            go_roundw
            case rel => exact ⟨k + 1, by omega, by go_num, by rw [HN2.out]; exact HWF.out, HBF.out⟩
            case measure => simp [intOf]; omega
        · have hlt' : ¬ (k : Int) < (l.length : Int) := by omega
          have HE := Lib.hid (show l.take k = l from List.take_of_length_le (by omega))
          go_wp2
          go_ret
          exact ⟨_, rfl, by have h := HW.out.mono HB.out.size; rwa [HE.out] at h, HBA.out⟩
set_option maxHeartbeats 8000000 in
set_option maxRecDepth 100000 in
theorem sOverQuotas_any (A B : Option Addr) (c d : Nat) (s : List Pc) (root : Int) (l : List Qt) (w : World) (hs : Sl w encP 2 A s) (hl : s.length ≤ 16777216) (hf : FitP s) (hs2 : Sl w encQ 2 B l) (hl2 : l.length ≤ 16777216) (hf2 : FitQ l) :
    Calls Tryz.prog 27 #[.slice A s.length c, .int .i64 root, .slice B l.length d] w (OwnRes 9 1 encS (overR s root l) w) := by
  have HS := Lib.hid hs
  have HS2 := Lib.hid hs2
  have HB := Lib.hid ((Below.refl w.heap.size w).alloc (Nat.le_refl _) (.cells #[] 9))
  have HW0 := Lib.hid (Own.made (enc := encS) (E := 9) (size := 1) (Nat.le_refl w.heap.size))
  have hQV := fun w h => sQuotasValid_any B d l w h hl2 hf2
  have hSV := fun w h => sStoreValid_any A c s w h hl hf
  clear hs hs2
  by_cases hl0 : l = []
  · subst hl0
    have e : overR s root [] = [] := by unfold overR overB; split <;> rfl
    rw [e]
    clear hQV hSV e
    go_enter Tryz.func27, Tryz.ntmps27
    go_wp2_with fail
    go_loopw [7, 8] (fun v i wr => v = .slice (some ⟨w.heap.size, 0, none⟩) 0 0 ∧ i = .int .i64 0 ∧ wr = w.alloc (.cells #[] 9)) (fun _ _ _ => 0)
    case atStart => exact ⟨rfl, rfl, rfl⟩
    case round =>
      obtain ⟨rfl, rfl, rfl⟩ := hrel
      go_wp2
      go_ret
      exact ⟨_, rfl, HW0.out, HB.out⟩
  have hpos : (0 : Int) < (l.length : Int) := by have := List.length_pos_iff.2 hl0; omega
  cases hq : quoV l
  · rw [overR_no (.inl hq)]
    rw [hq] at hQV
    have HQV := Lib.hid hQV
    clear hQV hSV hq
    go_enter Tryz.func27, Tryz.ntmps27
    go_wp2_with fail
    go_loopw [7, 8] (fun v i wr => v = .slice (some ⟨w.heap.size, 0, none⟩) 0 0 ∧ i = .int .i64 0 ∧ wr = w.alloc (.cells #[] 9)) (fun _ _ _ => 0)
    case atStart => exact ⟨rfl, rfl, rfl⟩
    case round =>
      obtain ⟨rfl, rfl, rfl⟩ := hrel
      go_wp2_with fail
      refine (HQV.out _ (HS2.out.alloc _)).mono ?_
      rintro e w3 ⟨rfl, hb⟩
      replace HB := Lib.hid (HB.out.trans (hb.mono (by simp)))
      replace HW0 := Lib.hid (HW0.out.below hb)
      clear hb
      go_wp2
      go_ret
      exact ⟨_, rfl, HW0.out, HB.out⟩
  · rw [hq] at hQV
    cases hv : storeV s
    · rw [overR_no (.inr hv)]
      rw [hv] at hSV
      have HQV := Lib.hid hQV
      have HSV := Lib.hid hSV
      clear hQV hSV hq hv
      go_enter Tryz.func27, Tryz.ntmps27
      go_wp2_with fail
      go_loopw [7, 8] (fun v i wr => v = .slice (some ⟨w.heap.size, 0, none⟩) 0 0 ∧ i = .int .i64 0 ∧ wr = w.alloc (.cells #[] 9)) (fun _ _ _ => 0)
      case atStart => exact ⟨rfl, rfl, rfl⟩
      case round =>
        obtain ⟨rfl, rfl, rfl⟩ := hrel
        go_wp2_with fail
        refine (HQV.out _ (HS2.out.alloc _)).mono ?_
        rintro e w3 ⟨rfl, hb⟩
        replace HB := Lib.hid (HB.out.trans (hb.mono (by simp)))
        replace HW0 := Lib.hid (HW0.out.below hb)
        clear hb
        go_wp2_with fail
        refine (HSV.out _ (HS.out.below HB.out)).mono ?_
        rintro e w4 ⟨rfl, hb⟩
        replace HB := Lib.hid (Below_then HB.out hb (Nat.le_refl _))
        replace HW0 := Lib.hid (HW0.out.below hb)
        clear hb
        go_wp2
        go_ret
        exact ⟨_, rfl, HW0.out, HB.out⟩
    · rw [overR_yes hq hv]
      rw [hv] at hSV
      have hl6 := quoV_len hq
      have HF2 := Lib.hid hf2
      have HU := Lib.hid (fun p w h h1 => sUsedBelow_any A c s root p w h hl hf h1)
      have HQV := Lib.hid hQV
      have HSV := Lib.hid hSV
      have HLN := Lib.hid (fun k => overB_len s root (l.take k))
      clear hQV hSV hq hv
      go_enter Tryz.func27, Tryz.ntmps27
      go_wp2_with fail
      go_loopw [7, 8] (fun v i wr => ∃ (k : Nat), k ≤ l.length ∧ i = .int .i64 k ∧ Own wr w.heap.size 9 1 encS v (overB s root (l.take k)) ∧ Hid (Below w.heap.size w wr)) (fun _ i _ => l.length - (intOf i).toNat)
      case atStart => exact ⟨0, Nat.zero_le _, rfl, HW0.out, HB.out⟩
      case round =>
        obtain ⟨k, hk, rfl, hown, HBW⟩ := hrel
        have HW := Lib.hid hown
        clear hown
        by_cases hlt : k < l.length
        · have hlt' : (k : Int) < (l.length : Int) := by omega
          obtain ⟨b, o, hBb, _, _⟩ := (HS2.out.below HBW.out).getQ hlt
          have hsz := HF2.out _ (List.getElem_mem hlt)
          have HN := Lib.hid (overB_next (s := s) (root := root) hlt)
          have hacc := HLN.out k
          have hacc2 : (overB s root (l.take k)).length ≤ 16777216 := by rw [List.length_take] at hacc; omega
          have hu := usedP_bd (s := s) (root := root) (path := bs l[k].1)
          have hov : overQ s root l[k] = decide (usedP s root (bs l[k].1) > l[k].2) := rfl
          rw [hov] at HN
          have hU := fun w h => HU.out l[k].1 w h hsz
          subst hBb
          have HSW := Lib.hid (HS.out.below HBW.out)
          have HQW := Lib.hid (HS2.out.below HBW.out)
          go_wp2_with fail
          refine (HQV.out _ HQW.out).mono ?_
          rintro e w3 ⟨rfl, hb⟩
          replace HBW := Lib.hid (Below_then HBW.out hb (Nat.le_refl _))
          replace HSW := Lib.hid (HSW.out.below hb)
          replace HQW := Lib.hid (HQW.out.below hb)
          replace HW := Lib.hid (HW.out.below hb)
          clear hb
          go_wp2_with fail
          refine (HSV.out _ HSW.out).mono ?_
          rintro e w4 ⟨rfl, hb⟩
          replace HBW := Lib.hid (Below_then HBW.out hb (Nat.le_refl _))
          replace HSW := Lib.hid (HSW.out.below hb)
          replace HQW := Lib.hid (HQW.out.below hb)
          replace HW := Lib.hid (HW.out.below hb)
          clear hb
          obtain ⟨b2, o2, e2, hc0, hc1⟩ := HQW.out.getQ hlt
          injection e2 with e2; injection e2 with e3 e4
          subst e3 e4
          generalize l[k] = q at *
          obtain ⟨p, x⟩ := q
          simp only at *
          generalize usedP s root (bs p) = u at *
          have HUX := Lib.hid hU
          clear hU hov
          have HSF := Lib.hid (fun f => HSW.out.below (far_below w4 f))
          have z0 := far_cell hc0
          have z1 := far_cell hc1
          by_cases hgt : x < u
          · have HN2 := Lib.hid (show overB s root (l.take (k + 1)) = overB s root (l.take k) ++ [p] by rw [HN.out, decide_eq_true hgt]; rfl)
            clear HN
            go_wp2
            refine wp_region_far (by kernel_rfl) (by kernel_rfl) ?_
            repeat (go_big_quiet_step ((go_at_call 17; exact far_call (HUX.out _ (HSF.out _)))))
            refine wpQuiet_nil ?_
            intro _ hwF
            obtain ⟨pF, hwF⟩ := hwF
            subst hwF
            have HBF := Lib.hid (Below_then HBW.out (far_below _ pF) (Nat.le_refl _))
            have HWF := Lib.hid (HW.out.below (far_below _ pF))
            replace z0 := z0 pF
            replace z1 := z1 pF
            generalize far _ pF = wF at *
            clear hc0 hc1
            go_wp2_with (at_builtin; refine app_str (w0 := w) rfl rfl rfl rfl HWF.out HBF.out hacc2 ?_; intro v1 w6 hown6 hb6; have HW6 := Lib.hid hown6; have HB6 := Lib.hid hb6; clear hown6 hb6)
            go_roundw
            case rel => exact ⟨k + 1, by omega, by go_num, by rw [HN2.out]; exact HW6.out, HB6.out⟩
            case measure => simp [intOf]; omega
          · have HN2 := Lib.hid (show overB s root (l.take (k + 1)) = overB s root (l.take k) by rw [HN.out, decide_eq_false hgt]; simp)
            clear HN
            go_wp2
            refine wp_region_far (by kernel_rfl) (by kernel_rfl) ?_
            repeat (go_big_quiet_step ((go_at_call 17; exact far_call (HUX.out _ (HSF.out _)))))
            refine wpQuiet_nil ?_
            intro _ hwF
            obtain ⟨pF, hwF⟩ := hwF
            subst hwF
            have HBF := Lib.hid (Below_then HBW.out (far_below _ pF) (Nat.le_refl _))
            have HWF := Lib.hid (HW.out.below (far_below _ pF))
            generalize far _ pF = wF at *
            clear hc0 hc1 z0 z1
            go_wp2
            go_roundw
            case rel => exact ⟨k + 1, by omega, by go_num, by rw [HN2.out]; exact HWF.out, HBF.out⟩
            case measure => simp [intOf]; omega
        · have hlt' : ¬ (k : Int) < (l.length : Int) := by omega
          have HE := Lib.hid (show l.take k = l from List.take_of_length_le (by omega))
          go_wp2
          go_ret
          exact ⟨_, rfl, by have h := HW.out; rwa [HE.out] at h, HBW.out⟩
end Go.Proofs.YtedcgbmdfmgcgaaGreatDoor
