/- Names: ClashOf of the reference. -/
import Derived.Test.YthbdcmaloojngaaDoorNm
import Derived.Deep.RegionWith
set_option linter.unusedVariables false
namespace Go.Proofs.YthbdcmaloojngaaDoor
open Go.RowKit
attribute [local go_sem] mk_toList
theorem hasS_take {fs : List ByteArray} {x : ByteArray} {j : Nat} (h : j < fs.length) : hasS (fs.take (j + 1)) x = (hasS (fs.take j) x || (bs x == bs fs[j])) := by
  unfold hasS; rw [List.take_succ_eq_append_getElem h, List.any_append]; simp
theorem folds_at {ss : List ByteArray} {k : Nat} (h : k < ss.length) : (folds ss)[k]'(by rw [folds_len]; exact h) = mk (foldName (bs ss[k])) := by simp [folds]
/-- What the reference's inner loop has come to. -/
def innerC (fs : List ByteArray) (k j : Nat) : Int := if 0 ≤ clashTo fs k then clashTo fs k else if hasS (fs.take j) (fs.getD k ⟨#[]⟩) then k else -1
theorem innerC_end (fs : List ByteArray) (k : Nat) : innerC fs k k = clashTo fs (k + 1) := rfl
theorem innerC_zero (fs : List ByteArray) (k : Nat) : innerC fs k 0 = clashTo fs k := by
  unfold innerC; split
  · rfl
  · have := clashTo_lt fs k
    rw [if_neg (by simp [hasS])]; omega
theorem innerC_bd (fs : List ByteArray) (k j : Nat) : -1 ≤ innerC fs k j ∧ innerC fs k j ≤ k := by
  have := clashTo_lt fs k
  unfold innerC; split
  · omega
  · split <;> omega
theorem innerC_same {ss : List ByteArray} {k j : Nat} (hk : k < ss.length) (hj : j < k) (h : (foldName (bs ss[j]) == foldName (bs ss[k])) = false) : innerC (folds ss) k (j + 1) = innerC (folds ss) k j := by
  have hjl : j < (folds ss).length := by rw [folds_len]; omega
  have hkl : k < (folds ss).length := by rw [folds_len]; exact hk
  unfold innerC
  rw [hasS_take hjl, getD_at hkl, folds_at hk, folds_at (ss := ss) (k := j) (by omega)]
  have e : (bs (mk (foldName (bs ss[k]))) == bs (mk (foldName (bs ss[j])))) = false := by
    show (foldName (bs ss[k]) == foldName (bs ss[j])) = false
    rw [beq_eq_false_iff_ne] at h ⊢; exact fun e => h e.symm
  rw [e, Bool.or_false]
theorem innerC_hit {ss : List ByteArray} {k j : Nat} (hk : k < ss.length) (hj : j < k) (h : (foldName (bs ss[j]) == foldName (bs ss[k])) = true) : innerC (folds ss) k (j + 1) = if 0 ≤ innerC (folds ss) k j then innerC (folds ss) k j else k := by
  have hjl : j < (folds ss).length := by rw [folds_len]; omega
  have hkl : k < (folds ss).length := by rw [folds_len]; exact hk
  unfold innerC
  rw [hasS_take hjl, getD_at hkl, folds_at hk, folds_at (ss := ss) (k := j) (by omega)]
  have e : (bs (mk (foldName (bs ss[k]))) == bs (mk (foldName (bs ss[j])))) = true := by
    show (foldName (bs ss[k]) == foldName (bs ss[j])) = true
    rw [beq_iff_eq] at h ⊢; exact h.symm
  rw [e, Bool.or_true]
  by_cases hc : 0 ≤ clashTo (folds ss) k
  · simp [hc]
  · cases hh : hasS ((folds ss).take j) (mk (foldName (bs ss[k]))) <;> simp [hc]
set_option maxHeartbeats 8000000 in
set_option maxRecDepth 100000 in
theorem sClashOf_any (A : Option Addr) (c : Nat) (ss : List ByteArray) (w : World) (hs : Sl w encS 1 A ss) (hl : ss.length ≤ 16777216) (hf : ∀ s ∈ ss, s.size ≤ 16777216) :
    Calls Tryd.prog 35 #[.slice A ss.length c] w fun e w' => e = .returned (.int .i64 (clashOf ss)) ∧ Below w.heap.size w w' := by
  have HS := Lib.hid hs
  have HF := Lib.hid hf
  clear hs hf
  go_enter Tryd.func35, Tryd.ntmps35
  go_wp2
  go_loopw [3, 4] (fun v i wr => ∃ (k : Nat) (C : Int), k ≤ ss.length ∧ i = .int .i64 k ∧ v = .int .i64 C ∧ -1 ≤ C ∧ C ≤ 16777216 ∧ Hid (C = clashTo (folds ss) k) ∧ Hid ((ss.take k).all (fun s => !(foldName (bs s)).isEmpty) = true) ∧ Below w.heap.size w wr) (fun _ i _ => ss.length - (intOf i).toNat)
  case atStart => exact ⟨0, -1, Nat.zero_le _, rfl, rfl, by omega, by omega, rfl, rfl, Below.refl _ _⟩
  case round =>
    obtain ⟨k, C, hk, rfl, rfl, hC0, hC1, hh, hall, hb⟩ := hrel
    by_cases hlt : k < ss.length
    · obtain ⟨b, o, rfl, hc⟩ := (HS.out.below hb).getS hlt
      have hfk := HF.out ss[k] (by simp)
      cases he : (foldName (bs ss[k])).isEmpty
      · go_wp2_with (go_at_call 34; refine (sFoldName_any _ _ hfk).mono ?_; rintro e w1 ⟨rfl, hb1⟩)
        have HB1 := Lib.hid (Below_then hb hb1 (Nat.le_refl _))
        have HE := Lib.hid he
        clear hb1 hb hc he
        go_loopw [3, 5] (fun v i wr2 => ∃ (j : Nat) (D : Int), j ≤ k ∧ i = .int .i64 j ∧ v = .int .i64 D ∧ -1 ≤ D ∧ D ≤ 16777216 ∧ Hid (D = innerC (folds ss) k j) ∧ Below w.heap.size w wr2) (fun _ i _ => k - (intOf i).toNat)
        case atStart => exact ⟨0, C, Nat.zero_le _, rfl, rfl, hC0, hC1, by show _ = _; rw [innerC_zero, hh.out], HB1.out⟩
        case round =>
          obtain ⟨j, D, hj, rfl, rfl, hD0, hD1, hd, hb2⟩ := hrel
          by_cases hjk : j < k
          · have hcj : wr.cell? ⟨b, o + j, none⟩ = some (.string ss[j]) := by
              obtain ⟨b', o', e', h'⟩ := (HS.out.below hb2).getS (k := j) (by omega)
              injection e' with e'; injection e' with e1 e2; rw [e1, e2]; exact h'
            have hck : wr.cell? ⟨b, o + k, none⟩ = some (.string ss[k]) := by
              obtain ⟨b', o', e', h'⟩ := (HS.out.below hb2).getS hlt
              injection e' with e'; injection e' with e1 e2; rw [e1, e2]; exact h'
            have hjl : j < ss.length := by omega
            have hfj := HF.out ss[j] (by simp)
            have HBX := Lib.hid hb2.drew
            clear hb2
            have hsame := innerC_same (ss := ss) hlt hjk
            have hhit := innerC_hit (ss := ss) hlt hjk
            have hI := sFoldName_any ss[j]
            have hJ := sFoldName_any ss[k]
            have HH := Lib.hid hh
            have HAL := Lib.hid hall
            have HEE := Lib.hid HE
            clear hh hall HE
            have hll : ss[j].size ≤ 16777216 := hfj
            generalize ss[j] = xj at *
            generalize ss[k] = xk at *
            have HI := Lib.hid (fun w => hI w hfj)
            have HJ := Lib.hid (fun w => hJ w hfk)
            have HSAME := Lib.hid hsame
            have HHIT := Lib.hid hhit
            clear hI hJ hsame hhit
            generalize foldName (bs xj) = p at *
            generalize foldName (bs xk) = q at *
            cases hab : (p == q)
            · have HAB := Lib.hid (HSAME.out hab)
              go_wp2
              first
                | go_region_with (first
                    | (go_at_call_of 34 xj; refine (HI.out _).mono ?_; rintro e w1 ⟨rfl, hb1⟩; (replace HBX := Lib.hid (Below_then HBX.out hb1 (Nat.le_refl _))); (try replace hck := Below_cells hb1 _ _ _ hck); (clear hb1))
                    | (go_at_call_of 34 xk; refine (HJ.out _).mono ?_; rintro e w1 ⟨rfl, hb1⟩; (replace HBX := Lib.hid (Below_then HBX.out hb1 (Nat.le_refl _))); (try replace hcj := Below_cells hb1 _ _ _ hcj); (clear hb1)))
                | fail
              all_goals
                go_wp2
                go_roundw
                case rel => exact ⟨j + 1, D, by omega, by go_num, rfl, hD0, hD1, by show _ = _; rw [HAB.out, hd.out], HBX.out⟩
                case measure => simp [intOf]; omega
            · have HAB := Lib.hid (HHIT.out hab)
              by_cases hD : D < 0
              · have hDd : decide (D < 0) = true := decide_eq_true hD
                go_wp2
                first
                  | go_region_with (first
                      | (go_at_call_of 34 xj; refine (HI.out _).mono ?_; rintro e w1 ⟨rfl, hb1⟩; (replace HBX := Lib.hid (Below_then HBX.out hb1 (Nat.le_refl _))); (try replace hck := Below_cells hb1 _ _ _ hck); (clear hb1))
                      | (go_at_call_of 34 xk; refine (HJ.out _).mono ?_; rintro e w1 ⟨rfl, hb1⟩; (replace HBX := Lib.hid (Below_then HBX.out hb1 (Nat.le_refl _))); (try replace hcj := Below_cells hb1 _ _ _ hcj); (clear hb1)))
                  | fail
                all_goals
                  go_wp2
                  go_roundw
                  case rel => exact ⟨j + 1, k, by omega, by go_num, rfl, by omega, by omega, by show _ = _; rw [HAB.out, ← hd.out, if_neg (by omega)], HBX.out⟩
                  case measure => simp [intOf]; omega
              · have hDd : decide (D < 0) = false := decide_eq_false hD
                go_wp2
                first
                  | go_region_with (first
                      | (go_at_call_of 34 xj; refine (HI.out _).mono ?_; rintro e w1 ⟨rfl, hb1⟩; (replace HBX := Lib.hid (Below_then HBX.out hb1 (Nat.le_refl _))); (try replace hck := Below_cells hb1 _ _ _ hck); (clear hb1))
                      | (go_at_call_of 34 xk; refine (HJ.out _).mono ?_; rintro e w1 ⟨rfl, hb1⟩; (replace HBX := Lib.hid (Below_then HBX.out hb1 (Nat.le_refl _))); (try replace hcj := Below_cells hb1 _ _ _ hcj); (clear hb1)))
                  | fail
                all_goals
                  go_wp2
                  go_roundw
                  case rel => exact ⟨j + 1, D, by omega, by go_num, rfl, hD0, hD1, by show _ = _; rw [HAB.out, ← hd.out, if_pos (by omega)], HBX.out⟩
                  case measure => simp [intOf]; omega
          · have hjk2 : j = k := by omega
            subst hjk2
            go_wp2
            go_roundw
            case rel => exact ⟨j + 1, D, by omega, by go_num, rfl, hD0, hD1, by show _ = _; rw [hd.out]; exact innerC_end _ _, by show _ = _; rw [List.take_succ_eq_append_getElem hlt, List.all_append, hall.out]; simp [HE.out], hb2⟩
            case measure => simp [intOf]; omega
      · go_wp2_with (go_at_call 34; refine (sFoldName_any _ _ hfk).mono ?_; rintro e w1 ⟨rfl, hb1⟩)
        go_ret
        have h0 : clashOf ss = -1 := by
          have : allFold ss = false := by
            unfold allFold; rw [List.all_eq_false]; exact ⟨ss[k], by simp, by rw [he]; simp⟩
          unfold clashOf; rw [this]; rfl
        exact ⟨ret_int h0.symm, Below_then hb hb1 (Nat.le_refl _)⟩
    · go_wp2
      go_ret
      refine ⟨ret_int ?_, hb⟩
      have ha : allFold ss = true := by
        have := hall.out; rwa [List.take_of_length_le (by omega)] at this
      unfold clashOf; rw [ha, if_pos rfl, hh.out]; congr 1; omega
end Go.Proofs.YthbdcmaloojngaaDoor
