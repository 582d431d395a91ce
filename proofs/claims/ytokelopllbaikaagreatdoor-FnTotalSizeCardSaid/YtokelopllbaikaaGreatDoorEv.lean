/- EntriesValid and FolderText, walked. -/
import Derived.Test.YtokelopllbaikaaGreatDoorGa2
import Derived.Test.YtokelopllbaikaaGreatDoorGa7
import Derived.Test.YtokelopllbaikaaGreatDoorSto
import Derived.Test.YtokelopllbaikaaGreatDoorGa8
set_option linter.unusedVariables false
namespace Go.Proofs.YtokelopllbaikaaGreatDoor
open Go.RowKit
theorem entAt_eq {l : List En} {k : Nat} (hk : k < l.length) : entAt l k = ((wordV (bs l[k].1) && pv l[k].2) && (k == 0 || lessB (bs (l.getD (k - 1) en0).1) (bs l[k].1))) := by
  unfold entAt entOk; rw [getD_en hk]
theorem entAt_word {l : List En} {k : Nat} (hk : k < l.length) (h : wordV (bs l[k].1) = false) : entAt l k = false := by rw [entAt_eq hk, h]; rfl
theorem entAt_pv {l : List En} {k : Nat} (hk : k < l.length) (h : pv l[k].2 = false) : entAt l k = false := by rw [entAt_eq hk, h, Bool.and_false]; rfl
theorem entAt_asc {l : List En} {k : Nat} (hk : k < l.length) (h0 : k ≠ 0) (h : lessB (bs (l.getD (k - 1) en0).1) (bs l[k].1) = false) : entAt l k = false := by
  rw [entAt_eq hk, h, beq_eq_false_iff_ne.2 h0, Bool.or_false, Bool.and_false]
theorem entAt_ok {l : List En} {k : Nat} (hk : k < l.length) (h1 : wordV (bs l[k].1) = true) (h2 : pv l[k].2 = true) (h3 : k = 0 ∨ lessB (bs (l.getD (k - 1) en0).1) (bs l[k].1) = true) : entAt l k = true := by
  rw [entAt_eq hk, h1, h2]
  rcases h3 with h3 | h3
  · subst h3; rfl
  · rw [h3, Bool.or_true]; rfl
theorem FitE.at {l : List En} (h : FitE l) {k : Nat} (hk : k < l.length) : l[k].1.size ≤ 16777216 := h _ (by simp)
theorem prev_cellE {w : World} {b o : Nat} {l : List En} {k : Nat} (h : Sl w encE 2 (some ⟨b, o, none⟩) l) (hk : k < l.length) (h0 : k ≠ 0) : w.cell? ⟨b, o + (k - 1) * 2, none⟩ = some (.string (l.getD (k - 1) en0).1) := by
  obtain ⟨b', o', e, h', _⟩ := h.getE (k := k - 1) (by omega)
  injection e with e; injection e with e1 e2
  rw [e1, e2, getD_en (by omega)]; exact h'
theorem less_t {a b : ByteArray} {x : Bool} (h : lessB (bs a) (bs b) = x) : Op.bytesLess a.toList b.toList = x := by rw [less_tl]; exact h
set_option maxHeartbeats 4000000 in
set_option maxRecDepth 100000 in
theorem iEntriesValid_any (A : Option Addr) (c : Nat) (l : List En) (w : World) (hs : Sl w encE 2 A l) (hl : l.length ≤ 16777216) (hf : FitE l) :
    Calls Tryz.prog 76 #[.slice A l.length c] w fun e w' => e = .returned (.bool (entsV l)) ∧ Below w.heap.size w w' := by
  have HS := Lib.hid hs
  have HF := Lib.hid hf
  clear hs hf
  by_cases h40 : l.length ≤ 3
  case neg =>
    have E := Lib.hid (entsV_long h40)
    go_enter Tryz.func76, Tryz.ntmps76
    go_wp2
    go_ret
    exact ⟨ret_bool E.out.symm, Below.refl _ _⟩
  go_enter Tryz.func76, Tryz.ntmps76
  go_wp2
  go_loopw [10] (fun i wr => ∃ (k : Nat), k ≤ l.length ∧ i = .int .i64 k ∧ Hid (EntUpto l k) ∧ Hid (Below w.heap.size w wr)) (fun i _ => l.length - (intOf i).toNat)
  case atStart => exact ⟨0, Nat.zero_le _, rfl, EntUpto.zero l, Below.refl _ _⟩
  case round =>
    obtain ⟨k, hk, rfl, hh, HB⟩ := hrel
    by_cases hlt : k < l.length
    · have hsk := HS.out.below HB.out
      obtain ⟨b, o, rfl, hc0, hc1⟩ := hsk.getE hlt
      have hfk := HF.out.at hlt
      have hpv := @prev_cellE _ _ _ _ k hsk hlt
      have H1 := Lib.hid (fun h => entsV_bad hlt (entAt_word hlt h))
      have H2 := Lib.hid (fun h => entsV_bad hlt (entAt_pv hlt h))
      have H3 := Lib.hid (fun h0 h => entsV_bad hlt (entAt_asc hlt h0 h))
      have H4 := Lib.hid (fun h1 h2 h3 => hh.out.succ (entAt_ok hlt h1 h2 h3))
      have HB2 := Lib.hid (HB.out.alloc HB.out.size (.cells #[.string l[k].1, .int .i64 l[k].2] 70))
      have hx0 := new_cell (w := wr) (cs := #[.string l[k].1, .int .i64 l[k].2]) (E := 70) (k := 0) rfl
      have hx1 := new_cell (w := wr) (cs := #[.string l[k].1, .int .i64 l[k].2]) (E := 70) (k := 1) rfl
      clear hsk
      generalize (l.getD (k - 1) en0).1 = z at *
      generalize l[k] = p at *
      obtain ⟨t, a⟩ := p
      simp only at *
      have hTV := fun w => iWordValid_any t w hfk
      have hPV := fun w => iprintValid_any a w
      cases h1 : wordV (bs t)
      · have HE := Lib.hid (H1.out h1)
        rw [h1] at hTV
        have HTV := Lib.hid hTV
        clear hTV hPV h1 H1 H2 H3 H4 hpv hx0 hx1
        go_wp2_with (go_at_call 26; refine (HTV.out _).mono ?_; rintro e w' ⟨rfl, rfl⟩)
        go_ret
        exact ⟨ret_bool HE.out.symm, HB2.out⟩
      · rw [h1] at hTV
        have HTV := Lib.hid hTV
        clear hTV
        cases h2 : pv a
        · have HE := Lib.hid (H2.out h2)
          rw [h2] at hPV
          have HPV := Lib.hid hPV
          clear hPV h1 h2 H1 H2 H3 H4 hpv hx0 hx1
          go_wp2_with (first | (go_at_call 26; refine (HTV.out _).mono ?_; rintro e w' ⟨rfl, rfl⟩) | (go_at_call 101; refine (HPV.out _).mono ?_; rintro e w' ⟨rfl, rfl⟩))
          go_ret
          exact ⟨ret_bool HE.out.symm, HB2.out⟩
        · rw [h2] at hPV
          have HPV := Lib.hid hPV
          clear hPV
          replace hx0 := far_cell hx0
          by_cases h0 : k = 0
          · have HN := Lib.hid (H4.out h1 h2 (.inl h0))
            clear h1 h2 H1 H2 H3 H4 hpv hx1
            have hk0 : decide (0 < k) = false := decide_eq_false (by omega)
            clear h0
            go_wp2_with (first | (go_at_call 26; refine (HTV.out _).mono ?_; rintro e w' ⟨rfl, rfl⟩) | (go_at_call 101; refine (HPV.out _).mono ?_; rintro e w' ⟨rfl, rfl⟩))
            refine wp_region_far (by kernel_rfl) (by kernel_rfl) ?_
            repeat (go_big_quiet_step (fail))
            refine wpQuiet_nil ?_
            intro _ hwF
            obtain ⟨pF, hwF⟩ := hwF
            subst hwF
            have HB6 := Lib.hid (Below_then HB2.out (far_below _ pF) (Nat.le_refl _))
            generalize far _ pF = wG at *
            go_wp2
            go_roundw
            case rel => exact ⟨k + 1, by omega, by go_num, HN.out, HB6.out⟩
            case measure => simp [intOf]; omega
          · have hp1 := far_cell (cell_allocP (x := (.cells #[.string t, .int .i64 a] 70)) (hpv h0))
            have hk1 : 0 < k := by omega
            have hk2 : IntKind.i64.wrap ((k : Int) - 1) = (k : Int) - 1 := IntWalk.i64_in _ (by omega)
            have hk3 : (0 : Int) ≤ (k : Int) - 1 := by omega
            have hk4 : (k : Int) - 1 < (l.length : Int) := by omega
            have hk5 : ((k : Int) - 1).toNat = k - 1 := by omega
            cases h3 : lessB (bs z) (bs t)
            · have HE := Lib.hid (H3.out h0 h3)
              have h3' := less_t h3
              clear h1 h2 h3 H1 H2 H3 H4 hpv hx1
              go_wp2_with (first | (go_at_call 26; refine (HTV.out _).mono ?_; rintro e w' ⟨rfl, rfl⟩) | (go_at_call 101; refine (HPV.out _).mono ?_; rintro e w' ⟨rfl, rfl⟩))
              refine wp_region_far (by kernel_rfl) (by kernel_rfl) ?_
              repeat (go_big_quiet_step (fail))
              refine wpQuiet_nil ?_
              intro _ hwF
              obtain ⟨pF, hwF⟩ := hwF
              subst hwF
              have HB6 := Lib.hid (Below_then HB2.out (far_below _ pF) (Nat.le_refl _))
              clear hx0 hp1
              generalize far _ pF = wG at *
              go_wp2
              go_ret
              exact ⟨ret_bool HE.out.symm, HB6.out⟩
            · have HN := Lib.hid (H4.out h1 h2 (.inr h3))
              have h3' := less_t h3
              clear h1 h2 h3 H1 H2 H3 H4 hpv hx1
              go_wp2_with (first | (go_at_call 26; refine (HTV.out _).mono ?_; rintro e w' ⟨rfl, rfl⟩) | (go_at_call 101; refine (HPV.out _).mono ?_; rintro e w' ⟨rfl, rfl⟩))
              refine wp_region_far (by kernel_rfl) (by kernel_rfl) ?_
              repeat (go_big_quiet_step (fail))
              refine wpQuiet_nil ?_
              intro _ hwF
              obtain ⟨pF, hwF⟩ := hwF
              subst hwF
              have HB6 := Lib.hid (Below_then HB2.out (far_below _ pF) (Nat.le_refl _))
              clear hx0 hp1
              generalize far _ pF = wG at *
              go_wp2
              go_roundw
              case rel => exact ⟨k + 1, by omega, by go_num, HN.out, HB6.out⟩
              case measure => simp [intOf]; omega
    · have HE := Lib.hid (hh.out.done hlt h40)
      go_wp2
      go_ret
      exact ⟨ret_bool HE.out.symm, HB.out⟩
set_option maxHeartbeats 8000000 in
set_option maxRecDepth 100000 in
theorem sEntriesValid_any (A : Option Addr) (c : Nat) (l : List En) (w : World) (hs : Sl w encE 2 A l) (hl : l.length ≤ 16777216) (hf : FitE l) :
    Calls Tryz.prog 111 #[.slice A l.length c] w fun e w' => e = .returned (.bool (entsV l)) ∧ Below w.heap.size w w' := by
  have HS := Lib.hid hs
  have HF := Lib.hid hf
  clear hs hf
  go_enter Tryz.func111, Tryz.ntmps111
  go_wp2
  go_loopw [3] (fun i wr => ∃ (k : Nat), k ≤ l.length ∧ i = .int .i64 k ∧ Hid (EntUpto l k) ∧ Hid (Below w.heap.size w wr)) (fun i _ => l.length - (intOf i).toNat)
  case atStart => exact ⟨0, Nat.zero_le _, rfl, EntUpto.zero l, Below.refl _ _⟩
  case round =>
    obtain ⟨k, hk, rfl, hh, HB⟩ := hrel
    by_cases hlt : k < l.length
    · have hsk := HS.out.below HB.out
      obtain ⟨b, o, rfl, hc0, hc1⟩ := hsk.getE hlt
      have hfk := HF.out.at hlt
      have hpv := @prev_cellE _ _ _ _ k hsk hlt
      have H1 := Lib.hid (fun h => entsV_bad hlt (entAt_word hlt h))
      have H2 := Lib.hid (fun h => entsV_bad hlt (entAt_pv hlt h))
      have H3 := Lib.hid (fun h0 h => entsV_bad hlt (entAt_asc hlt h0 h))
      have H4 := Lib.hid (fun h1 h2 h3 => hh.out.succ (entAt_ok hlt h1 h2 h3))
      have hx0 := far_cell hc0
      have hx1 := far_cell hc1
      clear hsk hc0 hc1
      generalize (l.getD (k - 1) en0).1 = z at *
      generalize l[k] = p at *
      obtain ⟨t, a⟩ := p
      simp only at *
      have hTV := fun w => sWordValid_any t w hfk
      have hPV : ∀ w, Calls Tryz.prog 109 #[.int .i64 a, .int .i64 0, .int .i64 16777212] w fun e w' => e = .returned (.bool (pv a)) ∧ w = w' := fun w => sl1In_any a 0 16777212 w
      cases h1 : wordV (bs t)
      · have HE := Lib.hid (H1.out h1)
        rw [h1] at hTV
        have HTV := Lib.hid hTV
        clear hTV hPV h1 H1 H2 H3 H4 hpv
        go_wp2
        refine wp_region_far (by kernel_rfl) (by kernel_rfl) ?_
        repeat (go_big_quiet_step ((go_at_call 84; exact far_same (HTV.out _))))
        refine wpQuiet_nil ?_
        intro _ hwF
        obtain ⟨pF, hwF⟩ := hwF
        subst hwF
        have HB5 := Lib.hid (Below_then HB.out (far_below _ pF) (Nat.le_refl _))
        generalize far _ pF = wF at *
        go_wp2
        go_ret
        exact ⟨ret_bool HE.out.symm, HB5.out⟩
      · rw [h1] at hTV
        have HTV := Lib.hid hTV
        clear hTV
        cases h2 : pv a
        · have HE := Lib.hid (H2.out h2)
          rw [h2] at hPV
          have HPV := Lib.hid hPV
          clear hPV h1 h2 H1 H2 H3 H4 hpv
          go_wp2
          refine wp_region_far (by kernel_rfl) (by kernel_rfl) ?_
          repeat (go_big_quiet_step ((first | (go_at_call 84; exact far_same (HTV.out _)) | (go_at_call 109; exact far_same (HPV.out _)))))
          refine wpQuiet_nil ?_
          intro _ hwF
          obtain ⟨pF, hwF⟩ := hwF
          subst hwF
          have HB5 := Lib.hid (Below_then HB.out (far_below _ pF) (Nat.le_refl _))
          generalize far _ pF = wF at *
          go_wp2
          go_ret
          exact ⟨ret_bool HE.out.symm, HB5.out⟩
        · rw [h2] at hPV
          have HPV := Lib.hid hPV
          clear hPV
          by_cases h0 : k = 0
          · have HN := Lib.hid (H4.out h1 h2 (.inl h0))
            clear h1 h2 H1 H2 H3 H4 hpv
            have hk0 : decide (0 < k) = false := decide_eq_false (by omega)
            clear h0
            go_wp2
            refine wp_region_far (by kernel_rfl) (by kernel_rfl) ?_
            repeat (go_big_quiet_step ((first | (go_at_call 84; exact far_same (HTV.out _)) | (go_at_call 109; exact far_same (HPV.out _)))))
            refine wpQuiet_nil ?_
            intro _ hwF
            obtain ⟨pF, hwF⟩ := hwF
            subst hwF
            have HB5 := Lib.hid (Below_then HB.out (far_below _ pF) (Nat.le_refl _))
            generalize far _ pF = wF at *
            go_wp2
            go_roundw
            case rel => exact ⟨k + 1, by omega, by go_num, HN.out, HB5.out⟩
            case measure => simp [intOf]; omega
          · have hp1 := far_cell (hpv h0)
            have hk1 : 0 < k := by omega
            have hk2 : IntKind.i64.wrap ((k : Int) - 1) = (k : Int) - 1 := IntWalk.i64_in _ (by omega)
            have hk3 : (0 : Int) ≤ (k : Int) - 1 := by omega
            have hk4 : (k : Int) - 1 < (l.length : Int) := by omega
            have hk5 : ((k : Int) - 1).toNat = k - 1 := by omega
            cases h3 : lessB (bs z) (bs t)
            · have HE := Lib.hid (H3.out h0 h3)
              cases h4 : lessB (bs t) (bs z)
              · have e4 := less_t h4
                have e5 : (t.toList == z.toList) = true := by rw [eq_tl]; exact beq_iff_eq.2 (lessB_tri h4 h3)
                clear h1 h2 h3 h4 H1 H2 H3 H4 hpv
                go_wp2
                refine wp_region_far (by kernel_rfl) (by kernel_rfl) ?_
                repeat (go_big_quiet_step ((first | (go_at_call 84; exact far_same (HTV.out _)) | (go_at_call 109; exact far_same (HPV.out _)))))
                refine wpQuiet_nil ?_
                intro _ hwF
                obtain ⟨pF, hwF⟩ := hwF
                subst hwF
                have HB5 := Lib.hid (Below_then HB.out (far_below _ pF) (Nat.le_refl _))
                clear hx0 hx1 hp1
                generalize far _ pF = wF at *
                go_wp2
                go_ret
                exact ⟨ret_bool HE.out.symm, HB5.out⟩
              · have e4 := less_t h4
                clear h1 h2 h3 h4 H1 H2 H3 H4 hpv
                go_wp2
                refine wp_region_far (by kernel_rfl) (by kernel_rfl) ?_
                repeat (go_big_quiet_step ((first | (go_at_call 84; exact far_same (HTV.out _)) | (go_at_call 109; exact far_same (HPV.out _)))))
                refine wpQuiet_nil ?_
                intro _ hwF
                obtain ⟨pF, hwF⟩ := hwF
                subst hwF
                have HB5 := Lib.hid (Below_then HB.out (far_below _ pF) (Nat.le_refl _))
                clear hx0 hx1 hp1
                generalize far _ pF = wF at *
                go_wp2
                go_ret
                exact ⟨ret_bool HE.out.symm, HB5.out⟩
            · have HN := Lib.hid (H4.out h1 h2 (.inr h3))
              have e4 := less_t (lessB_asymm h3)
              have e5 : (t.toList == z.toList) = false := by rw [eq_tl, beq_eq_false_iff_ne]; intro e; have h3' : lessB (tx z) (tx t) = true := h3; rw [e, lessB_irrefl] at h3'; cases h3'
              clear h1 h2 h3 H1 H2 H3 H4 hpv
              go_wp2
              refine wp_region_far (by kernel_rfl) (by kernel_rfl) ?_
              repeat (go_big_quiet_step ((first | (go_at_call 84; exact far_same (HTV.out _)) | (go_at_call 109; exact far_same (HPV.out _)))))
              refine wpQuiet_nil ?_
              intro _ hwF
              obtain ⟨pF, hwF⟩ := hwF
              subst hwF
              have HB5 := Lib.hid (Below_then HB.out (far_below _ pF) (Nat.le_refl _))
              clear hx0 hx1 hp1
              generalize far _ pF = wF at *
              go_wp2
              go_roundw
              case rel => exact ⟨k + 1, by omega, by go_num, HN.out, HB5.out⟩
              case measure => simp [intOf]; omega
    · have HD := Lib.hid (fun h40 => hh.out.done hlt h40)
      have HL := Lib.hid (@entsV_long l)
      by_cases h40 : l.length ≤ 3
      · have HE := Lib.hid (HD.out h40)
        go_wp2
        go_ret
        exact ⟨ret_bool (by rw [HE.out]; simp; omega), HB.out⟩
      · have HE := Lib.hid (HL.out h40)
        go_wp2
        go_ret
        exact ⟨ret_bool (by rw [HE.out]; simp; omega), HB.out⟩
end Go.Proofs.YtokelopllbaikaaGreatDoor
