/- StoreValid, BundlePrint, walked. -/
import Derived.Test.YtokelopllbaikaaGreatDoorGa0
import Derived.Test.YtokelopllbaikaaGreatDoorGa3
import Derived.Test.YtokelopllbaikaaGreatDoorGa6
import Derived.Test.YtokelopllbaikaaGreatDoorGa8
set_option linter.unusedVariables false
namespace Go.Proofs.YtokelopllbaikaaGreatDoor
open Go.RowKit

theorem storeAt_eq {l : List Pc} {k : Nat} (hk : k < l.length) : storeAt l k = ((textV (bs l[k].2) && (prOf (bs l[k].2) == l[k].1)) && (k == 0 || decide ((l.getD (k - 1) pc0).1 < l[k].1))) := by
  unfold storeAt pieceOk; rw [getD_pc hk]
theorem storeAt_txt {l : List Pc} {k : Nat} (hk : k < l.length) (h : textV (bs l[k].2) = false) : storeAt l k = false := by rw [storeAt_eq hk, h]; rfl
theorem storeAt_pr {l : List Pc} {k : Nat} (hk : k < l.length) (h : ¬ prOf (bs l[k].2) = l[k].1) : storeAt l k = false := by
  rw [storeAt_eq hk, (show (prOf (bs l[k].2) == l[k].1) = false by simpa using h), Bool.and_false]; rfl
theorem storeAt_asc {l : List Pc} {k : Nat} (hk : k < l.length) (h0 : k ≠ 0) (h : ¬ (l.getD (k - 1) pc0).1 < l[k].1) : storeAt l k = false := by
  rw [storeAt_eq hk, decide_eq_false h, (show (k == 0) = false by simpa using h0), Bool.or_false, Bool.and_false]
theorem storeAt_ok {l : List Pc} {k : Nat} (hk : k < l.length) (h1 : textV (bs l[k].2) = true) (h2 : prOf (bs l[k].2) = l[k].1) (h3 : k = 0 ∨ (l.getD (k - 1) pc0).1 < l[k].1) : storeAt l k = true := by
  rw [storeAt_eq hk, h1, (show (prOf (bs l[k].2) == l[k].1) = true by simpa using h2)]
  rcases h3 with h3 | h3
  · subst h3; rfl
  · rw [decide_eq_true h3, Bool.or_true]; rfl
theorem cell_allocP {u : Value} {w : World} {x : Obj} {a : Addr} (hc : w.cell? a = some u) : (w.alloc x).cell? a = some u :=
  (World.cell?_alloc_lt w x a (World.block_lt_of_cell? w _ hc)).trans hc
/-- The cell of the piece before. -/
theorem prev_cell {w : World} {b o : Nat} {l : List Pc} {k : Nat} (h : Sl w encP 2 (some ⟨b, o, none⟩) l) (hk : k < l.length) (h0 : k ≠ 0) : w.cell? ⟨b, o + (k - 1) * 2, none⟩ = some (.int .i64 (l.getD (k - 1) pc0).1) := by
  obtain ⟨b', o', e, h', _⟩ := h.getP (k := k - 1) (by omega)
  injection e with e; injection e with e1 e2
  rw [e1, e2, getD_pc (by omega)]; exact h'
set_option maxHeartbeats 4000000 in
set_option maxRecDepth 100000 in
theorem iStoreValid_any (A : Option Addr) (c : Nat) (l : List Pc) (w : World) (hs : Sl w encP 2 A l) (hl : l.length ≤ 16777216) (hf : FitP l) :
    Calls Tryz.prog 7 #[.slice A l.length c] w fun e w' => e = .returned (.bool (storeV l)) ∧ Below w.heap.size w w' := by
  have HS := Lib.hid hs
  have HF := Lib.hid hf
  clear hs hf
  by_cases h40 : l.length ≤ 40
  case neg =>
    have E := Lib.hid (storeV_long h40)
    go_enter Tryz.func7, Tryz.ntmps7
    go_wp2
    go_ret
    exact ⟨ret_bool E.out.symm, Below.refl _ _⟩
  go_enter Tryz.func7, Tryz.ntmps7
  go_wp2
  go_loopw [10] (fun i wr => ∃ (k : Nat), k ≤ l.length ∧ i = .int .i64 k ∧ Hid (StoreUpto l k) ∧ Hid (Below w.heap.size w wr)) (fun i _ => l.length - (intOf i).toNat)
  case atStart => exact ⟨0, Nat.zero_le _, rfl, StoreUpto.zero l, Below.refl _ _⟩
  case round =>
    obtain ⟨k, hk, rfl, hh, HB⟩ := hrel
    by_cases hlt : k < l.length
    · have hsk := HS.out.below HB.out
      obtain ⟨b, o, rfl, hc0, hc1⟩ := hsk.getP hlt
      have hfk := HF.out.at hlt
      have hpv := @prev_cell _ _ _ _ k hsk hlt
      have H1 := Lib.hid (fun h => storeV_bad hlt (storeAt_txt hlt h))
      have H2 := Lib.hid (fun h => storeV_bad hlt (storeAt_pr hlt h))
      have H3 := Lib.hid (fun h0 h => storeV_bad hlt (storeAt_asc hlt h0 h))
      have H4 := Lib.hid (fun h1 h2 h3 => hh.out.succ (storeAt_ok hlt h1 h2 h3))
      have HB2 := Lib.hid (HB.out.alloc HB.out.size (.cells #[.int .i64 l[k].1, .string l[k].2] 38))
      have hx0 := far_cell (new_cell (w := wr) (cs := #[.int .i64 l[k].1, .string l[k].2]) (E := 38) (k := 0) rfl)
      have hx1 := far_cell (new_cell (w := wr) (cs := #[.int .i64 l[k].1, .string l[k].2]) (E := 38) (k := 1) rfl)
      clear hsk
      generalize (l.getD (k - 1) pc0).1 = z at *
      generalize l[k] = p at *
      obtain ⟨a, t⟩ := p
      simp only at *
      have hTV := fun w => iTextValid_any t w hfk
      cases h1 : textV (bs t)
      · have HE := Lib.hid (H1.out h1)
        rw [h1] at hTV
        have HTV := Lib.hid hTV
        clear hTV h1 H1 H2 H3 H4 hpv
        go_wp2
        refine wp_region_far (by kernel_rfl) (by kernel_rfl) ?_
        repeat (go_big_quiet_step ((go_at_call 16; exact far_same (HTV.out _))))
        refine wpQuiet_nil ?_
        intro _ hwF
        obtain ⟨pF, hwF⟩ := hwF
        subst hwF
        have HB5 := Lib.hid (Below_then HB2.out (far_below _ pF) (Nat.le_refl _))
        generalize far _ pF = wF at *
        go_wp2
        go_ret
        exact ⟨ret_bool HE.out.symm, HB5.out⟩
      · rw [h1] at hTV
        have HTV := Lib.hid hTV
        have hPO := fun w => iPrintOf_any t w hfk
        generalize hq : prOf (bs t) = q at *
        have HPO := Lib.hid hPO
        clear hTV hPO
        by_cases h2 : q = a
        · subst h2
          have hq2 : (q != q) = false := by simp
          by_cases h0 : k = 0
          · have HN := Lib.hid (H4.out h1 rfl (.inl h0))
            clear H1 H2 H3 H4 hpv
            have hk0 : decide (0 < k) = false := decide_eq_false (by omega)
            clear h0
            go_wp2
            refine wp_region_far (by kernel_rfl) (by kernel_rfl) ?_
            repeat (go_big_quiet_step ((first | (go_at_call 16; exact far_same (HTV.out _)) | (go_at_call 17; exact far_same (HPO.out _)))))
            refine wpQuiet_nil ?_
            intro _ hwF
            obtain ⟨pF, hwF⟩ := hwF
            subst hwF
            have HB5 := Lib.hid (Below_then HB2.out (far_below _ pF) (Nat.le_refl _))
            generalize far _ pF = wF at *
            go_wp2
            refine wp_region_far (by kernel_rfl) (by kernel_rfl) ?_
            repeat (go_big_quiet_step (fail))
            refine wpQuiet_nil ?_
            intro _ hwF
            obtain ⟨pF, hwF⟩ := hwF
            subst hwF
            have HB6 := Lib.hid (Below_then HB5.out (far_below _ pF) (Nat.le_refl _))
            generalize far _ pF = wG at *
            go_wp2
            go_roundw
            case rel => exact ⟨k + 1, by omega, by go_num, HN.out, HB6.out⟩
            case measure => simp [intOf]; omega
          · have hp1 := far_cell (cell_allocP (x := (.cells #[.int .i64 q, .string t] 38)) (hpv h0))
            have hk1 : 0 < k := by omega
            have hk2 : IntKind.i64.wrap ((k : Int) - 1) = (k : Int) - 1 := IntWalk.i64_in _ (by omega)
            have hk3 : (0 : Int) ≤ (k : Int) - 1 := by omega
            have hk4 : (k : Int) - 1 < (l.length : Int) := by omega
            have hk5 : ((k : Int) - 1).toNat = k - 1 := by omega
            by_cases h3 : z < q
            · have HN := Lib.hid (H4.out h1 rfl (.inr h3))
              clear H1 H2 H3 H4 hpv
              go_wp2
              refine wp_region_far (by kernel_rfl) (by kernel_rfl) ?_
              repeat (go_big_quiet_step ((first | (go_at_call 16; exact far_same (HTV.out _)) | (go_at_call 17; exact far_same (HPO.out _)))))
              refine wpQuiet_nil ?_
              intro _ hwF
              obtain ⟨pF, hwF⟩ := hwF
              subst hwF
              have HB5 := Lib.hid (Below_then HB2.out (far_below _ pF) (Nat.le_refl _))
              have hy0 := far_cell (hx0 pF)
              have hy1 := far_cell (hp1 pF)
              clear hx0 hx1 hp1
              generalize far _ pF = wF at *
              go_wp2
              refine wp_region_far (by kernel_rfl) (by kernel_rfl) ?_
              repeat (go_big_quiet_step (fail))
              refine wpQuiet_nil ?_
              intro _ hwF
              obtain ⟨pF, hwF⟩ := hwF
              subst hwF
              have HB6 := Lib.hid (Below_then HB5.out (far_below _ pF) (Nat.le_refl _))
              clear hy0 hy1
              generalize far _ pF = wG at *
              go_wp2
              go_roundw
              case rel => exact ⟨k + 1, by omega, by go_num, HN.out, HB6.out⟩
              case measure => simp [intOf]; omega
            · have HE := Lib.hid (H3.out h0 h3)
              clear H1 H2 H3 H4 hpv
              go_wp2
              refine wp_region_far (by kernel_rfl) (by kernel_rfl) ?_
              repeat (go_big_quiet_step ((first | (go_at_call 16; exact far_same (HTV.out _)) | (go_at_call 17; exact far_same (HPO.out _)))))
              refine wpQuiet_nil ?_
              intro _ hwF
              obtain ⟨pF, hwF⟩ := hwF
              subst hwF
              have HB5 := Lib.hid (Below_then HB2.out (far_below _ pF) (Nat.le_refl _))
              have hy0 := far_cell (hx0 pF)
              have hy1 := far_cell (hp1 pF)
              clear hx0 hx1 hp1
              generalize far _ pF = wF at *
              go_wp2
              refine wp_region_far (by kernel_rfl) (by kernel_rfl) ?_
              repeat (go_big_quiet_step (fail))
              refine wpQuiet_nil ?_
              intro _ hwF
              obtain ⟨pF, hwF⟩ := hwF
              subst hwF
              have HB6 := Lib.hid (Below_then HB5.out (far_below _ pF) (Nat.le_refl _))
              clear hy0 hy1
              generalize far _ pF = wG at *
              go_wp2
              go_ret
              exact ⟨ret_bool HE.out.symm, HB6.out⟩
        · have HE := Lib.hid (H2.out h2)
          have hq2 : (a != q) = true := by simpa using fun e => h2 e.symm
          clear H1 H2 H3 H4 hpv
          go_wp2
          refine wp_region_far (by kernel_rfl) (by kernel_rfl) ?_
          repeat (go_big_quiet_step ((first | (go_at_call 16; exact far_same (HTV.out _)) | (go_at_call 17; exact far_same (HPO.out _)))))
          refine wpQuiet_nil ?_
          intro _ hwF
          obtain ⟨pF, hwF⟩ := hwF
          subst hwF
          have HB5 := Lib.hid (Below_then HB2.out (far_below _ pF) (Nat.le_refl _))
          generalize far _ pF = wF at *
          go_wp2
          go_ret
          exact ⟨ret_bool HE.out.symm, HB5.out⟩
    · have HE := Lib.hid (hh.out.done hlt h40)
      go_wp2
      go_ret
      exact ⟨ret_bool HE.out.symm, HB.out⟩
set_option maxHeartbeats 8000000 in
set_option maxRecDepth 100000 in
theorem sStoreValid_any (A : Option Addr) (c : Nat) (l : List Pc) (w : World) (hs : Sl w encP 2 A l) (hl : l.length ≤ 16777216) (hf : FitP l) :
    Calls Tryz.prog 31 #[.slice A l.length c] w fun e w' => e = .returned (.bool (storeV l)) ∧ Below w.heap.size w w' := by
  have HS := Lib.hid hs
  have HF := Lib.hid hf
  clear hs hf
  go_enter Tryz.func31, Tryz.ntmps31
  go_wp2
  go_loopw [3] (fun i wr => ∃ (k : Nat), k ≤ l.length ∧ i = .int .i64 k ∧ Hid (StoreUpto l k) ∧ Hid (Below w.heap.size w wr)) (fun i _ => l.length - (intOf i).toNat)
  case atStart => exact ⟨0, Nat.zero_le _, rfl, StoreUpto.zero l, Below.refl _ _⟩
  case round =>
    obtain ⟨k, hk, rfl, hh, HB⟩ := hrel
    by_cases hlt : k < l.length
    · have hsk := HS.out.below HB.out
      obtain ⟨b, o, rfl, hc0, hc1⟩ := hsk.getP hlt
      have hfk := HF.out.at hlt
      have hpv := @prev_cell _ _ _ _ k hsk hlt
      have H1 := Lib.hid (fun h => storeV_bad hlt (storeAt_txt hlt h))
      have H2 := Lib.hid (fun h => storeV_bad hlt (storeAt_pr hlt h))
      have H3 := Lib.hid (fun h0 h => storeV_bad hlt (storeAt_asc hlt h0 h))
      have H4 := Lib.hid (fun h1 h2 h3 => hh.out.succ (storeAt_ok hlt h1 h2 h3))
      have hx0 := far_cell hc0
      have hx1 := far_cell hc1
      clear hsk hc0 hc1
      generalize (l.getD (k - 1) pc0).1 = z at *
      generalize l[k] = p at *
      obtain ⟨a, t⟩ := p
      simp only at *
      have hTV := fun w => sTextValid_any t w hfk
      cases h1 : textV (bs t)
      · have HE := Lib.hid (H1.out h1)
        rw [h1] at hTV
        have HTV := Lib.hid hTV
        clear hTV h1 H1 H2 H3 H4 hpv
        go_wp2
        refine wp_region_far (by kernel_rfl) (by kernel_rfl) ?_
        repeat (go_big_quiet_step ((go_at_call 58; exact far_same (HTV.out _))))
        refine wpQuiet_nil ?_
        intro _ hwF
        obtain ⟨pF, hwF⟩ := hwF
        subst hwF
        have HB5 := Lib.hid (Below_then HB.out (far_below _ pF) (Nat.le_refl _))
        generalize far _ pF = wF at *
        go_wp2
        go_ret
        exact ⟨ret_bool HE.out.symm, HB5.out⟩
      · rw [h1] at hTV
        have HTV := Lib.hid hTV
        have hPO := fun w => sPrintOf_any t w hfk
        generalize hq : prOf (bs t) = q at *
        have HPO := Lib.hid hPO
        clear hTV hPO
        by_cases h2 : q = a
        · subst h2
          by_cases h0 : k = 0
          · have HN := Lib.hid (H4.out h1 rfl (.inl h0))
            clear H1 H2 H3 H4 hpv
            have hk0 : decide (0 < k) = false := decide_eq_false (by omega)
            clear h0
            go_wp2
            refine wp_region_far (by kernel_rfl) (by kernel_rfl) ?_
            repeat (go_big_quiet_step ((first | (go_at_call 58; exact far_same (HTV.out _)) | (go_at_call 59; exact far_same (HPO.out _)))))
            refine wpQuiet_nil ?_
            intro _ hwF
            obtain ⟨pF, hwF⟩ := hwF
            subst hwF
            have HB5 := Lib.hid (Below_then HB.out (far_below _ pF) (Nat.le_refl _))
            generalize far _ pF = wF at *
            go_wp2
            go_roundw
            case rel => exact ⟨k + 1, by omega, by go_num, HN.out, HB5.out⟩
            case measure => simp [intOf]; omega
          · have hp1 := far_cell (hpv h0)
            have hk1 : 0 < k := by omega
            have hk2 : IntKind.i64.wrap ((k : Int) - 1) = (k : Int) - 1 := IntWalk.i64_in _ (by omega)
            have hk3 : (0 : Int) ≤ (k : Int) - 1 := by omega
            have hk4 : (k : Int) - 1 < (l.length : Int) := by omega
            have hk5 : ((k : Int) - 1).toNat = k - 1 := by omega
            by_cases h3 : z < q
            · have HN := Lib.hid (H4.out h1 rfl (.inr h3))
              clear H1 H2 H3 H4 hpv
              go_wp2
              refine wp_region_far (by kernel_rfl) (by kernel_rfl) ?_
              repeat (go_big_quiet_step ((first | (go_at_call 58; exact far_same (HTV.out _)) | (go_at_call 59; exact far_same (HPO.out _)))))
              refine wpQuiet_nil ?_
              intro _ hwF
              obtain ⟨pF, hwF⟩ := hwF
              subst hwF
              have HB5 := Lib.hid (Below_then HB.out (far_below _ pF) (Nat.le_refl _))
              clear hx0 hx1 hp1
              generalize far _ pF = wF at *
              go_wp2
              go_roundw
              case rel => exact ⟨k + 1, by omega, by go_num, HN.out, HB5.out⟩
              case measure => simp [intOf]; omega
            · have HE := Lib.hid (H3.out h0 h3)
              clear H1 H2 H3 H4 hpv
              go_wp2
              refine wp_region_far (by kernel_rfl) (by kernel_rfl) ?_
              repeat (go_big_quiet_step ((first | (go_at_call 58; exact far_same (HTV.out _)) | (go_at_call 59; exact far_same (HPO.out _)))))
              refine wpQuiet_nil ?_
              intro _ hwF
              obtain ⟨pF, hwF⟩ := hwF
              subst hwF
              have HB5 := Lib.hid (Below_then HB.out (far_below _ pF) (Nat.le_refl _))
              clear hx0 hx1 hp1
              generalize far _ pF = wF at *
              go_wp2
              go_ret
              exact ⟨ret_bool HE.out.symm, HB5.out⟩
        · have HE := Lib.hid (H2.out h2)
          have hq2 : (q != a) = true := by simpa using h2
          clear H1 H2 H3 H4 hpv
          go_wp2
          refine wp_region_far (by kernel_rfl) (by kernel_rfl) ?_
          repeat (go_big_quiet_step ((first | (go_at_call 58; exact far_same (HTV.out _)) | (go_at_call 59; exact far_same (HPO.out _)))))
          refine wpQuiet_nil ?_
          intro _ hwF
          obtain ⟨pF, hwF⟩ := hwF
          subst hwF
          have HB5 := Lib.hid (Below_then HB.out (far_below _ pF) (Nat.le_refl _))
          generalize far _ pF = wF at *
          go_wp2
          go_ret
          exact ⟨ret_bool HE.out.symm, HB5.out⟩
    · have HD := Lib.hid (fun h40 => hh.out.done hlt h40)
      have HL := Lib.hid (@storeV_long l)
      by_cases h40 : l.length ≤ 40
      · have HE := Lib.hid (HD.out h40)
        go_wp2
        go_ret
        exact ⟨ret_bool (by rw [HE.out]; simp; omega), HB.out⟩
      · have HE := Lib.hid (HL.out h40)
        go_wp2
        go_ret
        exact ⟨ret_bool (by rw [HE.out]; simp; omega), HB.out⟩
end Go.Proofs.YtokelopllbaikaaGreatDoor
