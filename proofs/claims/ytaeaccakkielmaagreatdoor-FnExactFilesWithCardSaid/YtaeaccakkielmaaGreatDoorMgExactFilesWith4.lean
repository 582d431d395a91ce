/- Written by merge.py: Ev, Co, In, Bs, Pt, Inv, Ap3, Ps, Ft, Rg, Pj, Pk, Pb, Rj, Gt, Fl. -/
import Derived.Laws.CopyRow
import Derived.Laws.IdiomCopy
import Derived.Lib.AppendZerosOnto
import Derived.Lib.Overlaps
import Derived.Shelf.Spec.SlicesInsert
import Derived.Laws.CopyOwn
import Derived.Shelf.Abstract
import Derived.Maps.AppendAt
import Derived.Lib.Join
import Derived.Deep.RegionHeld3
import Derived.Test.YtaeaccakkielmaaGreatDoorMgExactFilesWith3
/- EntriesValid and FolderText, walked. -/
set_option linter.unusedVariables false
namespace Go.Proofs.YtaeaccakkielmaaGreatDoor
open Go.RowKit
theorem entAt_eq {l : List En} {k : Nat} (hk : k < l.length) : entAt l k = ((wordV (bs l[k].1) && pv l[k].2) && (k == 0 || lessB (bs (l.getD (k - 1) en0).1) (bs l[k].1))) := by
  unfold entAt entOk; rw [getD_en hk]
theorem entAt_word {l : List En} {k : Nat} (hk : k < l.length) (h : wordV (bs l[k].1) = false) : entAt l k = false := by rw [entAt_eq hk, h]; rfl
theorem entAt_pv {l : List En} {k : Nat} (hk : k < l.length) (h : pv l[k].2 = false) : entAt l k = false := by rw [entAt_eq hk, h, Bool.and_false]; rfl
theorem entAt_asc {l : List En} {k : Nat} (hk : k < l.length) (h0 : k ≠ 0) (h : lessB (bs (l.getD (k - 1) en0).1) (bs l[k].1) = false) : entAt l k = false := by
  rw [entAt_eq hk, h, beq_eq_false_iff_ne.2 h0, Bool.or_false, Bool.and_false]
theorem entAt_ok {l : List En} {k : Nat} (hk : k < l.length) (h1 : wordV (bs l[k].1) = true) (h2 : pv l[k].2 = true) (h3 : k = 0 ∨ lessB (bs (l.getD (k - 1) en0).1) (bs l[k].1) = true) : entAt l k = true := by
  rw [entAt_eq hk, h1, h2]
  rcases h3 with h3 | h3
  · subst h3; rfl
  · rw [h3, Bool.or_true]; rfl
theorem FitE.at {l : List En} (h : FitE l) {k : Nat} (hk : k < l.length) : l[k].1.size ≤ 16777216 := h _ (by simp)
theorem prev_cellE {w : World} {b o : Nat} {l : List En} {k : Nat} (h : Sl w encE 2 (some ⟨b, o, none⟩) l) (hk : k < l.length) (h0 : k ≠ 0) : w.cell? ⟨b, o + (k - 1) * 2, none⟩ = some (.string (l.getD (k - 1) en0).1) := by
  obtain ⟨b', o', e, h', _⟩ := h.getE (k := k - 1) (by omega)
  injection e with e; injection e with e1 e2
  rw [e1, e2, getD_en (by omega)]; exact h'
theorem less_t {a b : ByteArray} {x : Bool} (h : lessB (bs a) (bs b) = x) : Op.bytesLess a.toList b.toList = x := by rw [less_tl]; exact h
set_option maxHeartbeats 4000000 in
set_option maxRecDepth 100000 in
theorem iEntriesValid_any (A : Option Addr) (c : Nat) (l : List En) (w : World) (hs : Sl w encE 2 A l) (hl : l.length ≤ 16777216) (hf : FitE l) :
    Calls Tryz.prog 119 #[.slice A l.length c] w fun e w' => e = .returned (.bool (entsV l)) ∧ Below w.heap.size w w' := by
  have HS := Lib.hid hs
  have HF := Lib.hid hf
  clear hs hf
  by_cases h40 : l.length ≤ 3
  case neg =>
    have E := Lib.hid (entsV_long h40)
    go_enter Tryz.func119, Tryz.ntmps119
    go_wp2
    go_ret
    exact ⟨ret_bool E.out.symm, Below.refl _ _⟩
  go_enter Tryz.func119, Tryz.ntmps119
  go_wp2
  go_loopw [10] (fun i wr => ∃ (k : Nat), k ≤ l.length ∧ i = .int .i64 k ∧ Hid (EntUpto l k) ∧ Hid (Below w.heap.size w wr)) (fun i _ => l.length - (intOf i).toNat)
  case atStart => exact ⟨0, Nat.zero_le _, rfl, EntUpto.zero l, Below.refl _ _⟩
  case round =>
    obtain ⟨k, hk, rfl, hh, HB⟩ := hrel
    by_cases hlt : k < l.length
    · have hsk := HS.out.below HB.out
      obtain ⟨b, o, rfl, hc0, hc1⟩ := hsk.getE hlt
      have hfk := HF.out.at hlt
      have hpv := @prev_cellE _ _ _ _ k hsk hlt
      have H1 := Lib.hid (fun h => entsV_bad hlt (entAt_word hlt h))
      have H2 := Lib.hid (fun h => entsV_bad hlt (entAt_pv hlt h))
      have H3 := Lib.hid (fun h0 h => entsV_bad hlt (entAt_asc hlt h0 h))
      have H4 := Lib.hid (fun h1 h2 h3 => hh.out.succ (entAt_ok hlt h1 h2 h3))
      have HB2 := Lib.hid (HB.out.alloc HB.out.size (.cells #[.string l[k].1, .int .i64 l[k].2] 83))
      have hx0 := new_cell (w := wr) (cs := #[.string l[k].1, .int .i64 l[k].2]) (E := 83) (k := 0) rfl
      have hx1 := new_cell (w := wr) (cs := #[.string l[k].1, .int .i64 l[k].2]) (E := 83) (k := 1) rfl
      clear hsk
      generalize (l.getD (k - 1) en0).1 = z at *
      generalize l[k] = p at *
      obtain ⟨t, a⟩ := p
      simp only at *
      have hTV := fun w => iWordValid_any t w hfk
      have hPV := fun w => iprintValid_any a w
      cases h1 : wordV (bs t)
      · have HE := Lib.hid (H1.out h1)
        rw [h1] at hTV
        have HTV := Lib.hid hTV
        clear hTV hPV h1 H1 H2 H3 H4 hpv hx0 hx1
        go_wp2_with (go_at_call 64; refine (HTV.out _).mono ?_; rintro e w' ⟨rfl, rfl⟩)
        go_ret
        exact ⟨ret_bool HE.out.symm, HB2.out⟩
      · rw [h1] at hTV
        have HTV := Lib.hid hTV
        clear hTV
        cases h2 : pv a
        · have HE := Lib.hid (H2.out h2)
          rw [h2] at hPV
          have HPV := Lib.hid hPV
          clear hPV h1 h2 H1 H2 H3 H4 hpv hx0 hx1
          go_wp2_with (first | (go_at_call 64; refine (HTV.out _).mono ?_; rintro e w' ⟨rfl, rfl⟩) | (go_at_call 124; refine (HPV.out _).mono ?_; rintro e w' ⟨rfl, rfl⟩))
          go_ret
          exact ⟨ret_bool HE.out.symm, HB2.out⟩
        · rw [h2] at hPV
          have HPV := Lib.hid hPV
          clear hPV
          replace hx0 := far_cell hx0
          by_cases h0 : k = 0
          · have HN := Lib.hid (H4.out h1 h2 (.inl h0))
            clear h1 h2 H1 H2 H3 H4 hpv hx1
            have hk0 : decide (0 < k) = false := decide_eq_false (by omega)
            clear h0
            go_wp2_with (first | (go_at_call 64; refine (HTV.out _).mono ?_; rintro e w' ⟨rfl, rfl⟩) | (go_at_call 124; refine (HPV.out _).mono ?_; rintro e w' ⟨rfl, rfl⟩))
            refine wp_region_far (by kernel_rfl) (by kernel_rfl) ?_
            repeat (go_big_quiet_step (fail))
            refine wpQuiet_nil ?_
            intro _ hwF
            obtain ⟨pF, hwF⟩ := hwF
            subst hwF
            have HB6 := Lib.hid (Below_then HB2.out (far_below _ pF) (Nat.le_refl _))
            generalize far _ pF = wG at *
            go_wp2
            go_roundw
            case rel => exact ⟨k + 1, by omega, by go_num, HN.out, HB6.out⟩
            case measure => simp [intOf]; omega
          · have hp1 := far_cell (cell_allocP (x := (.cells #[.string t, .int .i64 a] 83)) (hpv h0))
            have hk1 : 0 < k := by omega
            have hk2 : IntKind.i64.wrap ((k : Int) - 1) = (k : Int) - 1 := IntWalk.i64_in _ (by omega)
            have hk3 : (0 : Int) ≤ (k : Int) - 1 := by omega
            have hk4 : (k : Int) - 1 < (l.length : Int) := by omega
            have hk5 : ((k : Int) - 1).toNat = k - 1 := by omega
            cases h3 : lessB (bs z) (bs t)
            · have HE := Lib.hid (H3.out h0 h3)
              have h3' := less_t h3
              clear h1 h2 h3 H1 H2 H3 H4 hpv hx1
              go_wp2_with (first | (go_at_call 64; refine (HTV.out _).mono ?_; rintro e w' ⟨rfl, rfl⟩) | (go_at_call 124; refine (HPV.out _).mono ?_; rintro e w' ⟨rfl, rfl⟩))
              refine wp_region_far (by kernel_rfl) (by kernel_rfl) ?_
              repeat (go_big_quiet_step (fail))
              refine wpQuiet_nil ?_
              intro _ hwF
              obtain ⟨pF, hwF⟩ := hwF
              subst hwF
              have HB6 := Lib.hid (Below_then HB2.out (far_below _ pF) (Nat.le_refl _))
              clear hx0 hp1
              generalize far _ pF = wG at *
              go_wp2
              go_ret
              exact ⟨ret_bool HE.out.symm, HB6.out⟩
            · have HN := Lib.hid (H4.out h1 h2 (.inr h3))
              have h3' := less_t h3
              clear h1 h2 h3 H1 H2 H3 H4 hpv hx1
              go_wp2_with (first | (go_at_call 64; refine (HTV.out _).mono ?_; rintro e w' ⟨rfl, rfl⟩) | (go_at_call 124; refine (HPV.out _).mono ?_; rintro e w' ⟨rfl, rfl⟩))
              refine wp_region_far (by kernel_rfl) (by kernel_rfl) ?_
              repeat (go_big_quiet_step (fail))
              refine wpQuiet_nil ?_
              intro _ hwF
              obtain ⟨pF, hwF⟩ := hwF
              subst hwF
              have HB6 := Lib.hid (Below_then HB2.out (far_below _ pF) (Nat.le_refl _))
              clear hx0 hp1
              generalize far _ pF = wG at *
              go_wp2
              go_roundw
              case rel => exact ⟨k + 1, by omega, by go_num, HN.out, HB6.out⟩
              case measure => simp [intOf]; omega
    · have HE := Lib.hid (hh.out.done hlt h40)
      go_wp2
      go_ret
      exact ⟨ret_bool HE.out.symm, HB.out⟩
set_option maxHeartbeats 8000000 in
set_option maxRecDepth 100000 in
theorem sEntriesValid_any (A : Option Addr) (c : Nat) (l : List En) (w : World) (hs : Sl w encE 2 A l) (hl : l.length ≤ 16777216) (hf : FitE l) :
    Calls Tryz.prog 94 #[.slice A l.length c] w fun e w' => e = .returned (.bool (entsV l)) ∧ Below w.heap.size w w' := by
  have HS := Lib.hid hs
  have HF := Lib.hid hf
  clear hs hf
  go_enter Tryz.func94, Tryz.ntmps94
  go_wp2
  go_loopw [3] (fun i wr => ∃ (k : Nat), k ≤ l.length ∧ i = .int .i64 k ∧ Hid (EntUpto l k) ∧ Hid (Below w.heap.size w wr)) (fun i _ => l.length - (intOf i).toNat)
  case atStart => exact ⟨0, Nat.zero_le _, rfl, EntUpto.zero l, Below.refl _ _⟩
  case round =>
    obtain ⟨k, hk, rfl, hh, HB⟩ := hrel
    by_cases hlt : k < l.length
    · have hsk := HS.out.below HB.out
      obtain ⟨b, o, rfl, hc0, hc1⟩ := hsk.getE hlt
      have hfk := HF.out.at hlt
      have hpv := @prev_cellE _ _ _ _ k hsk hlt
      have H1 := Lib.hid (fun h => entsV_bad hlt (entAt_word hlt h))
      have H2 := Lib.hid (fun h => entsV_bad hlt (entAt_pv hlt h))
      have H3 := Lib.hid (fun h0 h => entsV_bad hlt (entAt_asc hlt h0 h))
      have H4 := Lib.hid (fun h1 h2 h3 => hh.out.succ (entAt_ok hlt h1 h2 h3))
      have hx0 := far_cell hc0
      have hx1 := far_cell hc1
      clear hsk hc0 hc1
      generalize (l.getD (k - 1) en0).1 = z at *
      generalize l[k] = p at *
      obtain ⟨t, a⟩ := p
      simp only at *
      have hTV := fun w => sWordValid_any t w hfk
      have hPV : ∀ w, Calls Tryz.prog 65 #[.int .i64 a, .int .i64 0, .int .i64 16777212] w fun e w' => e = .returned (.bool (pv a)) ∧ w = w' := fun w => sl1In_any a 0 16777212 w
      cases h1 : wordV (bs t)
      · have HE := Lib.hid (H1.out h1)
        rw [h1] at hTV
        have HTV := Lib.hid hTV
        clear hTV hPV h1 H1 H2 H3 H4 hpv
        go_wp2
        refine wp_region_far (by kernel_rfl) (by kernel_rfl) ?_
        repeat (go_big_quiet_step ((go_at_call 61; exact far_same (HTV.out _))))
        refine wpQuiet_nil ?_
        intro _ hwF
        obtain ⟨pF, hwF⟩ := hwF
        subst hwF
        have HB5 := Lib.hid (Below_then HB.out (far_below _ pF) (Nat.le_refl _))
        generalize far _ pF = wF at *
        go_wp2
        go_ret
        exact ⟨ret_bool HE.out.symm, HB5.out⟩
      · rw [h1] at hTV
        have HTV := Lib.hid hTV
        clear hTV
        cases h2 : pv a
        · have HE := Lib.hid (H2.out h2)
          rw [h2] at hPV
          have HPV := Lib.hid hPV
          clear hPV h1 h2 H1 H2 H3 H4 hpv
          go_wp2
          refine wp_region_far (by kernel_rfl) (by kernel_rfl) ?_
          repeat (go_big_quiet_step ((first | (go_at_call 61; exact far_same (HTV.out _)) | (go_at_call 65; exact far_same (HPV.out _)))))
          refine wpQuiet_nil ?_
          intro _ hwF
          obtain ⟨pF, hwF⟩ := hwF
          subst hwF
          have HB5 := Lib.hid (Below_then HB.out (far_below _ pF) (Nat.le_refl _))
          generalize far _ pF = wF at *
          go_wp2
          go_ret
          exact ⟨ret_bool HE.out.symm, HB5.out⟩
        · rw [h2] at hPV
          have HPV := Lib.hid hPV
          clear hPV
          by_cases h0 : k = 0
          · have HN := Lib.hid (H4.out h1 h2 (.inl h0))
            clear h1 h2 H1 H2 H3 H4 hpv
            have hk0 : decide (0 < k) = false := decide_eq_false (by omega)
            clear h0
            go_wp2
            refine wp_region_far (by kernel_rfl) (by kernel_rfl) ?_
            repeat (go_big_quiet_step ((first | (go_at_call 61; exact far_same (HTV.out _)) | (go_at_call 65; exact far_same (HPV.out _)))))
            refine wpQuiet_nil ?_
            intro _ hwF
            obtain ⟨pF, hwF⟩ := hwF
            subst hwF
            have HB5 := Lib.hid (Below_then HB.out (far_below _ pF) (Nat.le_refl _))
            generalize far _ pF = wF at *
            go_wp2
            go_roundw
            case rel => exact ⟨k + 1, by omega, by go_num, HN.out, HB5.out⟩
            case measure => simp [intOf]; omega
          · have hp1 := far_cell (hpv h0)
            have hk1 : 0 < k := by omega
            have hk2 : IntKind.i64.wrap ((k : Int) - 1) = (k : Int) - 1 := IntWalk.i64_in _ (by omega)
            have hk3 : (0 : Int) ≤ (k : Int) - 1 := by omega
            have hk4 : (k : Int) - 1 < (l.length : Int) := by omega
            have hk5 : ((k : Int) - 1).toNat = k - 1 := by omega
            cases h3 : lessB (bs z) (bs t)
            · have HE := Lib.hid (H3.out h0 h3)
              cases h4 : lessB (bs t) (bs z)
              · have e4 := less_t h4
                have e5 : (t.toList == z.toList) = true := by rw [eq_tl]; exact beq_iff_eq.2 (lessB_tri h4 h3)
                clear h1 h2 h3 h4 H1 H2 H3 H4 hpv
                go_wp2
                refine wp_region_far (by kernel_rfl) (by kernel_rfl) ?_
                repeat (go_big_quiet_step ((first | (go_at_call 61; exact far_same (HTV.out _)) | (go_at_call 65; exact far_same (HPV.out _)))))
                refine wpQuiet_nil ?_
                intro _ hwF
                obtain ⟨pF, hwF⟩ := hwF
                subst hwF
                have HB5 := Lib.hid (Below_then HB.out (far_below _ pF) (Nat.le_refl _))
                clear hx0 hx1 hp1
                generalize far _ pF = wF at *
                go_wp2
                go_ret
                exact ⟨ret_bool HE.out.symm, HB5.out⟩
              · have e4 := less_t h4
                clear h1 h2 h3 h4 H1 H2 H3 H4 hpv
                go_wp2
                refine wp_region_far (by kernel_rfl) (by kernel_rfl) ?_
                repeat (go_big_quiet_step ((first | (go_at_call 61; exact far_same (HTV.out _)) | (go_at_call 65; exact far_same (HPV.out _)))))
                refine wpQuiet_nil ?_
                intro _ hwF
                obtain ⟨pF, hwF⟩ := hwF
                subst hwF
                have HB5 := Lib.hid (Below_then HB.out (far_below _ pF) (Nat.le_refl _))
                clear hx0 hx1 hp1
                generalize far _ pF = wF at *
                go_wp2
                go_ret
                exact ⟨ret_bool HE.out.symm, HB5.out⟩
            · have HN := Lib.hid (H4.out h1 h2 (.inr h3))
              have e4 := less_t (lessB_asymm h3)
              have e5 : (t.toList == z.toList) = false := by rw [eq_tl, beq_eq_false_iff_ne]; intro e; have h3' : lessB (tx z) (tx t) = true := h3; rw [e, lessB_irrefl] at h3'; cases h3'
              clear h1 h2 h3 H1 H2 H3 H4 hpv
              go_wp2
              refine wp_region_far (by kernel_rfl) (by kernel_rfl) ?_
              repeat (go_big_quiet_step ((first | (go_at_call 61; exact far_same (HTV.out _)) | (go_at_call 65; exact far_same (HPV.out _)))))
              refine wpQuiet_nil ?_
              intro _ hwF
              obtain ⟨pF, hwF⟩ := hwF
              subst hwF
              have HB5 := Lib.hid (Below_then HB.out (far_below _ pF) (Nat.le_refl _))
              clear hx0 hx1 hp1
              generalize far _ pF = wF at *
              go_wp2
              go_roundw
              case rel => exact ⟨k + 1, by omega, by go_num, HN.out, HB5.out⟩
              case measure => simp [intOf]; omega
    · have HD := Lib.hid (fun h40 => hh.out.done hlt h40)
      have HL := Lib.hid (@entsV_long l)
      by_cases h40 : l.length ≤ 3
      · have HE := Lib.hid (HD.out h40)
        go_wp2
        go_ret
        exact ⟨ret_bool (by rw [HE.out]; simp; omega), HB.out⟩
      · have HE := Lib.hid (HL.out h40)
        go_wp2
        go_ret
        exact ⟨ret_bool (by rw [HE.out]; simp; omega), HB.out⟩
end Go.Proofs.YtaeaccakkielmaaGreatDoor

/- 'copy' of elements of more than one cell, as run equations; a row written whole. -/
set_option linter.unusedVariables false
namespace Go.Proofs.YtaeaccakkielmaaGreatDoor
open Go.RowKit

theorem run_copy_rowK {P : Program} (w : World) (dT sT ty elem : TypeId) (g o dLen dCap : Nat) (a : Addr) (sLen sCap : Nat) (cur : Array Value) (t : TypeId) (cs : List Value) (k m : Nat)
    (hu : P.underlying dT = some (.slice elem)) (hs : (P.info? elem).map (·.size) = some k) (hm : Nat.min sLen dLen = m)
    (hg : w.heap[g]? = some (.cells cur t (0, 0))) (hn : cs.length = m * k)
    (hsrc : ∀ j v, cs[j]? = some v → w.cell? (a.add j) = some v) (hfit : o + cs.length ≤ cur.size) (h1 : ∀ v ∈ cs, v.oneCell' = true) :
    (Builtin.copy_ #[dT, sT] ty #[.slice (some ⟨g, o, none⟩) dLen dCap, .slice (some a) sLen sCap]).run P w =
      .ok (goInt m) (w.setRow g (cur.toList.take o ++ cs ++ cur.toList.drop (o + cs.length)).toArray) := by
  have hl := run_loadCells_list (P := P) w a cs hsrc
  have hst := run_storeCells_at P g o t cs 0 cur w hg (by simpa using hfit) h1
  rw [hn] at hl
  cases hq : P.info? elem with
  | none => simp [hq] at hs
  | some i =>
    have hi : i.size = k := by simpa [hq] using hs
    simp [Builtin.copy_, run_underlying hu, Builtin.lenOf, Builtin.firstCells, sizeOf, typeInfo, hq, hi, hm, hl, hst]
end Go.Proofs.YtaeaccakkielmaaGreatDoor

/- slices.Insert of one piece into a row of the call's own, walked. -/
set_option linter.unusedVariables false
namespace Go.Proofs.YtaeaccakkielmaaGreatDoor
open Go.RowKit

def InsRes (base : Nat) (l : List Pc) (w : World) (e : Ending) (w' : World) : Prop := ∃ v', e = .returned v' ∧ Own w' base 52 2 encP v' l ∧ Below base w w'
theorem ins_end (l : List Pc) (x : Pc) : l ++ [x] = l.take l.length ++ x :: l.drop l.length := by simp
theorem flat_take {α : Type} {enc : α → List Value} {k : Nat} (he : ∀ x, (enc x).length = k) (l : List α) (i : Nat) (hi : i ≤ l.length) : flat enc (l.take i) = (flat enc l).take (i * k) ∧ flat enc (l.drop i) = (flat enc l).drop (i * k) := by
  have e : flat enc l = flat enc (l.take i) ++ flat enc (l.drop i) := by rw [← flat_append, List.take_append_drop]
  have hlen : (flat enc (l.take i)).length = i * k := by rw [flat_length he, List.length_take]; congr 1; omega
  rw [e]
  exact ⟨(List.take_left' hlen).symm, (List.drop_left' hlen).symm⟩
/-- A row into which two cells were laid: first what stands behind moves, then the cells come in. -/
theorem ins_row {α : Type} {L C X S N1 N2 : List α} {a b : Nat} (hC : L.take b = C) (hb : b + 2 ≤ L.length) (hab : a ≤ b) (hX : X.length = 2) (hS : S = C.drop a)
    (h1 : N1 = L.take (a + 2) ++ S ++ L.drop (a + 2 + S.length)) (h2 : N2 = N1.take a ++ X ++ N1.drop (a + X.length)) :
    N1.length = L.length ∧ N2.length = L.length ∧ N2.take (b + 2) = C.take a ++ X ++ C.drop a := by
  have hCl : C.length = b := by rw [← hC, List.length_take]; omega
  have hSl : S.length = b - a := by rw [hS, List.length_drop, hCl]
  have hL2 : (L.take (a + 2)).length = a + 2 := by rw [List.length_take]; omega
  have e1 : N1.take a = C.take a := by
    rw [h1, List.append_assoc, List.take_append_of_le_length (by omega), List.take_take, ← hC, List.take_take]
    congr 1; omega
  have e2 : N1.drop (a + 2) = S ++ L.drop (a + 2 + S.length) := by
    rw [h1, List.append_assoc]; exact List.drop_left' hL2
  have l1 : N1.length = L.length := by rw [h1]; simp; omega
  have eN : N2 = (C.take a ++ X ++ C.drop a) ++ L.drop (a + 2 + S.length) := by
    rw [h2, hX, e1, e2, ← hS]; simp
  have hl : (C.take a ++ X ++ C.drop a).length = b + 2 := by simp [hX, hCl]; omega
  refine ⟨l1, ?_, ?_⟩
  · rw [eN, List.length_append, hl]; simp; omega
  · rw [eN]; exact List.take_left' hl
end Go.Proofs.YtaeaccakkielmaaGreatDoor

/- Where a print stands: cmp.Compare, slices.BinarySearchFunc, findPiece, walked. -/
set_option linter.unusedVariables false
namespace Go.Proofs.YtaeaccakkielmaaGreatDoor
open Go.RowKit

def cmp3 (a b : Int) : Int := if a < b then -1 else if b < a then 1 else 0
set_option maxHeartbeats 2000000 in
set_option maxRecDepth 100000 in
theorem isNaN_any (a : Int) (w : World) : Calls Tryz.prog 121 #[.int .i64 a] w fun e w' => e = .returned (.bool false) ∧ w = w' := by
  go_enter Tryz.func121, Tryz.ntmps121
  go_wp2
  go_ret
  exact ⟨ret_bool (by simp), rfl⟩
set_option maxHeartbeats 2000000 in
set_option maxRecDepth 100000 in
theorem Compare_any (a b : Int) (w : World) : Calls Tryz.prog 109 #[.int .i64 a, .int .i64 b] w fun e w' => e = .returned (.int .i64 (cmp3 a b)) ∧ w = w' := by
  by_cases h1 : a < b
  · have E : Hid (cmp3 a b = -1) := by show _ = _; unfold cmp3; rw [if_pos h1]
    go_enter Tryz.func109, Tryz.ntmps109
    go_wp2_with (go_at_call 121; refine (isNaN_any _ _).mono ?_; rintro e w' ⟨rfl, rfl⟩)
    go_ret
    exact ⟨ret_int E.out.symm, rfl⟩
  · by_cases h2 : b < a
    · have E : Hid (cmp3 a b = 1) := by show _ = _; unfold cmp3; rw [if_neg h1, if_pos h2]
      go_enter Tryz.func109, Tryz.ntmps109
      go_wp2_with (go_at_call 121; refine (isNaN_any _ _).mono ?_; rintro e w' ⟨rfl, rfl⟩)
      go_ret
      exact ⟨ret_int E.out.symm, rfl⟩
    · have E : Hid (cmp3 a b = 0) := by show _ = _; unfold cmp3; rw [if_neg h1, if_neg h2]
      go_enter Tryz.func109, Tryz.ntmps109
      go_wp2_with (go_at_call 121; refine (isNaN_any _ _).mono ?_; rintro e w' ⟨rfl, rfl⟩)
      go_ret
      exact ⟨ret_int E.out.symm, rfl⟩
set_option maxHeartbeats 2000000 in
set_option maxRecDepth 100000 in
theorem fpCmp_any (a x : Int) (t : ByteArray) (w : World) : Calls Tryz.prog 108 #[.agg #[.int .i64 a, .string t], .int .i64 x] w fun e w' => e = .returned (.int .i64 (cmp3 a x)) ∧ Below w.heap.size w w' := by
  have HB := Lib.hid ((Below.refl w.heap.size w).alloc (Nat.le_refl _) (.cells #[.int .i64 a, .string t] 52))
  generalize hc : cmp3 a x = c at *
  have HC := Lib.hid (fun w => hc ▸ Compare_any a x w)
  clear hc
  go_enter Tryz.func108, Tryz.ntmps108
  go_wp2_with (go_at_call 109; refine (HC.out _).mono ?_; rintro e w' ⟨rfl, rfl⟩)
  go_ret
  exact ⟨rfl, HB.out⟩
def FpRes (l : List Pc) (x : Int) (w : World) (e : Ending) (w' : World) : Prop := e = .returned (.tuple #[.int .i64 (below l x : Nat), .bool (hereP l x)]) ∧ Below w.heap.size w w'
theorem ret_two {a b : Int} {c d : Bool} (h1 : a = b) (h2 : c = d) : Ending.returned (.tuple #[.int .i64 a, .bool c]) = .returned (.tuple #[.int .i64 b, .bool d]) := by rw [h1, h2]
set_option maxHeartbeats 4000000 in
set_option maxRecDepth 100000 in
theorem BSearch_any (A : Option Addr) (c : Nat) (l : List Pc) (x : Int) (w : World) (hs : Sl w encP 2 A l) (hl : l.length ≤ 16777216) (hso : Sorted l) :
    Calls Tryz.prog 107 #[.slice A l.length c, .int .i64 x, .func (.func 108) #[] #[]] w (FpRes l x w) := by
  have HS := Lib.hid hs
  have HSO := Lib.hid hso
  clear hs hso
  go_enter Tryz.func107, Tryz.ntmps107
  go_wp2_with fail
  go_loopw [9, 10] (fun vi vj wr => ∃ lo hi : Nat, vi = .int .i64 lo ∧ vj = .int .i64 hi ∧ lo ≤ hi ∧ hi ≤ l.length ∧ Hid (∀ t (h : t < l.length), t < lo → l[t].1 < x) ∧ Hid (∀ t (h : t < l.length), hi ≤ t → x ≤ l[t].1) ∧ Hid (Below w.heap.size w wr)) (fun vi vj _ => (intOf vj).toNat - (intOf vi).toNat)
  case atStart => exact ⟨0, l.length, rfl, rfl, Nat.zero_le _, Nat.le_refl _, (fun t h h2 => by omega), (fun t h h2 => by omega), Below.refl _ _⟩
  case round =>
    obtain ⟨lo, hi, rfl, rfl, hle, hhi, H1, H2, HB⟩ := hrel
    by_cases hlt : lo < hi
    · obtain ⟨m, hm⟩ : ∃ m, m = (lo + hi) / 2 := ⟨_, rfl⟩
      have hm1 : lo ≤ m := by omega
      have hm2 : m < hi := by omega
      have hml : m < l.length := by omega
      have hmi : ((lo : Int) + (hi : Int)) / 2 = (m : Int) := by omega
      obtain ⟨b, o, rfl, hc0, hc1⟩ := (HS.out.below HB.out).getP hml
      have HP := Lib.hid (List.pairwise_iff_getElem.1 HSO.out)
      have HQ1 := Lib.hid (fun (hx : l[m].1 < x) (t : Nat) (h : t < l.length) (ht : t < m + 1) => show l[t].1 < x by
        by_cases e : t = m
        · subst e; exact hx
        · have := HP.out t m h hml (by omega); omega)
      have HQ2 := Lib.hid (fun (hx : ¬ l[m].1 < x) (t : Nat) (h : t < l.length) (ht : m ≤ t) => show x ≤ l[t].1 by
        by_cases e : m = t
        · subst e; omega
        · have := HP.out m t hml h (by omega); omega)
      generalize l[m] = p at *
      obtain ⟨a, t⟩ := p
      simp only at *
      clear hm HP
      by_cases hax : a < x
      · have HN := Lib.hid (HQ1.out hax)
        have hcm : cmp3 a x = -1 := by unfold cmp3; rw [if_pos hax]
        have hC := fun w => fpCmp_any a x t w
        rw [hcm] at hC
        have HC := Lib.hid hC
        clear hC hcm HQ1 HQ2
        go_wp2_with ((first | go_at_call 108 | go_at_fn 108); refine (HC.out _).mono ?_; rintro e w2 ⟨rfl, hb2⟩; have HB2 := Lib.hid (Below_then HB.out hb2 (Nat.le_refl _)); clear hb2)
        go_roundw
        case rel => exact ⟨m + 1, hi, by go_num, rfl, by omega, hhi, HN.out, H2.out, HB2.out⟩
        case measure => simp [intOf]; omega
      · have HN := Lib.hid (HQ2.out hax)
        have hcm : ¬ cmp3 a x < 0 := by unfold cmp3; rw [if_neg hax]; split <;> omega
        have hC := fun w => fpCmp_any a x t w
        generalize cmp3 a x = cv at *
        have HC := Lib.hid hC
        clear hC HQ1 HQ2
        go_wp2_with ((first | go_at_call 108 | go_at_fn 108); refine (HC.out _).mono ?_; rintro e w2 ⟨rfl, hb2⟩; have HB2 := Lib.hid (Below_then HB.out hb2 (Nat.le_refl _)); clear hb2)
        go_roundw
        case rel => exact ⟨lo, m, rfl, rfl, by omega, by omega, H1.out, HN.out, HB2.out⟩
        case measure => simp [intOf]; omega
    · obtain rfl : hi = lo := by omega
      have HE := Lib.hid (below_of l x hi hhi H1.out (fun h => Int.not_lt.2 (H2.out hi h (Nat.le_refl _))))
      by_cases hn : hi < l.length
      · obtain ⟨b, o, rfl, hc0, hc1⟩ := (HS.out.below HB.out).getP hn
        have hh : hereP l x = decide (l[hi].1 = x) := by unfold hereP; rw [HE.out, getD_pc hn, decide_eq_true hn, Bool.true_and]
        have hnl := Int.not_lt.2 (H2.out hi hn (Nat.le_refl _))
        generalize l[hi] = p at *
        obtain ⟨a, t⟩ := p
        simp only at *
        by_cases hax : a = x
        · have HH := Lib.hid (show hereP l x = true by rw [hh]; exact decide_eq_true hax)
          have hcm : cmp3 a x = 0 := by unfold cmp3; rw [if_neg hnl, if_neg (by omega)]
          have hC := fun w => fpCmp_any a x t w
          rw [hcm] at hC
          have HC := Lib.hid hC
          clear hC hcm hh hax
          go_wp2_with ((first | go_at_call 108 | go_at_fn 108); refine (HC.out _).mono ?_; rintro e w2 ⟨rfl, hb2⟩; have HB2 := Lib.hid (Below_then HB.out hb2 (Nat.le_refl _)); clear hb2)
          go_ret2
          exact ⟨ret_two (by rw [HE.out]) (by rw [HH.out]), HB2.out⟩
        · have HH := Lib.hid (show hereP l x = false by rw [hh]; exact decide_eq_false hax)
          have hcm : (cmp3 a x == 0) = false := by unfold cmp3; rw [if_neg hnl, if_pos (by omega)]; rfl
          have hC := fun w => fpCmp_any a x t w
          generalize cmp3 a x = cv at *
          have HC := Lib.hid hC
          clear hC hh hax
          go_wp2_with ((first | go_at_call 108 | go_at_fn 108); refine (HC.out _).mono ?_; rintro e w2 ⟨rfl, hb2⟩; have HB2 := Lib.hid (Below_then HB.out hb2 (Nat.le_refl _)); clear hb2)
          go_ret2
          exact ⟨ret_two (by rw [HE.out]) (by rw [HH.out]), HB2.out⟩
      · have HH := Lib.hid (show hereP l x = false by unfold hereP; rw [HE.out, decide_eq_false hn]; rfl)
        go_wp2
        go_ret2
        exact ⟨ret_two (by rw [HE.out]) (by rw [HH.out]), HB.out⟩
set_option maxHeartbeats 4000000 in
set_option maxRecDepth 100000 in
theorem findPiece_any (A : Option Addr) (c : Nat) (l : List Pc) (x : Int) (w : World) (hs : Sl w encP 2 A l) (hl : l.length ≤ 16777216) (hso : Sorted l) :
    Calls Tryz.prog 91 #[.slice A l.length c, .int .i64 x] w (FpRes l x w) := by
  have HX := Lib.hid (fun w h => BSearch_any A c l x w h hl hso)
  have HS := Lib.hid hs
  clear hs hso
  unfold FpRes at *
  go_enter Tryz.func91, Tryz.ntmps91
  go_wp2_with fail
  refine (HX.out _ HS.out).mono ?_
  rintro e w1 ⟨rfl, hb⟩
  have HB := Lib.hid hb
  clear hb
  go_wp2
  go_ret2
  exact ⟨rfl, HB.out⟩
end Go.Proofs.YtaeaccakkielmaaGreatDoor

/- PutText of the program, walked. -/
set_option linter.unusedVariables false
namespace Go.Proofs.YtaeaccakkielmaaGreatDoor
open Go.RowKit
attribute [local go_sem] mk_toList

def PutRes (r : List Pc × Int × Bool) (w : World) (e : Ending) (w' : World) : Prop :=
  ∃ v, e = .returned (.tuple #[v, .int .i64 r.2.1, .bool r.2.2]) ∧ Own w' w.heap.size 52 2 encP v r.1 ∧ Below w.heap.size w w'
theorem Below_of_alloc2 {w2 w3 w4 : World} {x : Obj} (h3 : Below w2.heap.size w2 w3) (h4 : Below w2.heap.size (w3.alloc x) w4) : Below w2.heap.size w2 w4 := (h3.alloc h3.size x).trans h4
end Go.Proofs.YtaeaccakkielmaaGreatDoor

/- Regions that draw their order, by an invariant: one case for each operation, whatever came before it. -/
set_option linter.unusedVariables false
namespace Go.Proofs.YtaeaccakkielmaaGreatDoor
open Go.RowKit

/-- Each operation waits for earlier ones alone. -/
def afterLow (l : List Oper) : Bool := (List.range l.length).all fun i => ((l[i]?).map fun o => o.after.all fun e => !Region.binds .any e || decide (e.on < i)).getD true
/-- What is asked of each operation: from the invariant to the invariant. -/
def InvSteps (P : Program) (ops : Array Oper) (Q : Exit → Act → World → Prop) (J : (Nat → Bool) → Act → World → Prop) : Nat → List Oper → Prop
  | _, [] => True
  | i, o :: r => (∀ (d : Nat → Bool) (a : Act) (w : World) (K : Act → World → Prop), d i = false → (∀ e ∈ o.after, Region.binds .any e = true → d e.on = true) → J d a w → (∀ a' w', J (fun j => j == i || d j) a' w' → K a' w') →
      if Region.wanted o (yielded ops a.tmps) = true then o.wp P a w K Q else K (a.put o.dst undef) w) ∧ InvSteps P ops Q J (i + 1) r
theorem InvSteps.at {P : Program} {ops : Array Oper} {Q : Exit → Act → World → Prop} {J : (Nat → Bool) → Act → World → Prop} : ∀ (l : List Oper) (k i : Nat) (o : Oper), InvSteps P ops Q J k l → l[i]? = some o →
    ∀ (d : Nat → Bool) (a : Act) (w : World) (K : Act → World → Prop), d (k + i) = false → (∀ e ∈ o.after, Region.binds .any e = true → d e.on = true) → J d a w → (∀ a' w', J (fun j => j == k + i || d j) a' w' → K a' w') →
      if Region.wanted o (yielded ops a.tmps) = true then o.wp P a w K Q else K (a.put o.dst undef) w
  | [], _, _, _, _, h => by simp at h
  | x :: r, k, 0, o, hs, h => by
    simp at h; subst h; exact hs.1
  | x :: r, k, i + 1, o, hs, h => by
    have h1 := InvSteps.at r (k + 1) i o hs.2 (by simpa using h)
    have e : k + 1 + i = k + (i + 1) := by omega
    rw [e] at h1; exact h1
theorem dn_set {listed : Array Bool} {i : Nat} (hi : i < listed.size) : (fun j => (listed.setIfInBounds i true).getD j false) = fun j => j == i || listed.getD j false := by
  funext j
  by_cases e : j = i
  · subst e; simp [hi]
  · have hij : i ≠ j := fun h => e h.symm
    rw [getD_set_ne false hij]; simp [e]
theorem count_set {n : Nat} {listed : Array Bool} {i : Nat} (hs : listed.size = n) (hi : i < n) (h : listed.getD i false = false) :
    (List.range n).countP (fun j => !(listed.setIfInBounds i true).getD j false) + 1 = (List.range n).countP (fun j => !listed.getD j false) := by
  have hf := dn_set (listed := listed) (i := i) (by omega)
  have e : (fun j => !(listed.setIfInBounds i true).getD j false) = fun j => !(j == i || listed.getD j false) := by
    funext j; exact congrArg (fun b => !b) (congrFun hf j)
  rw [e]
  have aux : ∀ l : List Nat, l.Nodup → i ∈ l → l.countP (fun j => !(j == i || listed.getD j false)) + 1 = l.countP (fun j => !listed.getD j false) := by
    intro l
    induction l with
    | nil => intro _ hm; simp at hm
    | cons x r ih =>
      intro hnd hm
      rw [List.nodup_cons] at hnd
      rw [List.countP_cons, List.countP_cons]
      by_cases hx : x = i
      · subst hx
        have hr : r.countP (fun j => !(j == x || listed.getD j false)) = r.countP (fun j => !listed.getD j false) := by
          refine List.countP_congr fun y hy => ?_
          have : y ≠ x := fun e => hnd.1 (e ▸ hy)
          simp [this]
        rw [hr]; simp [h]
      · have hm' : i ∈ r := by
          rcases List.mem_cons.1 hm with e | e
          · exact absurd e.symm hx
          · exact e
        have := ih hnd.2 hm'
        have e2 : (x == i) = false := by simpa using hx
        simp only [e2, Bool.false_or]
        omega
  exact aux _ List.nodup_range (List.mem_range.2 hi)
theorem wpAny_inv {P : Program} {l : List Oper} {Q : Exit → Act → World → Prop} (J : (Nat → Bool) → Act → World → Prop) (hlow : afterLow l = true) (hs : InvSteps P l.toArray Q J 0 l)
    (hend : ∀ d a w, (∀ i, i < l.length → d i = true) → J d a w → Q .normal a w) :
    ∀ (fuel : Nat) (listed : Array Bool) (a : Act) (w : World), listed.size = l.length → (List.range l.length).countP (fun j => !listed.getD j false) ≤ fuel → J (fun j => listed.getD j false) a w → wpAny P .any l.toArray Q fuel listed a w := by
  have hbinds : ∀ e, Region.binds .any e = true ∨ Region.binds .any e = false := fun e => by cases Region.binds .any e <;> simp
  -- where nothing can come up, all has come up
  have hall : ∀ listed : Array Bool, listed.size = l.length → Region.ready .any l.toArray listed = [] → ∀ i, i < l.length → listed.getD i false = true := by
    intro listed hsz hr i
    induction i using Nat.strongRecOn with
    | _ i ih =>
      intro hi
      by_cases h : listed.getD i false = true
      · exact h
      · exfalso
        have hm : i ∈ Region.ready .any l.toArray listed := by
          rw [mem_ready]
          refine ⟨?_, l[i], by simp [hi], fun e he hbe => ?_⟩
          · have hh : listed.getD i false = false := by simpa using h
            rw [Array.getD_eq_getD_getElem?, Array.getElem?_eq_getElem (by omega)] at hh ⊢; simpa using hh
          · unfold afterLow at hlow
            rw [List.all_eq_true] at hlow
            have h1 := hlow i (List.mem_range.2 hi)
            rw [List.getElem?_eq_getElem hi] at h1
            simp only [Option.map_some, Option.getD_some] at h1
            have h3 := Array.all_eq_true_iff_forall_mem.1 h1 e he
            rw [hbe, Bool.not_true, Bool.false_or] at h3
            have h2 := of_decide_eq_true h3
            exact ih _ h2 (by omega)
        rw [hr] at hm; simp at hm
  intro fuel
  induction fuel with
  | zero =>
    intro listed a w hsz hc hJ
    have hz : ∀ i, i < l.length → listed.getD i false = true := by
      intro i hi
      have h0 : (List.range l.length).countP (fun j => !listed.getD j false) = 0 := by omega
      rw [List.countP_eq_zero] at h0
      simpa using h0 i (List.mem_range.2 hi)
    refine ⟨?_, hend _ a w hz hJ⟩
    cases hr : Region.ready .any l.toArray listed with
    | nil => rfl
    | cons x r =>
      exfalso
      have hm : x ∈ Region.ready .any l.toArray listed := by rw [hr]; simp
      rw [mem_ready] at hm
      obtain ⟨h1, o, ho, _⟩ := hm
      have hx : x < l.length := by
        have := (Array.getElem?_eq_some_iff.1 ho).1; simpa using this
      have h2 := hz x hx
      rw [Array.getD_eq_getD_getElem?, Array.getElem?_eq_getElem (by omega)] at h1 h2
      simp at h1 h2; rw [h1] at h2; cases h2
  | succ fuel ih =>
    intro listed a w hsz hc hJ
    refine ⟨fun hr => hend _ a w (hall listed hsz hr) hJ, fun i hi => ?_⟩
    rw [mem_ready] at hi
    obtain ⟨h1, o, ho, haft⟩ := hi
    have hx : i < l.length := by
      have := (Array.getElem?_eq_some_iff.1 ho).1; simpa using this
    have hd : listed.getD i false = false := by
      rw [Array.getD_eq_getD_getElem?, Array.getElem?_eq_getElem (by omega)] at h1 ⊢; simpa using h1
    have hlo : l[i]? = some o := by simpa using ho
    have hcnt := count_set hsz hx hd
    have hstep := InvSteps.at l 0 i o hs hlo (fun j => listed.getD j false) a w (wpAny P .any l.toArray Q fuel (listed.setIfInBounds i true)) (by simpa using hd) haft hJ (fun a' w' hJ' => by
      refine ih _ a' w' (by simpa using hsz) (by omega) ?_
      rw [dn_set (by omega)]
      simpa using hJ')
    unfold wpOp
    simp only [ho]
    split
    · rename_i hw; rw [if_pos hw] at hstep; exact .inl hstep
    · rename_i hw; rw [if_neg hw] at hstep; exact hstep
/-- **A region that draws its order, by an invariant**: 'd' says which operations have come up. -/
theorem wp_region_inv {P : Program} {id : Nat} {Q : Exit → Act → World → Prop} {a : Act} {w : World} {l : List Oper} (hm : P.follows .mixedOrders = true) (hlow : afterLow l = true)
    (J : Act → (Nat → Bool) → Act → World → Prop) (h0 : J a (fun _ => false) a w.drew) (hs : InvSteps P l.toArray Q (J a) 0 l) (hend : ∀ d a' w', (∀ i, i < l.length → d i = true) → J a d a' w' → Q .normal a' w') :
    (Code.region id l.toArray true).wp P Q a w := by
  refine wp_region_any hm (wpAny_inv (J a) hlow hs hend _ _ _ _ (by simp) ?_ ?_)
  · refine Nat.le_trans List.countP_le_length ?_; simp
  · have e : (fun j => (Array.replicate l.toArray.size false).getD j false) = fun _ => false := by
      funext j
      rw [Array.getD_eq_getD_getElem?, Array.getElem?_replicate]
      split <;> rfl
    rw [e]; exact h0
end Go.Proofs.YtaeaccakkielmaaGreatDoor

/- 'append' of one element onto a row of the call's own, telling what else stayed and where the new row lies. -/
set_option linter.unusedVariables false
namespace Go.Proofs.YtaeaccakkielmaaGreatDoor
open Go.RowKit

/-- v' owns no block that was there and that v did not own. -/
def Kin (v : Value) (wr : World) (v' : Value) : Prop := ∀ b, b < wr.heap.size → v.ownBlock ≠ some b → v'.ownBlock ≠ some b
def LtA (A : Option Addr) (n : Nat) : Prop := ∀ b o, A = some ⟨b, o, none⟩ → b < n
theorem Apart.kin {A : Option Addr} {v v' : Value} {wr : World} (h : Apart A v) (hA : LtA A wr.heap.size) (hk : Kin v wr v') : Apart A v' := fun b o e => hk b (hA b o e) (h b o e)
theorem LtA.mono {A : Option Addr} {m n : Nat} (h : LtA A m) (hmn : m ≤ n) : LtA A n := fun b o e => Nat.lt_of_lt_of_le (h b o e) hmn
theorem Own.ltA {α : Type} {enc : α → List Value} {w : World} {base size : Nat} {E : TypeId} {A : Option Addr} {n c : Nat} {l : List α} (h : Own w base E size enc (.slice A n c) l) : LtA A w.heap.size := by
  obtain ⟨A', c', e, _, _, hg⟩ := h.sl
  injection e with e1 _ _
  subst e1
  intro b o e
  rcases hg with ⟨_, h⟩ | ⟨g, h, _, hlt⟩
  · rw [h] at e; cases e
  · rw [h] at e; injection e with e; injection e with e1 _; omega
theorem Own.apart {α : Type} {enc : α → List Value} {w : World} {base size : Nat} {E : TypeId} {A : Option Addr} {n c : Nat} {l : List α} (h : Own w base E size enc (.slice A n c) l) {v : Value} (hv : ∀ g, v.ownBlock = some g → g < base) : Apart A v := by
  obtain ⟨A', c', e, _, _, hg⟩ := h.sl
  injection e with e1 _ _
  subst e1
  intro b o e hb
  have := hv b hb
  rcases hg with ⟨_, h⟩ | ⟨g, h, hlo, hlt⟩
  · rw [h] at e; cases e
  · rw [h] at e; injection e with e; injection e with e1 _; omega
theorem wpList_app3 {P : Program} {α : Type} {enc : α → List Value} {ops : Array Oper} {rest : List Oper} {o : Oper} {a : Act} {Q : Exit → Act → World → Prop} {w0 wr : World} {B base size bytes : Nat} {t E : TypeId} {i : TypeInfo} {z : Value} {v : Value} {l : List α}
    (ht : P.underlying t = some (.slice E)) (hi : P.info? E = some i) (hz : i.zero = some z) (hsize : i.size = size) (hby : i.bytes = bytes) (hzs : z.cells.size = size) (hsz : 0 < size) (hb200 : bytes ≤ 256)
    (hgd : o.guard = none) (s x : Operand) (ho : o.op = .call { callee := .builtin .append, args := #[s, x], argTypes := #[t, t] })
    (hs : a.eval s = v) (hx : a.eval x = .slice (some ⟨wr.heap.size, 0, none⟩) 1 1)
    (hown : Own wr base E size enc v l) (hb : Below B w0 wr) (hB : B ≤ base) (hbase : base ≤ wr.heap.size) (hn : l.length ≤ 16777216) (y : α) (cells : Array Value) (hcl : cells = (enc y).toArray) (hce : (enc y).length = size) (h1 : ∀ u ∈ enc y, u.oneCell' = true)
    (h : ∀ v' w', Own w' base E size enc v' (l ++ [y]) → Below B w0 w' → Grew v wr w' → Kin v wr v' → wpList P ops Q rest (a.put o.dst v') w') : wpList P ops Q (o :: rest) a (wr.alloc (.cells cells E)) := by
  subst hcl
  refine wpList_append_own_at _ hgd s x t ho base E i z size bytes ht hi hz hsize hby hzs hsz v l.length (flat enc l) hs (World.ownsRow.alloc hown _) ⟨wr.heap.size, 0, none⟩ 1 1 (enc y) hx (by rw [hce, Nat.one_mul]) ?_ h1 ?_ ?_ ?_ ?_
  · intro j u hu
    have hadd : (⟨wr.heap.size, 0, none⟩ : Addr).add j = ⟨wr.heap.size, j, none⟩ := by unfold Addr.add; split <;> simp_all
    rw [hadd, cell_of_row _ _ j _ E (0, 0) (heap_alloc_new wr _)]
    simpa using hu
  · unfold maxLen; omega
  · have := Nat.mul_le_mul_left (l.length + 1) hb200; omega
  · simp; omega
  · intro v' w' hown' hg _ hat
    refine h v' w' ?_ ((hb.alloc (Nat.le_trans hB hbase) _).grown hg (by simp; omega) (fun k hk => ?_)) ?_ ?_
    · show w'.ownsRow base E size v' (l ++ [y]).length (flat enc (l ++ [y]))
      rw [flat_snoc, List.length_append]; exact hown'
    · exact Nat.le_trans hB (World.ownsRow.lt hown k hk).1
    · exact ⟨hg.os, hg.tape, hg.output, Nat.le_trans (by simp) hg.size, fun k hk hne => (hg.block k (by simp; omega) hne).trans (Below.heap_alloc wr _ k hk)⟩
    · intro b hb2 hne hv'
      rcases hat with hat | hat
      · exact hne (hat ▸ hv')
      · rw [hat] at hv'; injection hv' with e; simp at e; omega
section
variable {ops : Array Oper} {rest : List Oper} {o : Oper} {a : Act} {Q : Exit → Act → World → Prop} {w0 wr : World} {v : Value}
theorem app_str3 {l : List ByteArray} {y : ByteArray} {s x : Operand} (hgd : o.guard = none) (ho : o.op = .call { callee := .builtin .append, args := #[s, x], argTypes := #[29, 29] })
    (hs : a.eval s = v) (hx : a.eval x = .slice (some ⟨wr.heap.size, 0, none⟩) 1 1)
    (hown : Own wr w0.heap.size 9 1 encS v l) (hb : Below w0.heap.size w0 wr) (hn : l.length ≤ 16777216)
    (h : ∀ v' w', Own w' w0.heap.size 9 1 encS v' (l ++ [y]) → Below w0.heap.size w0 w' → Grew v wr w' → Kin v wr v' → wpList Tryz.prog ops Q rest (a.put o.dst v') w') :
    wpList Tryz.prog ops Q (o :: rest) a (wr.alloc (.cells #[.string y] 9)) := by
  obtain ⟨i0, hi0, hz0, hz1, hz2⟩ := info_parts str_info
  exact wpList_app3 Tryz.underlying29 hi0 hz0 hz1 hz2 rfl (by decide) (by decide) hgd s x ho hs hx hown hb (Nat.le_refl _) hb.size hn y _ rfl rfl (by intro u hu; simp [encS] at hu; subst hu; rfl) h
theorem app_pc3 {l : List Pc} {y : Pc} {s x : Operand} (hgd : o.guard = none) (ho : o.op = .call { callee := .builtin .append, args := #[s, x], argTypes := #[25, 25] })
    (hs : a.eval s = v) (hx : a.eval x = .slice (some ⟨wr.heap.size, 0, none⟩) 1 1)
    (hown : Own wr w0.heap.size 52 2 encP v l) (hb : Below w0.heap.size w0 wr) (hn : l.length ≤ 16777216)
    (h : ∀ v' w', Own w' w0.heap.size 52 2 encP v' (l ++ [y]) → Below w0.heap.size w0 w' → Grew v wr w' → Kin v wr v' → wpList Tryz.prog ops Q rest (a.put o.dst v') w') :
    wpList Tryz.prog ops Q (o :: rest) a (wr.alloc (.cells #[.int .i64 y.1, .string y.2] 52)) := by
  obtain ⟨i0, hi0, hz0, hz1, hz2⟩ := info_parts pc_info
  exact wpList_app3 Tryz.underlying25 hi0 hz0 hz1 hz2 rfl (by decide) (by decide) hgd s x ho hs hx hown hb (Nat.le_refl _) hb.size hn y _ rfl rfl (oneP y) h
end
end Go.Proofs.YtaeaccakkielmaaGreatDoor

/- PutText of the reference, walked. Written by gen_ps.py. -/
set_option linter.unusedVariables false
namespace Go.Proofs.YtaeaccakkielmaaGreatDoor
open Go.RowKit
attribute [local go_sem] mk_toList

section
variable {ops : Array Oper} {o : Oper} {a : Act} {K : Act → World → Prop} {Q : Exit → Act → World → Prop} {E' : Prop} {w0 wr : World} {v : Value}
set_option maxRecDepth 100000 in
theorem step_pcK {l m : List Pc} {A : Option Addr} {c : Nat} {s x : Operand} (hgd : o.guard = none) (ho : o.op = .call { callee := .builtin .append, args := #[s, x], argTypes := #[25, 25] })
    (hown : Own wr w0.heap.size 52 2 encP v l) (hb : Below w0.heap.size w0 wr) (hn : l.length + m.length ≤ 33554432) (hsl : Sl wr encP 2 A m) (hcz : A = none → c = 0)
    (hs : a.eval s = v) (hx : a.eval x = .slice A m.length c)
    (h : ∀ v' w', Own w' w0.heap.size 52 2 encP v' (l ++ m) → Below w0.heap.size w0 w' → Grew v wr w' → Kin v wr v' → K (a.put o.dst v') w') : if Region.wanted o (yielded ops a.tmps) = true then Oper.wp Tryz.prog o a wr K Q else E' := by
  obtain ⟨i0, hi0, hz0, hz1, hz2⟩ := info_parts pc_info
  have hw : Region.wanted o (yielded ops a.tmps) = true := by simp [Region.wanted, hgd]
  rw [if_pos hw]
  cases A with
  | none =>
    have hm : m = [] := by
      cases m with
      | nil => rfl
      | cons y r => obtain ⟨b, o, e, _⟩ := hsl (by simp); cases e
    subst hm
    rw [hcz rfl] at hx
    have hrun := run_append_owned_none (P := Tryz.prog) (w := wr) w0.heap.size 25 o.type 52 i0 2 Tryz.underlying25 hi0 v l.length (flat encP l) hown
    have hK := h v wr (by rw [List.append_nil]; exact hown) hb (Grew.refl _ _) (fun b _ h => h)
    simp at hx
    unfold Oper.wp
    simp [execOp, ho, resolve, invoke, builtin, hs, hx, hrun, Result.andThen]
    exact hK
  | some ad =>
    obtain ⟨v', w', hr, h2, h3, h4, h5⟩ := run_append_own_at (P := Tryz.prog) wr w0.heap.size 25 o.type 52 i0 _ 2 24 Tryz.underlying25 hi0 hz0 hz1 hz2 rfl (by decide) v l.length (flat encP l) hown ad m.length c (flat encP m) (flat_length (enc := encP) (size := 2) (fun _ => rfl) m) (by
        intro j u hu
        have hpos : 0 < m.length := by
          have hlt := (List.getElem?_eq_some_iff.1 hu).1
          rw [flat_length (enc := encP) (size := 2) (fun _ => rfl)] at hlt
          cases m with
          | nil => simp at hlt
          | cons y r => simp
        obtain ⟨b, o', e, hc⟩ := hsl hpos
        injection e with e
        subst e
        have hadd : (⟨b, o', none⟩ : Addr).add j = ⟨b, o' + j, none⟩ := by unfold Addr.add; split <;> simp_all
        rw [hadd]; exact hc j u hu) (by
        intro u hu
        unfold flat at hu
        obtain ⟨y, _, hy⟩ := List.mem_flatMap.1 hu
        exact oneP y u hy) (by unfold maxLen; omega) (by omega) hb.size
    unfold Oper.wp execOp
    simp only [ho, resolve, invoke, builtin, Sem.run_bind, Sem.run_pure, Result.andThen_ok, List.map_toArray, List.map_cons, List.map_nil, hs, hx, hr]
    refine h v' w' ?_ (hb.grown h3 hb.size (fun k hk => (World.ownsRow.lt hown k hk).1)) h3 ?_
    · show w'.ownsRow _ _ _ v' (l ++ m).length (flat encP (l ++ m))
      rw [flat_append, List.length_append]; exact h2
    · intro b hb2 hne hv'
      rcases h5 with h5 | h5
      · exact hne (h5 ▸ hv')
      · rw [h5] at hv'; injection hv' with e; omega
end
theorem own_sh {w : World} {base : Nat} {v : Value} {l : List Pc} (h : Own w base 52 2 encP v l) : ∃ A c, v = .slice A l.length c := let ⟨A, c, e, _⟩ := h.sl; ⟨A, c, e⟩
end Go.Proofs.YtaeaccakkielmaaGreatDoor

/- FolderText, EmptyRoot, walked. -/
set_option linter.unusedVariables false
namespace Go.Proofs.YtaeaccakkielmaaGreatDoor
open Go.RowKit
def entM (e : En) : ByteArray := e.1 ++ ⟨#[61]⟩ ++ mk (hexT e.2) ++ ⟨#[59]⟩
theorem entM_tx (e : En) : entM e = mk (entT e) := by
  unfold entM entT
  rw [show e.1 = mk (tx e.1) from (mk_tx _).symm, show (⟨#[61]⟩ : ByteArray) = mk [61] from rfl, show (⟨#[59]⟩ : ByteArray) = mk [59] from rfl, mk_append, mk_append, mk_append]
  simp [tx_mk]
def foldM (l : List En) : ByteArray := mk (100 :: l.flatMap entT)
theorem foldM_take {l : List En} {k : Nat} (h : k < l.length) : foldM (l.take (k + 1)) = foldM (l.take k) ++ entM l[k] := by
  unfold foldM
  rw [List.take_succ_eq_append_getElem h, entM_tx, mk_append, List.flatMap_append]
  simp only [List.flatMap_cons, List.flatMap_nil, List.append_nil, List.cons_append]
theorem foldM_size {l : List En} (h : entsV l = true) (k : Nat) : (foldM (l.take k)).size ≤ 49 := by
  have h2 := foldB_len (entsV_sub h (List.take_sublist k l))
  unfold foldB at h2
  unfold foldM; rw [mk_size]; exact h2
theorem cat4 (x a b c d : ByteArray) : x ++ (a ++ b ++ c ++ d) = x ++ a ++ b ++ c ++ d := by simp [ByteArray.append_assoc]
set_option maxHeartbeats 4000000 in
set_option maxRecDepth 100000 in
theorem iFolderText_any (A : Option Addr) (c : Nat) (l : List En) (w : World) (hs : Sl w encE 2 A l) (hl : l.length ≤ 16777216) (hf : FitE l) (ht : TzL w) :
    Calls Tryz.prog 103 #[.slice A l.length c] w fun e w' => e = .returned (.string (mk (foldT l))) ∧ Below w.heap.size w w' := by
  have HS := Lib.hid hs
  have HF := Lib.hid hf
  have HT := Lib.hid ht
  have hsv := fun w h => iEntriesValid_any A c l w h hl hf
  clear hs hf ht
  cases hv : entsV l
  · have E := Lib.hid (show mk (foldT l) = ⟨#[]⟩ by unfold foldT; rw [hv]; rfl)
    rw [hv] at hsv
    have HSV := Lib.hid hsv
    clear hsv hv
    rw [E.out]
    go_enter Tryz.func103, Tryz.ntmps103
    go_wp2_with fail
    refine (HSV.out _ HS.out).mono ?_
    rintro e w1 ⟨rfl, hb⟩
    have HB := Lib.hid hb
    clear hb
    go_wp2
    go_ret
    exact ⟨rfl, HB.out⟩
  · have E := Lib.hid (show mk (foldT l) = foldM l by unfold foldT; rw [hv]; rfl)
    rw [hv] at hsv
    have HSV := Lib.hid hsv
    have HSZ := Lib.hid (foldM_size hv)
    have HOK := Lib.hid (fun k (h : k < l.length) => entT_len l[k] (entsV_ok hv (by simp)))
    have hl3 := entsV_len hv
    clear hsv hv
    rw [E.out]
    go_enter Tryz.func103, Tryz.ntmps103
    go_wp2_with fail
    refine (HSV.out _ HS.out).mono ?_
    rintro e w1 ⟨rfl, hb⟩
    have HB := Lib.hid hb
    have HS1 := Lib.hid (HS.out.below hb)
    have HT1 := Lib.hid (HT.out.below hb)
    clear hb
    go_wp2_with fail
    go_loopw [3, 11] (fun v i wr => ∃ (k : Nat) (acc : ByteArray), k ≤ l.length ∧ i = .int .i64 k ∧ v = .string acc ∧ Hid (acc = foldM (l.take k)) ∧ Hid (Below w1.heap.size w1 wr)) (fun _ i _ => l.length - (intOf i).toNat)
    case atStart => exact ⟨0, _, Nat.zero_le _, rfl, rfl, rfl, Below.refl _ _⟩
    case round =>
      obtain ⟨k, acc, hk, rfl, rfl, HA, HBW⟩ := hrel
      by_cases hlt : k < l.length
      · obtain ⟨b, o, rfl, hc0, hc1⟩ := (HS1.out.below HBW.out).getE hlt
        have hst := foldM_take hlt
        have hacc : acc.size ≤ 49 := by rw [HA.out]; exact HSZ.out k
        have HT2 := Lib.hid (HT1.out.below HBW.out)
        have hfk : l[k].1.size ≤ 16777216 := HF.out.at hlt
        generalize l[k] = p at *
        obtain ⟨t, a⟩ := p
        simp only at *
        have hz1 : (mk (hexT a)).size ≤ 6 := by rw [mk_size]; exact hexT_len a
        have hz2 : (t ++ ⟨#[61]⟩).size ≤ 16777217 := by rw [ByteArray.size_append]; exact Nat.add_le_add_right hfk 1
        have hz3 : (t ++ ⟨#[61]⟩ ++ mk (hexT a)).size ≤ 16777223 := by rw [ByteArray.size_append]; exact Nat.add_le_add hz2 hz1
        have hz4 : (t ++ ⟨#[61]⟩ ++ mk (hexT a) ++ ⟨#[59]⟩).size ≤ 16777224 := by rw [ByteArray.size_append]; exact Nat.add_le_add_right hz3 1
        have hq1 := str_add (x := t) (y := ⟨#[61]⟩) (by omega) (by simp [ByteArray.size])
        have hq2 := str_add (x := t ++ ⟨#[61]⟩) (y := mk (hexT a)) (by omega) (by omega)
        have hq3 := str_add (x := t ++ ⟨#[61]⟩ ++ mk (hexT a)) (y := ⟨#[59]⟩) (by omega) (by simp [ByteArray.size])
        have hq4 := str_add (x := acc) (y := t ++ ⟨#[61]⟩ ++ mk (hexT a) ++ ⟨#[59]⟩) (by omega) (by omega)
        have HH := Lib.hid (fun w h => iHexText_any a w h)
        have HN := Lib.hid (show acc ++ (t ++ ⟨#[61]⟩ ++ mk (hexT a) ++ ⟨#[59]⟩) = foldM (l.take (k + 1)) by rw [hst, HA.out]; rfl)
        have HB2 := Lib.hid (HBW.out.alloc HBW.out.size (.cells #[.string t, .int .i64 a] 83))
        have HT3 := Lib.hid (fun p => (HT2.out.below ((Below.refl _ _).alloc (Nat.le_refl _) (.cells #[.string t, .int .i64 a] 83))).below (far_below _ p))
        have hx0 := far_cell (new_cell (w := wr) (cs := #[.string t, .int .i64 a]) (E := 83) (k := 0) rfl)
        have hx1 := far_cell (new_cell (w := wr) (cs := #[.string t, .int .i64 a]) (E := 83) (k := 1) rfl)
        clear hst
        go_wp2
        refine wp_region_far (by kernel_rfl) (by kernel_rfl) ?_
        repeat (go_big_quiet_step ((go_at_call 118; exact far_call (HH.out _ (HT3.out _)))))
        refine wpQuiet_nil ?_
        intro _ hwF
        obtain ⟨pF, hwF⟩ := hwF
        subst hwF
        have HB5 := Lib.hid (Below_then HB2.out (far_below _ pF) (Nat.le_refl _))
        generalize far _ pF = wF at *
        clear hx0 hx1
        go_wp2
        go_roundw
        case rel => exact ⟨k + 1, _, by omega, by go_num, rfl, HN.out, HB5.out⟩
        case measure => simp [intOf]; omega
      · have HE := Lib.hid (show acc = foldM l by rw [HA.out, List.take_of_length_le (by omega)])
        have HB2 := Lib.hid (Below_then HB.out HBW.out (Nat.le_refl _))
        go_wp2
        go_ret
        exact ⟨ret_str HE.out, HB2.out⟩
set_option maxHeartbeats 4000000 in
set_option maxRecDepth 100000 in
theorem sFolderText_any (A : Option Addr) (c : Nat) (l : List En) (w : World) (hs : Sl w encE 2 A l) (hl : l.length ≤ 16777216) (hf : FitE l) :
    Calls Tryz.prog 81 #[.slice A l.length c] w fun e w' => e = .returned (.string (mk (foldT l))) ∧ Below w.heap.size w w' := by
  have HS := Lib.hid hs
  have HF := Lib.hid hf
  have hsv := fun w h => sEntriesValid_any A c l w h hl hf
  clear hs hf
  cases hv : entsV l
  · have E := Lib.hid (show mk (foldT l) = ⟨#[]⟩ by unfold foldT; rw [hv]; rfl)
    rw [hv] at hsv
    have HSV := Lib.hid hsv
    clear hsv hv
    rw [E.out]
    go_enter Tryz.func81, Tryz.ntmps81
    go_wp2_with fail
    refine (HSV.out _ HS.out).mono ?_
    rintro e w1 ⟨rfl, hb⟩
    have HB := Lib.hid hb
    clear hb
    go_wp2
    go_ret
    exact ⟨rfl, HB.out⟩
  · have E := Lib.hid (show mk (foldT l) = foldM l by unfold foldT; rw [hv]; rfl)
    rw [hv] at hsv
    have HSV := Lib.hid hsv
    have HSZ := Lib.hid (foldM_size hv)
    have hl3 := entsV_len hv
    clear hsv hv
    rw [E.out]
    go_enter Tryz.func81, Tryz.ntmps81
    go_wp2_with fail
    refine (HSV.out _ HS.out).mono ?_
    rintro e w1 ⟨rfl, hb⟩
    have HB := Lib.hid hb
    have HS1 := Lib.hid (HS.out.below hb)
    clear hb
    go_wp2_with fail
    go_loopw [3, 4] (fun v i wr => ∃ (k : Nat) (acc : ByteArray), k ≤ l.length ∧ i = .int .i64 k ∧ v = .string acc ∧ Hid (acc = foldM (l.take k)) ∧ Hid (Below w1.heap.size w1 wr)) (fun _ i _ => l.length - (intOf i).toNat)
    case atStart => exact ⟨0, _, Nat.zero_le _, rfl, rfl, rfl, Below.refl _ _⟩
    case round =>
      obtain ⟨k, acc, hk, rfl, rfl, HA, HBW⟩ := hrel
      by_cases hlt : k < l.length
      · obtain ⟨b, o, rfl, hc0, hc1⟩ := (HS1.out.below HBW.out).getE hlt
        have hst := foldM_take hlt
        have hacc : acc.size ≤ 49 := by rw [HA.out]; exact HSZ.out k
        have hfk : l[k].1.size ≤ 16777216 := HF.out.at hlt
        generalize l[k] = p at *
        obtain ⟨t, a⟩ := p
        simp only at *
        have hz1 : (mk (hexT a)).size ≤ 6 := by rw [mk_size]; exact hexT_len a
        have hz0 : (acc ++ t).size ≤ 16777265 := by rw [ByteArray.size_append]; omega
        have hz2 : (acc ++ t ++ ⟨#[61]⟩).size ≤ 16777266 := by rw [ByteArray.size_append]; exact Nat.add_le_add_right hz0 1
        have hz3 : (acc ++ t ++ ⟨#[61]⟩ ++ mk (hexT a)).size ≤ 16777272 := by rw [ByteArray.size_append]; exact Nat.add_le_add hz2 hz1
        have hq0 := str_add (x := acc) (y := t) (by omega) (by omega)
        have hq1 := str_add (x := acc ++ t) (y := ⟨#[61]⟩) (by omega) (by simp [ByteArray.size])
        have hq2 := str_add (x := acc ++ t ++ ⟨#[61]⟩) (y := mk (hexT a)) (by omega) (by omega)
        have hq3 := str_add (x := acc ++ t ++ ⟨#[61]⟩ ++ mk (hexT a)) (y := ⟨#[59]⟩) (by omega) (by simp [ByteArray.size])
        have HH := Lib.hid (fun w => sHexText_any a w)
        have HN := Lib.hid (show acc ++ t ++ ⟨#[61]⟩ ++ mk (hexT a) ++ ⟨#[59]⟩ = foldM (l.take (k + 1)) by rw [hst, HA.out, ← cat4]; rfl)
        replace hc0 := far_cell hc0
        replace hc1 := far_cell hc1
        clear hst
        go_wp2
        refine wp_region_far (by kernel_rfl) (by kernel_rfl) ?_
        repeat (go_big_quiet_step ((go_at_call 93; exact far_same (HH.out _))))
        refine wpQuiet_nil ?_
        intro _ hwF
        obtain ⟨pF, hwF⟩ := hwF
        subst hwF
        have HB5 := Lib.hid (Below_then HBW.out (far_below _ pF) (Nat.le_refl _))
        generalize far _ pF = wF at *
        clear hc0 hc1
        go_wp2
        go_roundw
        case rel => exact ⟨k + 1, _, by omega, by go_num, rfl, HN.out, HB5.out⟩
        case measure => simp [intOf]; omega
      · have HE := Lib.hid (show acc = foldM l by rw [HA.out, List.take_of_length_le (by omega)])
        have HB2 := Lib.hid (Below_then HB.out HBW.out (Nat.le_refl _))
        go_wp2
        go_ret
        exact ⟨ret_str HE.out, HB2.out⟩
end Go.Proofs.YtaeaccakkielmaaGreatDoor

/- CutPrefix at a byte; ReadFolder of the program, walked. -/
set_option linter.unusedVariables false
namespace Go.Proofs.YtaeaccakkielmaaGreatDoor
open Go.RowKit
theorem bs_ne_nil {s : ByteArray} (h : 0 < s.size) : bs s ≠ [] := fun e => by have := size_bs s; rw [e] at this; simp at this; omega
theorem drop1_ext (s : ByteArray) : s.extract 1 s.size = mk ((bs s).tail) := by
  apply ByteArray.ext
  apply Array.ext'
  rw [Lib.extract_data]
  show ((bs s).drop 1).take _ = (bs s).tail
  rw [List.drop_one]
  exact List.take_of_length_le (by rw [List.length_tail]; exact Nat.le_refl _)
theorem take1_ext (s : ByteArray) (h : 0 < s.size) : s.extract 0 1 = mk [s[0]] := by
  apply ByteArray.ext
  apply Array.ext'
  rw [Lib.extract_data]
  show ((bs s).drop 0).take (1 - 0) = [s[0]]
  rw [List.drop_zero, Nat.sub_zero]
  have hp : 0 < (bs s).length := h
  cases hb : bs s with
  | nil => rw [hb] at hp; simp at hp
  | cons x r =>
    have : (bs s)[0] = s[0] := rfl
    simp only [hb, List.getElem_cons_zero] at this
    rw [this]; rfl
def prefV (c : UInt8) (s : ByteArray) : Value := if 0 < s.size ∧ (bs s).headD 0 = c then .tuple #[.string (mk ((bs s).tail)), .bool true] else .tuple #[.string s, .bool false]
theorem head_bs0 {s : ByteArray} (h : 0 < s.size) : (bs s).headD 0 = s[0] := by
  have hp : 0 < (bs s).length := h
  have e : (bs s)[0] = s[0] := rfl
  rw [← e, List.headD_eq_head?_getD, List.head?_eq_getElem?, List.getElem?_eq_getElem hp]; rfl
set_option maxHeartbeats 1000000 in
set_option maxRecDepth 100000 in
theorem hasPre_any (s : ByteArray) (c : UInt8) (w : World) (hs : s.size ≤ 16777216) : Calls Tryz.prog 82 #[.string s, .string ⟨#[c]⟩] w fun e w' => e = .returned (.bool (decide (0 < s.size ∧ (bs s).headD 0 = c))) ∧ w = w' := by
  have h1 : (⟨#[c]⟩ : ByteArray).size = 1 := rfl
  by_cases h0 : 0 < s.size
  · have hz : 1 ≤ s.size := h0
    have hx := take1_ext s h0
    have hb := head_bs0 h0
    by_cases he : s[0] = c
    · have E := Lib.hid (show decide (0 < s.size ∧ (bs s).headD 0 = c) = true from decide_eq_true ⟨h0, hb.trans he⟩)
      have heq : ((s.extract 0 1).toList == [c]) = true := by rw [ByteArray.toList_eq, hx, he]; exact beq_self_eq_true _
      clear hx hb he
      rw [E.out]
      go_enter Tryz.func82, Tryz.ntmps82
      go_wp2
      go_ret
      exact ⟨rfl, rfl⟩
    · have E := Lib.hid (show decide (0 < s.size ∧ (bs s).headD 0 = c) = false from decide_eq_false (fun h => he (hb.symm.trans h.2)))
      have heq : ((s.extract 0 1).toList == [c]) = false := by
        rw [ByteArray.toList_eq, hx, beq_eq_false_iff_ne]; intro e
        have e' : [s[0]] = [c] := e
        injection e' with e' _; exact he e'
      clear hx hb he
      rw [E.out]
      go_enter Tryz.func82, Tryz.ntmps82
      go_wp2
      go_ret
      exact ⟨rfl, rfl⟩
  · have E := Lib.hid (show decide (0 < s.size ∧ (bs s).headD 0 = c) = false from decide_eq_false (fun h => h0 h.1))
    have hz : ¬ 1 ≤ s.size := by omega
    rw [E.out]
    go_enter Tryz.func82, Tryz.ntmps82
    go_wp2
    go_ret
    exact ⟨rfl, rfl⟩
set_option maxHeartbeats 1000000 in
set_option maxRecDepth 100000 in
theorem cutPre_any (s : ByteArray) (c : UInt8) (w : World) (hs : s.size ≤ 16777216) : Calls Tryz.prog 70 #[.string s, .string ⟨#[c]⟩] w fun e w' => e = .returned (prefV c s) ∧ w = w' := by
  have hH := fun w => hasPre_any s c w hs
  have h1 : (⟨#[c]⟩ : ByteArray).size = 1 := rfl
  by_cases h0 : 0 < s.size ∧ (bs s).headD 0 = c
  · have E := Lib.hid (show prefV c s = .tuple #[.string (mk ((bs s).tail)), .bool true] by unfold prefV; rw [if_pos h0])
    rw [decide_eq_true h0] at hH
    have HH := Lib.hid hH
    have hx := drop1_ext s
    have hz : 1 ≤ s.size := h0.1
    clear hH h0
    rw [E.out]
    go_enter Tryz.func70, Tryz.ntmps70
    go_wp2_with (go_at_call 82; refine (HH.out _).mono ?_; rintro e w' ⟨rfl, rfl⟩)
    go_ret2
    exact ⟨rfl, rfl⟩
  · have E := Lib.hid (show prefV c s = .tuple #[.string s, .bool false] by unfold prefV; rw [if_neg h0])
    rw [decide_eq_false h0] at hH
    have HH := Lib.hid hH
    clear hH h0
    rw [E.out]
    go_enter Tryz.func70, Tryz.ntmps70
    go_wp2_with (go_at_call 82; refine (HH.out _).mono ?_; rintro e w' ⟨rfl, rfl⟩)
    go_ret2
    exact ⟨rfl, rfl⟩
set_option maxHeartbeats 1000000 in
set_option maxRecDepth 100000 in
theorem CutPrefix_any (s : ByteArray) (c : UInt8) (w : World) (hs : s.size ≤ 16777216) : Calls Tryz.prog 52 #[.string s, .string ⟨#[c]⟩] w fun e w' => e = .returned (prefV c s) ∧ w = w' := by
  have hH := fun w => cutPre_any s c w hs
  unfold prefV at *
  by_cases h0 : 0 < s.size ∧ (bs s).headD 0 = c
  · simp only [if_pos h0] at hH ⊢
    have HH := Lib.hid hH
    clear hH h0
    go_enter Tryz.func52, Tryz.ntmps52
    go_wp2_with (go_at_call 70; refine (HH.out _).mono ?_; rintro e w' ⟨rfl, rfl⟩)
    go_ret2
    exact ⟨rfl, rfl⟩
  · simp only [if_neg h0] at hH ⊢
    have HH := Lib.hid hH
    clear hH h0
    go_enter Tryz.func52, Tryz.ntmps52
    go_wp2_with (go_at_call 70; refine (HH.out _).mono ?_; rintro e w' ⟨rfl, rfl⟩)
    go_ret2
    exact ⟨rfl, rfl⟩
theorem fitE_nil' : FitE [] := fun p hp => absurd hp List.not_mem_nil
def RfRes (r : Option (List En)) (w : World) (e : Ending) (w' : World) : Prop := ∃ v, e = .returned (.tuple #[v, .bool r.isSome]) ∧ Own w' w.heap.size 83 2 encE v (r.getD []) ∧ Below w.heap.size w w'
theorem RfRes.no {r : Option (List En)} (h : r = none) {w w' : World} (hb : Below w.heap.size w w') : RfRes r w (.returned (.tuple #[.slice none 0 0, .bool false])) w' := by
  subst h; exact ⟨_, rfl, Own.nil, hb⟩
theorem RfRes.yes {r : Option (List En)} {l : List En} (h : r = some l) {w w' : World} {v : Value} (ho : Own w' w.heap.size 83 2 encE v l) (hb : Below w.heap.size w w') : RfRes r w (.returned (.tuple #[v, .bool true])) w' := by
  subst h; exact ⟨_, rfl, ho, hb⟩
theorem readF_head {s : ByteArray} (h : ¬ (0 < s.size ∧ (bs s).headD 0 = 100)) : readF (bs s) = none := readF_none fun l _ e => by
  apply h
  have h2 := size_bs s
  rw [← e] at h2 ⊢
  unfold foldB at h2 ⊢
  rw [List.length_cons] at h2
  exact ⟨by omega, rfl⟩
set_option maxHeartbeats 2000000 in
set_option maxRecDepth 100000 in
theorem iReadFolder_any (s : ByteArray) (w : World) (hs : s.size ≤ 1048576) (ht : TzL w) (hm : MaxL w) :
    Calls Tryz.prog 89 #[.string s] w (RfRes (readF (bs s)) w) := by
  have HT := Lib.hid ht
  have HM := Lib.hid hm
  have hCP := fun w => CutPrefix_any s 100 w (by omega)
  unfold prefV at hCP
  clear ht hm
  by_cases h0 : 0 < s.size ∧ (bs s).headD 0 = 100
  case neg =>
    have E := Lib.hid (readF_head h0)
    simp only [if_neg h0] at hCP
    have HCP := Lib.hid hCP
    clear hCP h0
    go_enter Tryz.func89, Tryz.ntmps89
    go_wp2_with (go_at_call 52; refine (HCP.out _).mono ?_; rintro e w' ⟨rfl, rfl⟩)
    go_ret2
    exact RfRes.no E.out (Below.refl _ _)
  simp only [if_pos h0] at hCP
  have HCP := Lib.hid hCP
  have hne := bs_ne_nil h0.1
  have HC0 := Lib.hid (show FC (bs s) [] (bs s).tail by rw [← List.drop_one]; exact FC.start (bs s))
  have hr0 : ((bs s).tail).length ≤ s.size := by rw [List.length_tail, size_bs]; omega
  have HDN := Lib.hid (fun acc (h : FC (bs s) acc []) => h.done hne)
  clear hCP h0 hne
  generalize hS : bs s = S at *
  generalize S.tail = R0 at *
  have HS := Lib.hid hS
  clear hS
  go_enter Tryz.func89, Tryz.ntmps89
  go_wp2_with (go_at_call 52; refine (HCP.out _).mono ?_; rintro e w' ⟨rfl, rfl⟩)
  go_loopw [4, 6] (fun r v wr => ∃ (rb : ByteArray) (acc : List En), r = .string rb ∧ rb.size ≤ s.size ∧ acc.length ≤ 3 ∧ Hid (FitE acc) ∧ Hid (FC S acc (bs rb)) ∧ Own wr w.heap.size 83 2 encE v acc ∧ Below w.heap.size w wr) (fun r _ _ => match r with | .string x => x.size | _ => 0)
  case atStart => exact ⟨mk R0, [], rfl, by rw [mk_size]; exact hr0, Nat.zero_le _, fitE_nil', HC0.out, Own.nil, Below.refl _ _⟩
  case round =>
    obtain ⟨rb, acc, rfl, hrl, ha3, HF, HC, hown, hb⟩ := hrel
    obtain ⟨X, d, rfl, hle, hsX, _⟩ := hown.sl
    have HW := Lib.hid hown
    have HSX := Lib.hid hsX
    have HB := Lib.hid hb
    clear hown hsX hb
    by_cases hre : rb.size = 0
    · have hnil := nil_tl hre
      have hdn := HDN.out acc (by have := HC.out; rwa [show bs rb = [] from List.eq_nil_of_length_eq_zero hre] at this)
      have HFT := Lib.hid (fun w h h2 => iFolderText_any X d acc w h (by omega) HF.out h2)
      clear hre
      by_cases he : foldT acc = S
      · rw [if_pos he] at hdn
        have HE := Lib.hid hdn
        have heq : ((mk (foldT acc)).toList == s.toList) = true := by rw [eq_tlx, HS.out]; exact beq_iff_eq.2 he
        clear hdn he
        go_wp2_with fail
        refine (HFT.out _ HSX.out (HT.out.below HB.out)).mono ?_
        rintro e w1 ⟨rfl, hb1⟩
        have HW1 := Lib.hid (HW.out.below hb1)
        have HB1 := Lib.hid (Below_then HB.out hb1 (Nat.le_refl _))
        clear hb1
        go_wp2
        go_ret2
        exact RfRes.yes HE.out HW1.out HB1.out
      · rw [if_neg he] at hdn
        have HE := Lib.hid hdn
        have heq : ((mk (foldT acc)).toList == s.toList) = false := by rw [eq_tlx, HS.out]; exact beq_eq_false_iff_ne.2 he
        clear hdn he
        go_wp2_with fail
        refine (HFT.out _ HSX.out (HT.out.below HB.out)).mono ?_
        rintro e w1 ⟨rfl, hb1⟩
        have HB1 := Lib.hid (Below_then HB.out hb1 (Nat.le_refl _))
        clear hb1
        go_wp2
        go_ret2
        exact RfRes.no HE.out HB1.out
    · have hpos : 0 < rb.size := by omega
      obtain ⟨hne, hne2⟩ := ne_tl (s := rb) hpos
      have hnb := bs_ne_nil hpos
      have hct := fun w h => Cut_any rb 59 w (by omega) h
      unfold cutV at hct
      clear hre
      cases hcu : cutC 59 (bs rb) with
      | none =>
        have HE := Lib.hid (HC.out.fail1 hnb hcu)
        simp only [hcu] at hct
        have HCT := Lib.hid hct
        have hc2 := fun w h => Cut_any rb 61 w (by omega) h
        unfold cutV at hc2
        clear hct hcu hnb
        cases hcv : cutC 61 (bs rb) with
        | none =>
          simp only [hcv] at hc2
          have HC2 := Lib.hid hc2
          clear hc2 hcv
          go_wp2_with fail
          refine (HCT.out _ (HM.out.below HB.out)).mono ?_
          rintro e w1 ⟨rfl, hb1⟩
          have HB1 := Lib.hid (Below_then HB.out hb1 (Nat.le_refl _))
          clear hb1
          go_wp2_with fail
          refine (HC2.out _ (HM.out.below HB1.out)).mono ?_
          rintro e w2 ⟨rfl, hb2⟩
          have HB2 := Lib.hid (Below_then HB1.out hb2 (Nat.le_refl _))
          clear hb2
          go_wp2
          go_ret2
          exact RfRes.no HE.out HB2.out
        | some x =>
          simp only [hcv] at hc2
          have HC2 := Lib.hid hc2
          clear hc2 hcv
          go_wp2_with fail
          refine (HCT.out _ (HM.out.below HB.out)).mono ?_
          rintro e w1 ⟨rfl, hb1⟩
          have HB1 := Lib.hid (Below_then HB.out hb1 (Nat.le_refl _))
          clear hb1
          go_wp2_with fail
          refine (HC2.out _ (HM.out.below HB1.out)).mono ?_
          rintro e w2 ⟨rfl, hb2⟩
          have HB2 := Lib.hid (Below_then HB1.out hb2 (Nat.le_refl _))
          clear hb2
          go_wp2
          go_ret2
          exact RfRes.no HE.out HB2.out
      | some x =>
        obtain ⟨pp, aa⟩ := x
        have hlen := cutC_len hcu
        have hpz : (mk pp).size ≤ 16777216 := by rw [mk_size]; omega
        have haz : (mk aa).size < rb.size := by rw [mk_size]; omega
        simp only [hcu] at hct
        have HCT := Lib.hid hct
        have hc2 := fun w h => Cut_any (mk pp) 61 w hpz h
        unfold cutV at hc2
        rw [show bs (mk pp) = pp from rfl] at hc2
        have HF2 := Lib.hid (fun h => HC.out.fail2 hnb hcu h)
        have HF3 := Lib.hid (fun h => HC.out.fail3 hnb h)
        have HST := Lib.hid (fun n dg h => HC.out.step (n := n) (d := dg) hnb hcu h)
        clear hct hcu
        cases hcv : cutC 61 pp with
        | none =>
          have HE := Lib.hid (HF2.out hcv)
          simp only [hcv] at hc2
          have HC2 := Lib.hid hc2
          clear hc2 hcv hnb hlen HF2 HF3 HST
          generalize mk pp = PP at *
          generalize mk aa = AA at *
          go_wp2_with fail
          refine (HCT.out _ (HM.out.below HB.out)).mono ?_
          rintro e w1 ⟨rfl, hb1⟩
          have HB1 := Lib.hid (Below_then HB.out hb1 (Nat.le_refl _))
          clear hb1
          go_wp2_with fail
          refine (HC2.out _ (HM.out.below HB1.out)).mono ?_
          rintro e w2 ⟨rfl, hb2⟩
          have HB2 := Lib.hid (Below_then HB1.out hb2 (Nat.le_refl _))
          clear hb2
          go_wp2
          go_ret2
          exact RfRes.no HE.out HB2.out
        | some y =>
          obtain ⟨nn, dg⟩ := y
          have hlen2 := cutC_len (s := mk pp) hcv
          rw [mk_size] at hlen2
          have hnz : (mk nn).size ≤ 16777216 := by rw [mk_size]; omega
          have hdz : (mk dg).size ≤ 16777216 := by rw [mk_size]; omega
          simp only [hcv] at hc2
          have HC2 := Lib.hid hc2
          have HRH := Lib.hid (fun w h => iReadHex_any (mk dg) w hdz h)
          rw [show bs (mk dg) = dg from rfl] at HRH
          have HN := Lib.hid (show FC S (acc ++ [(mk nn, readH dg)]) (bs (mk aa)) from HST.out nn dg hcv)
          have HFN := Lib.hid (show FitE (acc ++ [(mk nn, readH dg)]) from fun q hq => by
            rcases List.mem_append.1 hq with h | h
            · exact HF.out q h
            · rw [List.mem_singleton.1 h]; exact hnz)
          clear hc2 hcv hnb hlen hlen2 HF2 HST
          generalize readH dg = hx at *
          generalize mk pp = PP at *
          generalize mk aa = AA at *
          generalize mk dg = DG at *
          generalize mk nn = NN at *
          by_cases h3 : acc.length = 3
          · have HE := Lib.hid (HF3.out (by omega))
            have h3' : (acc.length : Int) = 3 := by omega
            clear HN HFN
            go_wp2_with fail
            refine (HCT.out _ (HM.out.below HB.out)).mono ?_
            rintro e w1 ⟨rfl, hb1⟩
            have HB1 := Lib.hid (Below_then HB.out hb1 (Nat.le_refl _))
            clear hb1
            go_wp2_with fail
            refine (HC2.out _ (HM.out.below HB1.out)).mono ?_
            rintro e w2 ⟨rfl, hb2⟩
            have HB2 := Lib.hid (Below_then HB1.out hb2 (Nat.le_refl _))
            clear hb2
            go_wp2
            go_ret2
            exact RfRes.no HE.out HB2.out
          · have h3' : ¬ (acc.length : Int) = 3 := by omega
            go_wp2_with fail
            refine (HCT.out _ (HM.out.below HB.out)).mono ?_
            rintro e w1 ⟨rfl, hb1⟩
            have HW1 := Lib.hid (HW.out.below hb1)
            have HB1 := Lib.hid (Below_then HB.out hb1 (Nat.le_refl _))
            clear hb1
            go_wp2_with fail
            refine (HC2.out _ (HM.out.below HB1.out)).mono ?_
            rintro e w2 ⟨rfl, hb2⟩
            have HW2 := Lib.hid (HW1.out.below hb2)
            have HB2 := Lib.hid (Below_then HB1.out hb2 (Nat.le_refl _))
            clear hb2
            go_wp2_with fail
            refine (HRH.out _ (HT.out.below HB2.out)).mono ?_
            rintro e w3 ⟨rfl, hb3⟩
            have HW3 := Lib.hid (HW2.out.below hb3)
            have HB3 := Lib.hid (Below_then HB2.out hb3 (Nat.le_refl _))
            clear hb3
            go_wp2_with (at_builtin; refine app_en (w0 := w) (y := (NN, hx)) rfl rfl rfl rfl HW3.out HB3.out (Nat.le_refl _) HB3.out.size (by omega) ?_; intro v4 w4 hown4 hb4; have HW4 := Lib.hid hown4; have HB4 := Lib.hid hb4; clear hown4 hb4)
            go_roundw
            case rel => exact ⟨AA, _, rfl, by omega, by simp; omega, HFN.out, HN.out, HW4.out, HB4.out⟩
            case measure => simpa using haz
end Go.Proofs.YtaeaccakkielmaaGreatDoor

/- JoinPath and PathParts of the program: the library's Join and SplitN at a slash. -/
set_option linter.unusedVariables false
namespace Go.Proofs.YtaeaccakkielmaaGreatDoor
open Go.RowKit
--BEGIN
theorem splitS_len (s : Bs) : 1 ≤ (splitS 47 s).length ∧ (splitS 47 s).length ≤ s.length + 1 := by
  induction s with
  | nil => simp [splitS]
  | cons c r ih =>
    rw [splitS]
    split
    · simp; omega
    · split
      · rename_i p ps h; rw [h] at ih; simp at ih ⊢; omega
      · simp
theorem splitK_splitS : ∀ (s : Bs) (k : Nat), (splitS 47 s).length ≤ k + 1 → Go.Lib.splitK [47] 0 k s = splitS 47 s
  | [], k, _ => by cases k <;> simp [Go.Lib.splitK, splitS, index_nil]
  | c :: r, k, h => by
    rw [splitS] at h ⊢
    by_cases e : c = 47
    · subst e
      rw [if_pos rfl] at h ⊢
      have := (splitS_len r).1
      cases k with
      | zero => rw [List.length_cons] at h; omega
      | succ k => rw [splitK_hit, splitK_splitS r k (by simpa using h)]
    · rw [if_neg e] at h ⊢
      rw [splitK_skip e, splitK_splitS r k ?_]
      · cases hs : splitS 47 r with
        | nil => exact absurd hs (splitS_ne 47 r)
        | cons p ps => rfl
      · cases hs : splitS 47 r with
        | nil => exact absurd hs (splitS_ne 47 r)
        | cons p ps => rw [hs] at h; simpa using h
def partsB (s : ByteArray) : List ByteArray := Go.Lib.splitB ⟨#[47]⟩ 0 (min 4 (s.size + 1) - 1) s
theorem partsB_map (s : ByteArray) : (partsB s).map bs = Go.Lib.splitK [47] 0 (min 4 (s.size + 1) - 1) (bs s) := Go.Lib.splitB_data ⟨#[47]⟩ 0 _ s
theorem partsB_len (s : ByteArray) : (partsB s).length ≤ min 4 (s.size + 1) := by
  have := Go.Lib.splitB_length_le ⟨#[47]⟩ 0 (min 4 (s.size + 1) - 1) s
  unfold partsB; omega
theorem pathP_back {s : Bs} {ps : List Bs} (h0 : s ≠ []) (h : joinP ps = s) : pathP s = some ps := by
  cases hv : partsV ps
  · unfold joinP at h; rw [hv] at h; exact absurd h.symm h0
  · rw [← h]; exact pathP_of hv
theorem path_parts {r : ByteArray} {s : Bs} (hs : s = 47 :: bs r) (h1 : s ≠ [47]) : (pathP s).isSome = decide (joinP ((partsB r).map bs) = s) := by
  have h0 : s ≠ [] := by rw [hs]; simp
  by_cases hj : joinP ((partsB r).map bs) = s
  · rw [pathP_back h0 hj, decide_eq_true hj]; rfl
  · rw [decide_eq_false hj]
    unfold pathP
    rw [if_neg h1, hs]
    rw [List.headD_cons, List.tail_cons, if_pos rfl]
    by_cases hv : partsV (splitS 47 (bs r)) = true
    case neg => rw [if_neg hv]; rfl
    case pos =>
      exfalso
      apply hj
      have hl := (partsV_iff.1 hv).1
      have h2 := (splitS_len (bs r)).2
      have h3 := size_bs r
      rw [partsB_map, splitK_splitS _ _ (by omega)]
      unfold joinP
      rw [hv, if_pos rfl, if_neg (splitS_ne _ _), joinB_split, hs]
theorem joinB_join (p : Bs) (r : List Bs) : 47 :: Go.Lib.join (p :: r) [47] = joinB (p :: r) := by
  induction r generalizing p with
  | nil => rw [Go.Lib.join_one]; simp [joinB]
  | cons q t ih =>
    have e : Go.Lib.join (p :: q :: t) [47] = p ++ 47 :: Go.Lib.join (q :: t) [47] := by simp [Go.Lib.join, List.intercalate]
    rw [e, ih q]; simp [joinB]
theorem joinB_size : ∀ (l : List ByteArray), (∀ p ∈ l, p.size ≤ 8) → (joinB (l.map bs)).length ≤ 9 * l.length
  | [], _ => by simp [joinB]
  | p :: r, h => by
    have ih := joinB_size r fun x hx => h x (by simp [hx])
    have hp := h p (by simp)
    have e : joinB ((p :: r).map bs) = 47 :: (bs p ++ joinB (r.map bs)) := by simp [joinB]
    rw [e, List.length_cons, List.length_append, List.length_cons, size_bs]
    omega
def joinT (l : List ByteArray) : ByteArray := mk (Go.Lib.join (l.map bs) [47])
theorem joinT_all {l : List ByteArray} (h3 : l.length ≤ 3) (h : ∀ j (hj : j < l.length), wordV (bs l[j]) = true) : mk [47] ++ joinT l = mk (joinP (l.map bs)) := by
  unfold joinP joinT
  rw [joinP_good h3 h, if_pos rfl, mk_append]
  cases l with
  | nil => rfl
  | cons p r => rw [if_neg (by simp)]; exact congrArg mk (joinB_join (bs p) (r.map bs))
theorem joinT_size {l : List ByteArray} (h3 : l.length ≤ 3) (h : ∀ p ∈ l, p.size ≤ 8) : (joinT l).size ≤ 27 := by
  unfold joinT
  rw [mk_size]
  cases l with
  | nil => simp [Go.Lib.join, List.intercalate]
  | cons p r =>
    have h1 := congrArg List.length (joinB_join (bs p) (r.map bs))
    have h2 := joinB_size (p :: r) h
    rw [List.length_cons] at h1
    simp only [List.map_cons, List.length_cons] at h1 h2 h3 ⊢
    omega
--END
theorem cell_lt {w : World} {b o : Nat} {v : Value} (h : w.cell? ⟨b, o, none⟩ = some v) : b < w.heap.size := by
  by_cases hb : b < w.heap.size
  · exact hb
  · have : w.heap[b]? = none := Array.getElem?_eq_none (by omega)
    simp [World.cell?, this] at h
theorem Join_any (A : Option Addr) (c : Nat) (l : List ByteArray) (w : World) (hs : Sl w encS 1 A l) (hle : l.length ≤ c) (h3 : l.length ≤ 3) (hf : ∀ p ∈ l, p.size ≤ 8) :
    Calls Tryz.prog 72 #[.slice A l.length c, .string ⟨#[47]⟩] w fun e w' => e = .returned (.string (joinT l)) ∧ Below w.heap.size w w' := by
  cases l with
  | nil => exact (Tryz.strings_Join_none A c ⟨#[47]⟩ w).mono fun e w' ⟨h1, h2⟩ => ⟨by rw [h1]; rfl, by rw [h2]; exact Below.refl _ _⟩
  | cons p r =>
    have hz := joinT_size h3 hf
    obtain ⟨b, o, rfl, hc0⟩ := hs.getS (k := 0) (by simp)
    refine (Tryz.strings_Join b o c (p :: r) ⟨#[47]⟩ w (fun j x hx => ?_) (cell_lt hc0) (by simp at h3 ⊢; omega) hle ?_).mono fun e w' h => ⟨h.1, h.2⟩
    · obtain ⟨hj, rfl⟩ := List.getElem?_eq_some_iff.1 hx
      obtain ⟨b2, o2, e, hc⟩ := hs.getS hj
      injection e with e; injection e with e1 e2
      subst e1 e2; exact hc
    · unfold joinT at hz
      rw [mk_size] at hz
      have e : (Go.Lib.join ((p :: r).map (·.data.toList)) (⟨#[47]⟩ : ByteArray).data.toList).length = (Go.Lib.join ((p :: r).map bs) [47]).length := rfl
      omega
theorem SplitN_any (s : ByteArray) (w : World) (hs : s.size ≤ 16777216) (hm : MaxL w) : Calls Tryz.prog 53 #[.string s, .string ⟨#[47]⟩, .int .i64 4] w fun e w' =>
    ∃ A c, e = .returned (.slice A (partsB s).length c) ∧ (partsB s).length ≤ c ∧ Sl w' encS 1 A (partsB s) ∧ Below w.heap.size w w' := by
  obtain ⟨m, hm⟩ := hm
  refine (Tryz.strings_SplitN s ⟨#[47]⟩ 4 m w (by omega) hm (by decide) (by decide) (by decide)).mono fun e w' ⟨h1, h2⟩ => ?_
  refine ⟨_, _, h1, partsB_len s, ?_, by rw [h2]; exact (Below.refl _ _).alloc (Nat.le_refl _) _⟩
  intro _
  refine ⟨w.heap.size, 0, rfl, fun j u hu => ?_⟩
  rw [h2, cell_of_row _ _ _ _ _ (0, 0) (heap_alloc_new w _)]
  rw [Nat.zero_add]
  have e : ∀ l : List ByteArray, flat encS l = l.map Value.string := fun l => by
    unfold flat
    induction l with
    | nil => rfl
    | cons x r ih => rw [List.flatMap_cons, ih]; rfl
  rw [e] at hu
  have hj := (List.getElem?_eq_some_iff.1 hu).1
  unfold partsB at hu hj
  unfold Go.Lib.cellsOf
  rw [List.getElem?_toArray, List.getElem?_append_left hj]
  exact hu
set_option maxHeartbeats 2000000 in
set_option maxRecDepth 100000 in
theorem iJoinPath_any (A : Option Addr) (c : Nat) (l : List ByteArray) (w : World) (hs : Sl w encS 1 A l) (hle : l.length ≤ c) (hl : l.length ≤ 16777216) (hf : ∀ p ∈ l, p.size ≤ 16777216) :
    Calls Tryz.prog 54 #[.slice A l.length c] w fun e w' => e = .returned (.string (mk (joinP (l.map bs)))) ∧ Below w.heap.size w w' := by
  have HS := Lib.hid hs
  have HF := Lib.hid hf
  by_cases h3 : 3 < l.length
  · have E := Lib.hid (joinP_long h3)
    rw [E.out, mk_nil]
    have h3' : (3 : Int) < (l.length : Int) := by omega
    clear hs hf
    go_enter Tryz.func54, Tryz.ntmps54
    go_wp2
    go_ret
    exact ⟨rfl, Below.refl _ _⟩
  · have h3b : ¬ (3 : Int) < (l.length : Int) := by omega
    have HB := Lib.hid (fun k (hk : k < l.length) h => @joinP_bad l k hk h)
    have HJN := Lib.hid (fun h8 => Join_any A c l w hs hle (by omega) h8)
    have HE := Lib.hid (@joinT_all l (by omega))
    have HZ := Lib.hid (@joinT_size l (by omega))
    generalize joinT l = T at *
    generalize hJ : mk (joinP (l.map bs)) = J at *
    have HJ := Lib.hid hJ
    clear hJ hs hf
    go_enter Tryz.func54, Tryz.ntmps54
    go_wp2
    go_loop [10] (fun i => ∃ (k : Nat), k ≤ l.length ∧ i = .int .i64 k ∧ Hid (∀ j (h : j < l.length), j < k → wordV (bs l[j]) = true)) (fun i => l.length - (intOf i).toNat)
    case atStart => exact ⟨0, Nat.zero_le _, rfl, fun j h h2 => by omega⟩
    case round =>
      obtain ⟨k, hk, rfl, HH⟩ := hrel
      by_cases hlt : k < l.length
      · obtain ⟨b, o, rfl, hc⟩ := HS.out.getS hlt
        have hzp := HF.out _ (List.getElem_mem hlt)
        have HBk := Lib.hid (fun h => HB.out k hlt h)
        have HSTk := Lib.hid (fun (h : wordV (bs l[k]) = true) => show ∀ j (hj : j < l.length), j < k + 1 → wordV (bs l[j]) = true from fun j hj h2 => by
          by_cases e : j = k
          · subst e; exact h
          · exact HH.out j hj (by omega))
        generalize l[k] = p at *
        have hW := fun w => iWordValid_any p w hzp
        cases hw : wordV (bs p)
        · have HN := Lib.hid (show J = ⟨#[]⟩ by rw [← HJ.out, HBk.out hw]; rfl)
          rw [hw] at hW
          have HW := Lib.hid hW
          clear hW hw HSTk HBk
          go_wp2_with (go_at_call 64; refine (HW.out _).mono ?_; rintro e w' ⟨rfl, rfl⟩)
          go_ret
          rw [HN.out]
          exact ⟨rfl, Below.refl _ _⟩
        · have HN := Lib.hid (HSTk.out hw)
          rw [hw] at hW
          have HW := Lib.hid hW
          clear hW hw HSTk HBk
          go_wp2_with (go_at_call 64; refine (HW.out _).mono ?_; rintro e w' ⟨rfl, rfl⟩)
          go_round
          case rel => exact ⟨k + 1, by omega, by go_num, HN.out⟩
          case measure => simp [intOf]; omega
      · have hall := fun j (hj : j < l.length) => HH.out j hj (by omega)
        have h8 : ∀ p ∈ l, p.size ≤ 8 := fun p hp => by
          obtain ⟨i, hi, rfl⟩ := List.getElem_of_mem hp
          exact word_size (hall i hi)
        have HN := Lib.hid (show J = ⟨#[47]⟩ ++ T from (HE.out hall).symm)
        have hz := HZ.out h8
        have HJ8 := Lib.hid (HJN.out h8)
        clear hall h8
        go_wp2_with fail
        refine HJ8.out.mono ?_
        rintro e w2 ⟨rfl, hb⟩
        have HB2 := Lib.hid hb
        clear hb
        go_wp2
        go_ret
        rw [HN.out]
        exact ⟨rfl, HB2.out⟩
end Go.Proofs.YtaeaccakkielmaaGreatDoor

/- PathParts and QuotasValid of the program, walked. -/
set_option linter.unusedVariables false
namespace Go.Proofs.YtaeaccakkielmaaGreatDoor
open Go.RowKit
theorem pre_yes (r : Bs) : Go.Lib.hasPrefix (47 :: r) [47] = true ∧ Go.Lib.trimPrefix (47 :: r) [47] = r := by
  constructor
  · simp [Go.Lib.hasPrefix]
  · simp [Go.Lib.trimPrefix, Go.Lib.hasPrefix]
theorem pre_no {s : Bs} (h : s.headD 0 ≠ 47) : Go.Lib.hasPrefix s [47] = false := by
  cases s with
  | nil => rfl
  | cons x r =>
    simp at h
    have h2 : ((47 : UInt8) == x) = false := beq_eq_false_iff_ne.2 (fun e => h (Eq.symm e))
    show ((47 : UInt8) == x && ([] : Bs).isPrefixOf r) = false
    rw [h2]; rfl
theorem path_head {s : Bs} (h1 : s ≠ [47]) (h : s.headD 0 ≠ 47) : pathP s = none := by
  unfold pathP; rw [if_neg h1, if_neg h]
theorem head_cons {s : ByteArray} (h : (bs s).headD 0 = 47) : ∃ r : ByteArray, bs s = 47 :: bs r ∧ r.size ≤ s.size := by
  cases hs : bs s with
  | nil => rw [hs] at h; exact absurd h (by decide)
  | cons x r =>
    rw [hs] at h; simp at h; subst h
    refine ⟨mk r, rfl, ?_⟩
    have := size_bs s
    rw [hs] at this; rw [mk_size]; simp at this; omega
theorem CutSl_yes {s r : ByteArray} (w : World) (h : bs s = 47 :: bs r) : Calls Tryz.prog 52 #[.string s, .string ⟨#[47]⟩] w fun e w' => e = .returned (.tuple #[.string r, .bool true]) ∧ w = w' := by
  refine (Tryz.strings_CutPrefix s ⟨#[47]⟩ w).mono fun e w' ⟨h1, h2⟩ => ⟨?_, h2.symm⟩
  rw [h1]
  have e1 : s.data.toList = 47 :: bs r := h
  rw [e1]
  have h3 := pre_yes (bs r)
  rw [show (⟨#[47]⟩ : ByteArray).data.toList = [47] from rfl, h3.1, h3.2]
theorem CutSl_no {s : ByteArray} (w : World) (h : (bs s).headD 0 ≠ 47) : Calls Tryz.prog 52 #[.string s, .string ⟨#[47]⟩] w fun e w' => (∃ x, e = .returned (.tuple #[.string x, .bool false])) ∧ w = w' := by
  refine (Tryz.strings_CutPrefix s ⟨#[47]⟩ w).mono fun e w' ⟨h1, h2⟩ => ⟨?_, h2.symm⟩
  rw [h1]
  have h3 := pre_no h
  rw [show (⟨#[47]⟩ : ByteArray).data.toList = [47] from rfl, h3]
  exact ⟨_, rfl⟩
theorem splitK_size : ∀ (s : Bs) (k : Nat) (p : Bs), p ∈ Go.Lib.splitK [47] 0 k s → p.length ≤ s.length
  | [], k, p, hp => by
    have e : Go.Lib.splitK [47] 0 k [] = [[]] := by cases k <;> simp [Go.Lib.splitK, index_nil]
    rw [e] at hp; rw [List.mem_singleton.1 hp]; exact Nat.le_refl _
  | c :: r, k, p, hp => by
    by_cases e : c = 47
    · subst e
      cases k with
      | zero =>
        have e : Go.Lib.splitK [47] 0 0 (47 :: r) = [47 :: r] := rfl
        rw [e] at hp; rw [List.mem_singleton.1 hp]; exact Nat.le_refl _
      | succ k =>
        rw [splitK_hit] at hp
        rcases List.mem_cons.1 hp with h | h
        · rw [h]; exact Nat.zero_le _
        · exact Nat.le_trans (splitK_size r k p h) (Nat.le_succ _)
    · rw [splitK_skip e] at hp
      have ih := splitK_size r k
      cases hs : Go.Lib.splitK [47] 0 k r with
      | nil => exact absurd hs (splitK_ne _ _ _)
      | cons q t =>
        rw [hs] at hp ih
        rcases List.mem_cons.1 hp with h | h
        · rw [h, List.length_cons, List.length_cons]; exact Nat.succ_le_succ (ih q (by simp))
        · exact Nat.le_trans (ih p (by simp [h])) (Nat.le_succ _)
theorem partsB_size {r p : ByteArray} (h : p ∈ partsB r) : p.size ≤ r.size := by
  have h2 : bs p ∈ (partsB r).map bs := List.mem_map.2 ⟨p, h, rfl⟩
  rw [partsB_map] at h2
  exact splitK_size _ _ _ h2
def PathI (s : ByteArray) (w : World) (e : Ending) (w' : World) : Prop := ∃ v, e = .returned (.tuple #[v, .bool (pathP (bs s)).isSome]) ∧ Below w.heap.size w w'
/-- The program's PathParts: the parts, as a slice, and whether there are some. -/
def PathS (s : ByteArray) (w : World) (e : Ending) (w' : World) : Prop :=
  ∃ (l : List ByteArray) (A : Option Addr) (c : Nat), l = ((pathP (bs s)).getD []).map mk ∧ e = .returned (.tuple #[.slice A l.length c, .bool (pathP (bs s)).isSome]) ∧ l.length ≤ c ∧ Sl w' encS 1 A l ∧ Below w.heap.size w w'
theorem PathS.bool {s : ByteArray} {w w' : World} {e : Ending} (h : PathS s w e w') : PathI s w e w' := by
  obtain ⟨l, A, c, _, rfl, _, _, hb⟩ := h
  exact ⟨_, rfl, hb⟩
theorem PathS.no {s : ByteArray} {w w' : World} (h : pathP (bs s) = none) (hb : Below w.heap.size w w') : PathS s w (.returned (.tuple #[.slice none 0 0, .bool false])) w' := by
  refine ⟨[], none, 0, by rw [h]; rfl, by rw [h]; rfl, Nat.le_refl _, Sl.none_, hb⟩
theorem PathS.root {s : ByteArray} {w w' : World} (h : pathP (bs s) = some []) (hb : Below w.heap.size w w') : PathS s w (.returned (.tuple #[.slice none 0 0, .bool true])) w' := by
  refine ⟨[], none, 0, by rw [h]; rfl, by rw [h]; rfl, Nat.le_refl _, Sl.none_, hb⟩
theorem map_mk_bs (l : List ByteArray) : (l.map bs).map mk = l := by
  rw [List.map_map]
  exact (List.map_congr_left fun x _ => mk_tx x).trans (List.map_id _)
theorem PathS.yes {s : ByteArray} {l : List ByteArray} {w w' : World} {A : Option Addr} {c : Nat} (h : pathP (bs s) = some (l.map bs)) (hle : l.length ≤ c) (hsl : Sl w' encS 1 A l) (hb : Below w.heap.size w w') : PathS s w (.returned (.tuple #[.slice A l.length c, .bool true])) w' := by
  refine ⟨l, A, c, by rw [h, Option.getD_some, map_mk_bs], by rw [h]; rfl, hle, hsl, hb⟩
theorem path_parts_no {r : ByteArray} {s : Bs} (hs : s = 47 :: bs r) (h1 : s ≠ [47]) (h : ¬ joinP ((partsB r).map bs) = s) : pathP s = none := by
  have := path_parts hs h1
  rw [decide_eq_false h] at this
  cases hp : pathP s with
  | none => rfl
  | some x => rw [hp] at this; cases this
set_option maxHeartbeats 4000000 in
set_option maxRecDepth 100000 in
theorem iPathPartsS_any (s : ByteArray) (w : World) (hs : s.size ≤ 1048576) (hm : MaxL w) : Calls Tryz.prog 30 #[.string s] w (PathS s w) := by
  cases h1 : (s.toList == [47])
  case true =>
    have hE : bs s = [47] := by rw [ByteArray.toList_eq] at h1; exact beq_iff_eq.1 h1
    have HE := Lib.hid (show pathP (bs s) = some [] by rw [hE]; decide)
    clear hE
    go_enter Tryz.func30, Tryz.ntmps30
    go_wp2
    go_ret2
    exact PathS.root HE.out (Below.refl _ _)
  case false =>
    have hne47 : bs s ≠ [47] := fun e => by rw [ByteArray.toList_eq] at h1; change (bs s == [47]) = false at h1; rw [e] at h1; cases h1
    by_cases hh : (bs s).headD 0 = 47
    case neg =>
      have HE := Lib.hid (path_head hne47 hh)
      have HC := Lib.hid (fun w => CutSl_no w hh)
      clear hne47 hh
      go_enter Tryz.func30, Tryz.ntmps30
      go_wp2_with fail
      refine (HC.out _).mono ?_
      rintro e w2 ⟨⟨x, rfl⟩, rfl⟩
      go_wp2
      go_ret2
      exact PathS.no HE.out (Below.refl _ _)
    case pos =>
      obtain ⟨r, hr, hrz⟩ := head_cons hh
      have hnn : bs s ≠ [] := by rw [hr]; simp
      have hNo := path_parts_no hr hne47
      have HC := Lib.hid (fun w => CutSl_yes w hr)
      have HSP := Lib.hid (SplitN_any r w (by omega) hm)
      have hpl := partsB_len r
      have hpz : ∀ p ∈ partsB r, p.size ≤ 16777216 := fun p hp => by
        have := partsB_size hp; omega
      have HJ := Lib.hid (fun A c w h h2 => iJoinPath_any A c (partsB r) w h h2 (by omega) hpz)
      clear hne47 hh hr hpz
      generalize partsB r = P at *
      by_cases he : joinP (P.map bs) = bs s
      · have heq : ((mk (joinP (P.map bs))).toList == s.toList) = true := by rw [eq_tlx]; exact beq_iff_eq.2 he
        have HE := Lib.hid (pathP_back hnn he)
        clear hNo he hnn
        generalize mk (joinP (P.map bs)) = JJ at *
        go_enter Tryz.func30, Tryz.ntmps30
        go_wp2_with (go_at_call 52; refine (HC.out _).mono ?_; rintro e w' ⟨rfl, rfl⟩)
        refine HSP.out.mono ?_
        rintro e w2 ⟨A, c, rfl, hle, hsl, hb⟩
        have HB := Lib.hid hb
        have HS := Lib.hid hsl
        clear hb hsl
        go_wp2_with fail
        refine (HJ.out _ _ _ HS.out hle).mono ?_
        rintro e w3 ⟨rfl, hb⟩
        have HB3 := Lib.hid (Below_then HB.out hb (Nat.le_refl _))
        have HS3 := Lib.hid (HS.out.below hb)
        clear hb
        go_wp2
        go_ret2
        exact PathS.yes HE.out hle HS3.out HB3.out
      · have heq : ((mk (joinP (P.map bs))).toList == s.toList) = false := by rw [eq_tlx]; exact beq_eq_false_iff_ne.2 he
        have HE := Lib.hid (hNo he)
        clear hNo he hnn
        generalize mk (joinP (P.map bs)) = JJ at *
        go_enter Tryz.func30, Tryz.ntmps30
        go_wp2_with (go_at_call 52; refine (HC.out _).mono ?_; rintro e w' ⟨rfl, rfl⟩)
        refine HSP.out.mono ?_
        rintro e w2 ⟨A, c, rfl, hle, hsl, hb⟩
        have HB := Lib.hid hb
        have HS := Lib.hid hsl
        clear hb hsl
        go_wp2_with fail
        refine (HJ.out _ _ _ HS.out hle).mono ?_
        rintro e w3 ⟨rfl, hb⟩
        have HB3 := Lib.hid (Below_then HB.out hb (Nat.le_refl _))
        have HS3 := Lib.hid (HS.out.below hb)
        clear hb
        go_wp2
        go_ret2
        exact PathS.no HE.out HB3.out
theorem iPathParts_any (s : ByteArray) (w : World) (hs : s.size ≤ 1048576) (hm : MaxL w) : Calls Tryz.prog 30 #[.string s] w (PathI s w) :=
  (iPathPartsS_any s w hs hm).mono fun _ _ h => h.bool
set_option maxHeartbeats 4000000 in
set_option maxRecDepth 100000 in
theorem iQuotasValid_any (A : Option Addr) (c : Nat) (l : List Qt) (w : World) (hs : Sl w encQ 2 A l) (hle : l.length ≤ c) (hl : l.length ≤ 16777216) (hf : FitQ l) (hm : MaxL w) :
    Calls Tryz.prog 43 #[.slice A l.length c] w fun e w' => e = .returned (.bool (quoV l)) ∧ Below w.heap.size w w' := by
  have HS := Lib.hid hs
  have HF := Lib.hid hf
  have HMX := Lib.hid hm
  have HNO := Lib.hid (fun k (hk : k < l.length) h => @quoV_no l k hk h)
  have HALL := Lib.hid (@quoV_all l)
  have HLG := Lib.hid (@quoV_long l)
  generalize quoV l = R at *
  clear hs hf hm
  by_cases h6 : 6 < l.length
  case pos =>
    have HR := Lib.hid (HLG.out (by omega))
    have h6' : (6 : Int) < (l.length : Int) := by omega
    go_enter Tryz.func43, Tryz.ntmps43
    go_wp2
    go_ret
    exact ⟨ret_bool HR.out.symm, Below.refl _ _⟩
  case neg =>
    have h6' : ¬ (6 : Int) < (l.length : Int) := by omega
    go_enter Tryz.func43, Tryz.ntmps43
    go_wp2_with fail
    go_loopw [14] (fun i wr => ∃ (k : Nat), k ≤ l.length ∧ i = .int .i64 k ∧ Hid (∀ j, j < k → quoAt l j = true) ∧ Hid (Below w.heap.size w wr)) (fun i _ => l.length - (intOf i).toNat)
    case atStart => exact ⟨0, Nat.zero_le _, rfl, fun j h => by omega, Below.refl _ _⟩
    case round =>
      obtain ⟨k, hk, rfl, HH, HBW⟩ := hrel
      by_cases hlt : k < l.length
      · have hlt' : (k : Int) < (l.length : Int) := by omega
        obtain ⟨b, o, rfl, hc0, hc1⟩ := (HS.out.below HBW.out).getQ hlt
        have HN := Lib.hid (HNO.out k hlt)
        have hz := HF.out _ (List.getElem_mem hlt)
        have hP := fun w => iPathParts_any l[k].1 w hz
        unfold PathI at hP
        have HQ := Lib.hid (fun h => @quoAt_path l k hlt h)
        have HM := Lib.hid (fun h => @quoAt_most l k hlt h)
        have HT := Lib.hid (fun j h1 h2 => @quoAt_twice l k j hlt h1 h2)
        have HY := Lib.hid (fun h1 h2 h3 => @quoAt_yes l k hlt h1 h2 h3)
        have hq : ∃ q : Qt, q = l[k] := ⟨_, rfl⟩
        obtain ⟨q, hq⟩ := hq
        rw [← hq] at hc0 hc1 hP HQ HM HT HY
        have HEQ := Lib.hid hq
        clear hq hz
        obtain ⟨p, x⟩ := q
        simp only at *
        have HMW := Lib.hid (HMX.out.below (HBW.out.alloc HBW.out.size (.cells #[.string p, .int .i64 x] 62)))
        cases hp : (pathP (bs p)).isSome
        · have HR := Lib.hid (HN.out (HQ.out hp))
          rw [hp] at hP
          have HP := Lib.hid hP
          clear hP hp HQ HM HT HY HN
          go_wp2_with fail
          refine (HP.out _ HMW.out).mono ?_
          rintro e w2 ⟨v, rfl, hb⟩
          have HB2 := Lib.hid (Below_then HBW.out (Below_of_alloc hb) (Nat.le_refl _))
          have hx1 := box_cell hb 1 rfl
          clear hb
          go_wp2
          go_ret
          exact ⟨ret_bool HR.out.symm, HB2.out⟩
        · have HPS := Lib.hid hp
          rw [hp] at hP
          have HP := Lib.hid hP
          clear hP hp
          by_cases hx : 0 ≤ x ∧ x ≤ 1000
          case neg =>
            have HR := Lib.hid (HN.out (HM.out (by unfold inI; exact decide_eq_false hx)))
            clear HQ HM HT HY HN
            have hx3 : x < 0 ∨ (¬ x < 0 ∧ 1000 < x) := by omega
            go_wp2_with fail
            refine (HP.out _ HMW.out).mono ?_
            rintro e w2 ⟨v, rfl, hb⟩
            have HB2 := Lib.hid (Below_then HBW.out (Below_of_alloc hb) (Nat.le_refl _))
            have hx1 : w2.cell? ⟨wr.heap.size, 1, none⟩ = some (.int .i64 x) := box_cell hb 1 rfl
            clear hb
            rcases hx3 with h | ⟨h, h'⟩
            · go_wp2
              go_ret
              exact ⟨ret_bool HR.out.symm, HB2.out⟩
            · go_wp2
              go_ret
              exact ⟨ret_bool HR.out.symm, HB2.out⟩
          case pos =>
            have HYY := Lib.hid (fun h3 => HY.out HPS.out (by unfold inI; exact decide_eq_true hx) h3)
            have hxa : ¬ x < 0 := by omega
            have hxb : ¬ 1000 < x := by omega
            clear HQ HM HY hx
            have hkc : k ≤ c := by omega
            go_wp2_with fail
            refine (HP.out _ HMW.out).mono ?_
            rintro e w2 ⟨v, rfl, hb⟩
            have HB2 := Lib.hid (Below_then HBW.out (Below_of_alloc hb) (Nat.le_refl _))
            have hx0 : w2.cell? ⟨wr.heap.size, 0, none⟩ = some (.string p) := box_cell hb 0 rfl
            have hx1 : w2.cell? ⟨wr.heap.size, 1, none⟩ = some (.int .i64 x) := box_cell hb 1 rfl
            have HX0 := Lib.hid hx0
            clear hb hc0 hc1 hx0
            go_wp2_with fail
            clear hx1
            go_loopw [41] (fun i wq => ∃ (j : Nat), j ≤ k ∧ i = .int .i64 j ∧ Hid (∀ i (h : i < l.length), i < j → bs l[i].1 ≠ bs p) ∧ Hid (Below w2.heap.size w2 wq)) (fun i _ => k - (intOf i).toNat)
            case atStart => exact ⟨0, Nat.zero_le _, rfl, fun i h h2 => by omega, Below.refl _ _⟩
            case round =>
              obtain ⟨j, hj, rfl, HJ, HBJ⟩ := hrel
              have HB3 := Lib.hid (Below_then HB2.out HBJ.out (Nat.le_refl _))
              by_cases hjl : j < k
              · have hjn : j < l.length := by omega
                have hjl' : (j : Int) < (k : Int) := by omega
                obtain ⟨b2, o2, e, hy0, hy1⟩ := (HS.out.below HB3.out).getQ hjn
                injection e with e; injection e with e1 e2
                subst e1 e2
                have hx0 := Below_cells HBJ.out _ _ _ HX0.out
                have HTj := Lib.hid (fun h => HN.out (HT.out j hjl h))
                have HSj := Lib.hid (fun (h : bs l[j].1 ≠ bs p) => show ∀ i (hi : i < l.length), i < j + 1 → bs l[i].1 ≠ bs p from fun i hi h2 => by
                  by_cases e : i = j
                  · subst e; exact h
                  · exact HJ.out i hi (by omega))
                generalize l[j].1 = pj at *
                generalize l[j].2 = xj at *
                have hx0a := cell_alloc (x := .cells #[.string pj, .int .i64 xj] 62) hx0
                cases hq : (pj.toList == p.toList)
                · have hne : bs pj ≠ bs p := by rw [eq_tlx] at hq; exact beq_eq_false_iff_ne.1 hq
                  have HNX := Lib.hid (HSj.out hne)
                  clear hne HTj HSj
                  go_wp2
                  go_roundw
                  case rel => exact ⟨j + 1, by omega, by go_num, HNX.out, HBJ.out.alloc HBJ.out.size _⟩
                  case measure => simp [intOf]; omega
                · have heq : bs pj = bs p := by rw [eq_tlx] at hq; exact beq_iff_eq.1 hq
                  have HR := Lib.hid (HTj.out heq)
                  clear heq HTj HSj
                  go_wp2
                  go_ret
                  exact ⟨ret_bool HR.out.symm, HB3.out.alloc HB3.out.size _⟩
              · have hjk : ¬ (j : Int) < (k : Int) := by omega
                have HNX := Lib.hid (show ∀ j, j < k + 1 → quoAt l j = true from fun i h => by
                  by_cases e : i = k
                  · subst e; exact HYY.out (fun i hi h2 => HJ.out i hi (by omega))
                  · exact HH.out i (by omega))
                go_wp2
                go_roundw
                case rel => exact ⟨k + 1, by omega, by go_num, HNX.out, HB3.out⟩
                case measure => simp [intOf]; omega
      · have HE := Lib.hid (show R = true by rw [HALL.out (fun j h => HH.out j (by omega))]; exact decide_eq_true (by omega))
        have hlt' : ¬ (k : Int) < (l.length : Int) := by omega
        go_wp2
        go_ret
        exact ⟨ret_bool HE.out.symm, HBW.out⟩
end Go.Proofs.YtaeaccakkielmaaGreatDoor

/- One path below another: slices.Equal of texts, PathBelow of both. -/
set_option linter.unusedVariables false
namespace Go.Proofs.YtaeaccakkielmaaGreatDoor
open Go.RowKit
set_option maxHeartbeats 4000000 in
set_option maxRecDepth 100000 in
theorem EqualS_any (A B : Option Addr) (c d : Nat) (l m : List ByteArray) (w : World) (hs : Sl w encS 1 A l) (hm : Sl w encS 1 B m) (hl : l.length ≤ 16777216) (hl2 : m.length ≤ 16777216) :
    Calls Tryz.prog 58 #[.slice A l.length c, .slice B m.length d] w fun e w' => e = .returned (.bool (eqL l m)) ∧ Below w.heap.size w w' := by
  have HS := Lib.hid hs
  have HM := Lib.hid hm
  have HNL := Lib.hid (@eqL_len l m)
  have HNE := Lib.hid (@eqL_ne l m)
  have HAL := Lib.hid (@eqL_all l m)
  generalize eqL l m = R at *
  clear hs hm
  by_cases hlen : l.length = m.length
  case neg =>
    have HR := Lib.hid (HNL.out hlen)
    have hlen' : ¬ (l.length : Int) = (m.length : Int) := by omega
    go_enter Tryz.func58, Tryz.ntmps58
    go_wp2
    go_ret
    exact ⟨ret_bool HR.out.symm, Below.refl _ _⟩
  case pos =>
    rw [← hlen]
    go_enter Tryz.func58, Tryz.ntmps58
    go_wp2_with fail
    go_loopw [13] (fun i wr => ∃ (k : Nat), k ≤ l.length ∧ i = .int .i64 k ∧ Hid (∀ j (h1 : j < l.length) (h2 : j < m.length), j < k → bs l[j] = bs m[j]) ∧ Hid (Below w.heap.size w wr)) (fun i _ => l.length - (intOf i).toNat)
    case atStart => exact ⟨0, Nat.zero_le _, rfl, fun j _ _ h => by omega, Below.refl _ _⟩
    case round =>
      obtain ⟨k, hk, rfl, HJ, HBJ⟩ := hrel
      by_cases hlt : k < l.length
      · have hlt' : (k : Int) < (l.length : Int) := by omega
        have hlm : k < m.length := by omega
        obtain ⟨b, o, rfl, hc⟩ := (HS.out.below HBJ.out).getS hlt
        obtain ⟨b2, o2, rfl, hc2⟩ := (HM.out.below HBJ.out).getS hlm
        have HN := Lib.hid (HNE.out k hlt hlm)
        have HX := Lib.hid (fun (h : bs l[k] = bs m[k]) => show ∀ j (h1 : j < l.length) (h2 : j < m.length), j < k + 1 → bs l[j] = bs m[j] from fun j h1 h2 h3 => by
          by_cases e : j = k
          · subst e; exact h
          · exact HJ.out j h1 h2 (by omega))
        generalize l[k] = x at *
        generalize m[k] = y at *
        cases hq : (x.toList == y.toList)
        · have hne : bs x ≠ bs y := by rw [eq_tlx] at hq; exact beq_eq_false_iff_ne.1 hq
          have HR := Lib.hid (HN.out hne)
          clear hne HN HX
          go_wp2_with fail
          go_quiet (fail)
          all_goals
            go_wp2
            go_ret
            exact ⟨ret_bool HR.out.symm, Below_drewN HBJ.out _⟩
        · have heq : bs x = bs y := by rw [eq_tlx] at hq; exact beq_iff_eq.1 hq
          have HNX := Lib.hid (HX.out heq)
          clear heq HN HX
          go_wp2_with fail
          go_quiet (fail)
          all_goals
            go_wp2
            go_round
            case rel => exact ⟨k + 1, by omega, by go_num, HNX.out, Below_drewN HBJ.out _⟩
            case measure => simp [intOf]; omega
      · have HR := Lib.hid (HAL.out hlen (fun j h1 h2 => HJ.out j h1 h2 (by omega)))
        have hlt' : ¬ (k : Int) < (l.length : Int) := by omega
        go_wp2
        go_ret
        exact ⟨ret_bool HR.out.symm, HBJ.out⟩
set_option maxHeartbeats 4000000 in
set_option maxRecDepth 100000 in
theorem sPathBelow_any (p q : ByteArray) (w : World) (hp : p.size ≤ 1048576) (hq : q.size ≤ 1048576) :
    Calls Tryz.prog 27 #[.string p, .string q] w fun e w' => e = .returned (.bool (belowP (bs p) (bs q))) ∧ Below w.heap.size w w' := by
  have hP := fun w => sPathParts_any p w hp
  have hQ := fun w => sPathParts_any q w hq
  unfold PathR at hP hQ
  have HB := Lib.hid (Below.refl w.heap.size w)
  cases hpp : pathP (bs p) with
  | none =>
    have HR := Lib.hid (belowP_no (b := bs q) (.inl hpp))
    rw [hpp] at hP
    generalize belowP (bs p) (bs q) = R at *
    generalize ((pathP (bs q)).getD []).map mk = Y at *
    generalize (pathP (bs q)).isSome = oky at *
    have HP := Lib.hid hP
    have HQ := Lib.hid hQ
    clear hP hQ hpp
    go_enter Tryz.func27, Tryz.ntmps27
    go_wp2_with fail
    refine (HP.out _).mono ?_
    rintro e w' ⟨v, rfl, hown, hb⟩
    obtain ⟨X_P, d_P, rfl, hle_P, hs_, _⟩ := hown.sl
    have HO_P := Lib.hid (hown.mono HB.out.size)
    have HS_P := Lib.hid hs_
    have HC_P := Lib.hid hown.cz
    clear hs_ hown
    replace HB := Lib.hid (Below_then HB.out hb (Nat.le_refl _))
    clear hb
    simp only [Option.isSome_none]
    go_wp2_with fail
    refine (HQ.out _).mono ?_
    rintro e w' ⟨v, rfl, hown, hb⟩
    obtain ⟨X_Q, d_Q, rfl, hle_Q, hs_, _⟩ := hown.sl
    have HO_Q := Lib.hid (hown.mono HB.out.size)
    have HS_Q := Lib.hid hs_
    have HC_Q := Lib.hid hown.cz
    clear hs_ hown
    replace HB := Lib.hid (Below_then HB.out hb (Nat.le_refl _))
    clear hb
    go_wp2
    go_ret
    exact ⟨ret_bool HR.out.symm, HB.out⟩
  | some x =>
    cases hqq : pathP (bs q) with
    | none =>
      have HR := Lib.hid (belowP_no (a := bs p) (.inr hqq))
      rw [hpp] at hP
      rw [hqq] at hQ
      generalize belowP (bs p) (bs q) = R at *
      generalize ((some x).getD []).map mk = X at *
      have HP := Lib.hid hP
      have HQ := Lib.hid hQ
      clear hP hQ hpp hqq
      go_enter Tryz.func27, Tryz.ntmps27
      go_wp2_with fail
      refine (HP.out _).mono ?_
      rintro e w' ⟨v, rfl, hown, hb⟩
      obtain ⟨X_P, d_P, rfl, hle_P, hs_, _⟩ := hown.sl
      have HO_P := Lib.hid (hown.mono HB.out.size)
      have HS_P := Lib.hid hs_
      have HC_P := Lib.hid hown.cz
      clear hs_ hown
      replace HB := Lib.hid (Below_then HB.out hb (Nat.le_refl _))
      clear hb
      simp only [Option.isSome_some]
      go_wp2_with fail
      refine (HQ.out _).mono ?_
      rintro e w' ⟨v, rfl, hown, hb⟩
      obtain ⟨X_Q, d_Q, rfl, hle_Q, hs_, _⟩ := hown.sl
      have HO_Q := Lib.hid (hown.mono HB.out.size)
      have HS_Q := Lib.hid hs_
      have HC_Q := Lib.hid hown.cz
      clear hs_ hown
      replace HB := Lib.hid (Below_then HB.out hb (Nat.le_refl _))
      clear hb
      simp only [Option.isSome_none]
      go_wp2
      go_ret
      exact ⟨ret_bool HR.out.symm, HB.out⟩
    | some y =>
      have HNE := Lib.hid (below_ne hpp hqq)
      have HAL := Lib.hid (below_all hpp hqq)
      have HLG := Lib.hid (below_long hpp hqq)
      have hx3 : (x.map mk).length ≤ 3 := by rw [List.length_map]; exact (partsV_iff.1 (pathP_join hpp).1).1
      have hy3 : (y.map mk).length ≤ 3 := by rw [List.length_map]; exact (partsV_iff.1 (pathP_join hqq).1).1
      rw [hpp] at hP
      rw [hqq] at hQ
      simp only [Option.getD_some] at hP hQ
      generalize belowP (bs p) (bs q) = R at *
      generalize x.map mk = X at *
      generalize y.map mk = Y at *
      have HP := Lib.hid hP
      have HQ := Lib.hid hQ
      clear hP hQ hpp hqq
      by_cases hlen : Y.length ≤ X.length
      case neg =>
        have HR := Lib.hid (HLG.out hlen)
        have hlen' : (X.length : Int) < (Y.length : Int) := by omega
        go_enter Tryz.func27, Tryz.ntmps27
        go_wp2_with fail
        refine (HP.out _).mono ?_
        rintro e w' ⟨v, rfl, hown, hb⟩
        obtain ⟨X_P, d_P, rfl, hle_P, hs_, _⟩ := hown.sl
        have HO_P := Lib.hid (hown.mono HB.out.size)
        have HS_P := Lib.hid hs_
        have HC_P := Lib.hid hown.cz
        clear hs_ hown
        replace HB := Lib.hid (Below_then HB.out hb (Nat.le_refl _))
        clear hb
        simp only [Option.isSome_some]
        go_wp2_with fail
        refine (HQ.out _).mono ?_
        rintro e w' ⟨v, rfl, hown, hb⟩
        obtain ⟨X_Q, d_Q, rfl, hle_Q, hs_, _⟩ := hown.sl
        have HO_Q := Lib.hid (hown.mono HB.out.size)
        have HS_Q := Lib.hid hs_
        have HC_Q := Lib.hid hown.cz
        clear hs_ hown
        replace HB := Lib.hid (Below_then HB.out hb (Nat.le_refl _))
        clear hb
        simp only [Option.isSome_some]
        go_wp2
        go_ret
        exact ⟨ret_bool HR.out.symm, HB.out⟩
      case pos =>
        have hlen' : ¬ (X.length : Int) < (Y.length : Int) := by omega
        go_enter Tryz.func27, Tryz.ntmps27
        go_wp2_with fail
        refine (HP.out _).mono ?_
        rintro e w' ⟨v, rfl, hown, hb⟩
        obtain ⟨X_P, d_P, rfl, hle_P, hs_, _⟩ := hown.sl
        have HO_P := Lib.hid (hown.mono HB.out.size)
        have HS_P := Lib.hid hs_
        have HC_P := Lib.hid hown.cz
        clear hs_ hown
        replace HB := Lib.hid (Below_then HB.out hb (Nat.le_refl _))
        clear hb
        simp only [Option.isSome_some]
        go_wp2_with fail
        refine (HQ.out _).mono ?_
        rintro e w2 ⟨v, rfl, hown, hb⟩
        obtain ⟨X_Q, d_Q, rfl, hle_Q, hs_, _⟩ := hown.sl
        have HO_Q := Lib.hid (hown.mono HB.out.size)
        have HS_Q := Lib.hid hs_
        have HC_Q := Lib.hid hown.cz
        clear hs_ hown
        replace HB := Lib.hid (Below_then HB.out hb (Nat.le_refl _))
        replace HS_P := Lib.hid (HS_P.out.below hb)
        clear hb
        simp only [Option.isSome_some]
        go_wp2_with fail
        go_loopw [9] (fun i wr => ∃ (k : Nat), k ≤ Y.length ∧ i = .int .i64 k ∧ Hid (∀ j (h1 : j < Y.length) (h2 : j < X.length), j < k → bs X[j] = bs Y[j]) ∧ Hid (Below w2.heap.size w2 wr)) (fun i _ => Y.length - (intOf i).toNat)
        case atStart => exact ⟨0, Nat.zero_le _, rfl, fun j _ _ h => by omega, Below.refl _ _⟩
        case round =>
          obtain ⟨k, hk, rfl, HJ, HBJ⟩ := hrel
          have HBA := Lib.hid (Below_then HB.out HBJ.out (Nat.le_refl _))
          by_cases hlt : k < Y.length
          · have hlt' : (k : Int) < (Y.length : Int) := by omega
            have hlm : k < X.length := by omega
            obtain ⟨b, o, rfl, hc⟩ := (HS_Q.out.below HBJ.out).getS hlt
            obtain ⟨b2, o2, rfl, hc2⟩ := (HS_P.out.below HBJ.out).getS hlm
            have HN := Lib.hid (HNE.out k hlt hlm)
            have HX := Lib.hid (fun (h : bs X[k] = bs Y[k]) => show ∀ j (h1 : j < Y.length) (h2 : j < X.length), j < k + 1 → bs X[j] = bs Y[j] from fun j h1 h2 h3 => by
              by_cases e : j = k
              · subst e; exact h
              · exact HJ.out j h1 h2 (by omega))
            generalize X[k] = x at *
            generalize Y[k] = y at *
            cases hq : (x.toList == y.toList)
            · have hne : bs x ≠ bs y := by rw [eq_tlx] at hq; exact beq_eq_false_iff_ne.1 hq
              have HR := Lib.hid (HN.out hne)
              clear hne HN HX
              go_wp2_with fail
              go_quiet (fail)
              all_goals
                go_wp2
                go_ret
                exact ⟨ret_bool HR.out.symm, Below_drewN HBA.out _⟩
            · have heq : bs x = bs y := by rw [eq_tlx] at hq; exact beq_iff_eq.1 hq
              have HNX := Lib.hid (HX.out heq)
              clear heq HN HX
              go_wp2_with fail
              go_quiet (fail)
              all_goals
                go_wp2
                go_round
                case rel => exact ⟨k + 1, by omega, by go_num, HNX.out, Below_drewN HBJ.out _⟩
                case measure => simp [intOf]; omega
          · have HR := Lib.hid (HAL.out hlen (fun j h1 h2 => HJ.out j h1 h2 (by omega)))
            have hlt' : ¬ (k : Int) < (Y.length : Int) := by omega
            go_wp2
            go_ret
            exact ⟨ret_bool HR.out.symm, HBA.out⟩
theorem sl_takeN {w : World} {A : Option Addr} {l : List ByteArray} {n : Nat} (h : Sl w encS 1 A l) : Sl w encS 1 A (l.take n) := by
  intro hn
  have hlt : 0 < l.length := by rw [List.length_take] at hn; omega
  obtain ⟨b, o, e, hc⟩ := h hlt
  refine ⟨b, o, e, fun j u hu => hc j u ?_⟩
  have e2 : flat encS l = flat encS (l.take n) ++ flat encS (l.drop n) := by rw [← flat_append, List.take_append_drop]
  rw [e2, List.getElem?_append_left (List.getElem?_eq_some_iff.1 hu).1]; exact hu
set_option maxHeartbeats 4000000 in
set_option maxRecDepth 100000 in
theorem iPathBelow_any (p q : ByteArray) (w : World) (hp : p.size ≤ 1048576) (hq : q.size ≤ 1048576) (hm : MaxL w) :
    Calls Tryz.prog 33 #[.string p, .string q] w fun e w' => e = .returned (.bool (belowP (bs p) (bs q))) ∧ Below w.heap.size w w' := by
  have hP := fun w h => iPathPartsS_any p w hp h
  have hQ := fun w h => iPathPartsS_any q w hq h
  unfold PathS at hP hQ
  have HB := Lib.hid (Below.refl w.heap.size w)
  have HM := Lib.hid hm
  have hnil := fun (W : World) (A : Option Addr) (n c : Nat) => Lib.run_eql_slice_nil (P := Tryz.prog) W 29 9 A n c 0 0 Tryz.underlying29
  clear hm
  cases hpp : pathP (bs p) with
  | none =>
    have HR := Lib.hid (belowP_no (b := bs q) (.inl hpp))
    rw [hpp] at hP
    generalize belowP (bs p) (bs q) = R at *
    have HP := Lib.hid hP
    clear hP hQ hpp
    go_enter Tryz.func33, Tryz.ntmps33
    go_wp2_with fail
    refine (HP.out _ HM.out).mono ?_
    rintro e w1 ⟨X, A, c, hX, rfl, hle, hs, hb⟩
    replace HB := Lib.hid (Below_then HB.out hb (Nat.le_refl _))
    clear hb hX
    simp only [Option.isSome_none]
    go_wp2
    go_ret
    exact ⟨ret_bool HR.out.symm, HB.out⟩
  | some x =>
    cases hqq : pathP (bs q) with
    | none =>
      have HR := Lib.hid (belowP_no (a := bs p) (.inr hqq))
      rw [hpp] at hP
      rw [hqq] at hQ
      generalize belowP (bs p) (bs q) = R at *
      have HP := Lib.hid hP
      have HQ := Lib.hid hQ
      clear hP hQ hpp hqq
      go_enter Tryz.func33, Tryz.ntmps33
      go_wp2_with fail
      refine (HP.out _ HM.out).mono ?_
      rintro e w1 ⟨X, A, c, hX, rfl, hle, hs, hb⟩
      replace HB := Lib.hid (Below_then HB.out hb (Nat.le_refl _))
      replace HM := Lib.hid (HM.out.below hb)
      clear hb hX
      simp only [Option.isSome_some]
      go_wp2_with fail
      refine (HQ.out _ HM.out).mono ?_
      rintro e w2 ⟨Y, A2, c2, hY, rfl, hle2, hs2, hb⟩
      replace HB := Lib.hid (Below_then HB.out hb (Nat.le_refl _))
      clear hb hY
      simp only [Option.isSome_none]
      go_wp2
      go_ret
      exact ⟨ret_bool HR.out.symm, HB.out⟩
    | some y =>
      have HEQ := Lib.hid (below_eq hpp hqq)
      have HLG := Lib.hid (below_long hpp hqq)
      have hx3 : (x.map mk).length ≤ 3 := by rw [List.length_map]; exact (partsV_iff.1 (pathP_join hpp).1).1
      have hy3 : (y.map mk).length ≤ 3 := by rw [List.length_map]; exact (partsV_iff.1 (pathP_join hqq).1).1
      rw [hpp] at hP
      rw [hqq] at hQ
      simp only [Option.getD_some] at hP hQ
      generalize belowP (bs p) (bs q) = R at *
      generalize x.map mk = X at *
      generalize y.map mk = Y at *
      have HP := Lib.hid hP
      have HQ := Lib.hid hQ
      clear hP hQ hpp hqq
      by_cases hlen : Y.length ≤ X.length
      case neg =>
        have HR := Lib.hid (HLG.out hlen)
        have hlen' : (X.length : Int) < (Y.length : Int) := by omega
        go_enter Tryz.func33, Tryz.ntmps33
        go_wp2_with fail
        refine (HP.out _ HM.out).mono ?_
        rintro e w1 ⟨X', A, c, rfl, rfl, hle, hs, hb⟩
        replace HB := Lib.hid (Below_then HB.out hb (Nat.le_refl _))
        replace HM := Lib.hid (HM.out.below hb)
        clear hb
        simp only [Option.isSome_some]
        go_wp2_with fail
        refine (HQ.out _ HM.out).mono ?_
        rintro e w2 ⟨Y', A2, c2, rfl, rfl, hle2, hs2, hb⟩
        replace HB := Lib.hid (Below_then HB.out hb (Nat.le_refl _))
        clear hb
        simp only [Option.isSome_some]
        go_wp2
        go_ret
        exact ⟨ret_bool HR.out.symm, HB.out⟩
      case pos =>
        have hlen' : ¬ (X.length : Int) < (Y.length : Int) := by omega
        have HE2 := Lib.hid (HEQ.out hlen)
        have hln : (X.take Y.length).length = Y.length := by rw [List.length_take]; omega
        have hEq := fun A B c d w h h2 => EqualS_any A B c d (X.take Y.length) Y w h h2 (by omega) (by omega)
        rw [hln] at hEq
        have HEC := Lib.hid hEq
        have HLN := Lib.hid hln
        clear hEq hln
        rw [HE2.out]
        go_enter Tryz.func33, Tryz.ntmps33
        go_wp2_with fail
        refine (HP.out _ HM.out).mono ?_
        rintro e w1 ⟨X', A, c, rfl, rfl, hle, hs, hb⟩
        have HSX := Lib.hid hs
        replace HB := Lib.hid (Below_then HB.out hb (Nat.le_refl _))
        replace HM := Lib.hid (HM.out.below hb)
        clear hb hs
        simp only [Option.isSome_some]
        go_wp2_with fail
        refine (HQ.out _ HM.out).mono ?_
        rintro e w2 ⟨Y', A2, c2, rfl, rfl, hle2, hs2, hb⟩
        have HSY := Lib.hid hs2
        replace HB := Lib.hid (Below_then HB.out hb (Nat.le_refl _))
        replace HSX := Lib.hid (HSX.out.below hb)
        clear hb hs2
        simp only [Option.isSome_some]
        have hyc : Y'.length ≤ c := by omega
        cases A with
        | none =>
          have hx0 : X' = [] := by
            cases X' with
            | nil => rfl
            | cons z r => obtain ⟨b, o, e, _⟩ := HSX.out (by simp); cases e
          subst hx0
          have hy0 : Y' = [] := List.eq_nil_of_length_eq_zero (by simpa using hlen)
          subst hy0
          go_wp2_with (first | (go_at_call 58; refine (HEC.out _ _ _ _ _ Sl.none_ HSY.out).mono ?_; rintro e w3 ⟨rfl, hb⟩; have HB3 := Lib.hid (Below_then HB.out hb (Nat.le_refl _)); clear hb))
          go_ret
          exact ⟨rfl, HB3.out⟩
        | some ad =>
          have HST := Lib.hid (sl_takeN (n := Y'.length) HSX.out)
          go_wp2_with (first | (go_at_call 58; refine (HEC.out _ _ _ _ _ HST.out HSY.out).mono ?_; rintro e w3 ⟨rfl, hb⟩; have HB3 := Lib.hid (Below_then HB.out hb (Nat.le_refl _)); clear hb))
          go_ret
          exact ⟨rfl, HB3.out⟩
end Go.Proofs.YtaeaccakkielmaaGreatDoor

/- ReadFolder of the reference, walked. -/
set_option linter.unusedVariables false
namespace Go.Proofs.YtaeaccakkielmaaGreatDoor
open Go.RowKit
theorem RfRes.made {r : Option (List En)} (h : r = none) {w w' : World} (hb : Below w.heap.size w w') : RfRes r w (.returned (.tuple #[.slice (some ⟨w'.heap.size, 0, none⟩) 0 0, .bool false])) (w'.alloc (.cells #[] 83)) := by
  subst h; exact ⟨_, rfl, Own.made hb.size, hb.alloc hb.size _⟩
theorem ext_drop (s : ByteArray) (a b : Nat) : s.extract a b = mk (((bs s).drop a).take (b - a)) := by
  apply ByteArray.ext
  apply Array.ext'
  rw [Lib.extract_data]; rfl
abbrev rowE (y : En) : Obj := .cells #[.string y.1, .int .i64 y.2] 83
section
variable {ops : Array Oper} {o : Oper} {a : Act} {K : Act → World → Prop} {Q : Exit → Act → World → Prop} {E' : Prop} {l : List En} {s x : Operand}
theorem one_rowE {W : World} {y : En} : Sl (W.alloc (rowE y)) encE 2 (some ⟨W.heap.size, 0, none⟩) [y] := by
  intro _
  refine ⟨W.heap.size, 0, rfl, fun j u hu => ?_⟩
  rw [cell_of_row _ _ _ _ _ (0, 0) (heap_alloc_new W _)]
  simpa [flat, encE] using hu
theorem step_en_g {w0 W : World} {v : Value} {y : En} (hown : Own W w0.heap.size 83 2 encE v l) (hb : Below w0.heap.size w0 W) (hl : l.length ≤ 16777216) (hw : Region.wanted o (yielded ops a.tmps) = true) (ho : o.op = .call { callee := .builtin .append, args := #[s, x], argTypes := #[79, 79] })
    (hs : a.eval s = v) (hx : a.eval x = .slice (some ⟨W.heap.size, 0, none⟩) 1 1)
    (h : ∀ v' w', Own w' w0.heap.size 83 2 encE v' (l ++ [y]) → Below w0.heap.size w0 w' → K (a.put o.dst v') w') : if Region.wanted o (yielded ops a.tmps) = true then Oper.wp Tryz.prog o a (W.drew.alloc (rowE y)) K Q else E' := by
  obtain ⟨i0, hi0, hz0, hz1, hz2⟩ := info_parts en_info
  exact step_appW (l := l) (m := [y]) Tryz.underlying79 hi0 hz0 hz1 hz2 rfl (by decide) (by decide) hw s x ho (hown.drew.alloc _) (hb.drew.alloc hb.size _) (Nat.le_refl _) (by simp; exact Nat.le_succ_of_le hb.size) (by simp; omega) (one_rowE (W := W.drew)) (by intro h; cases h) (fun _ => rfl) oneE hs hx fun v' w' h1 h2 _ => h v' w' h1 h2
end
set_option maxHeartbeats 2000000 in
set_option maxRecDepth 100000 in
theorem sReadFolder_any (s : ByteArray) (w : World) (hs : s.size ≤ 1048576) :
    Calls Tryz.prog 67 #[.string s] w (RfRes (readF (bs s)) w) := by
  have HC0 := Lib.hid (FC.start (bs s))
  go_enter Tryz.func67, Tryz.ntmps67
  go_wp2_with fail
  go_loopw [4, 5] (fun v i wr => ∃ (t : Nat) (acc : List En), i = .int .i64 t ∧ 1 ≤ t ∧ acc.length ≤ t ∧ t ≤ s.size + 1 ∧ Hid (FitE acc) ∧ Hid (FC (bs s) acc ((bs s).drop t)) ∧ Own wr w.heap.size 83 2 encE v acc ∧ Below w.heap.size w wr) (fun _ i _ => s.size + 1 - (intOf i).toNat)
  case atStart => exact ⟨1, [], rfl, Nat.le_refl _, by simp, by omega, fitE_nil', HC0.out, Own.made (Nat.le_refl _), (Below.refl _ _).alloc (Nat.le_refl _) _⟩
  case round =>
    obtain ⟨t, acc, rfl, ht1, hat, hts, HF, HC, hown, hb⟩ := hrel
    obtain ⟨X, d, rfl, hle, hsX, _⟩ := hown.sl
    have HW := Lib.hid hown
    have HSX := Lib.hid hsX
    have HB := Lib.hid hb
    clear hown hsX hb
    by_cases hlt : t < s.size
    · obtain ⟨rest, hrest⟩ : ∃ r, r = (bs s).drop t := ⟨_, rfl⟩
      have hrl : rest.length = s.size - t := by rw [hrest, List.length_drop, size_bs]
      have hne : rest ≠ [] := fun e => by rw [e] at hrl; simp at hrl; omega
      have hFC := HC.out
      rw [← hrest] at hFC
      have HSF := Lib.hid (hFC.sfail hne)
      have HSS := Lib.hid (hFC.sstep hne)
      have hh1 := headC_le 61 rest
      have HN1 := Lib.hid (headC_ne 61 rest)
      have HA1 := Lib.hid (headC_at 61 rest)
      obtain ⟨h1, hh⟩ : ∃ h, h = (headC 61 rest).length := ⟨_, rfl⟩
      rw [← hh] at HSF HSS hh1 HN1 HA1
      have hh2 := headC_le 59 (rest.drop h1)
      have HN2 := Lib.hid (headC_ne 59 (rest.drop h1))
      have HA2 := Lib.hid (headC_at 59 (rest.drop h1))
      obtain ⟨h2, hhh⟩ : ∃ h, h = (headC 59 (rest.drop h1)).length := ⟨_, rfl⟩
      rw [← hhh] at HSF HSS hh2 HN2 HA2
      rw [List.length_drop] at hh2
      have HR := Lib.hid hrest
      have HG := Lib.hid (show ∀ j (h : j < rest.length) (h' : t + j < s.size), rest[j] = s[t + j] from fun j h h' => by
        have e : rest[j]? = (bs s)[t + j]? := by rw [hrest, List.getElem?_drop]
        rw [List.getElem?_eq_getElem h, List.getElem?_eq_getElem (show t + j < (bs s).length from h')] at e
        injection e)
      have HRL := Lib.hid hrl
      clear hrest hFC hh hhh hne
      go_wp2_with fail
      go_loop [6] (fun j => ∃ (q : Nat), q ≤ h1 ∧ j = .int .i64 ((t + q : Nat) : Int)) (fun j => h1 + t - (intOf j).toNat)
      case atStart => exact ⟨0, Nat.zero_le _, rfl⟩
      case round =>
        obtain ⟨q, hq, rfl⟩ := hrel
        by_cases hqh : q < h1
        · have hin : t + q < s.size := by omega
          have hne : ¬ s[t + q].toNat = 61 := by
            have h3 := HN1.out q (by omega) hqh
            rw [HG.out q (by omega) hin] at h3
            intro e; exact h3 (UInt8.toNat_inj.1 e)
          have hne2 : ¬ ((s[t + q].toNat : Int) = 61) := by omega
          have hin2 : ((t + q : Nat) : Int) < (s.size : Int) := by omega
          go_wp2
          go_round
          case rel => exact ⟨q + 1, by omega, by go_num⟩
          case measure => simp [intOf]; omega
        · obtain rfl : q = h1 := by omega
          have hst1 : t + q < s.size → ∃ h : t + q < s.size, s[t + q].toNat = 61 := fun h => ⟨h, by
            have h3 := HA1.out (by omega)
            rw [HG.out q (by omega) h] at h3
            rw [h3]; rfl⟩
          have HS1 := Lib.hid hst1
          have HH2 := Lib.hid (show ∀ p, p < h2 → ∀ h : t + q + p < s.size, ¬ s[t + q + p].toNat = 59 from fun p hp h e => by
            have h3 := HN2.out p (by rw [List.length_drop]; omega) hp
            rw [List.getElem_drop, HG.out (q + p) (by omega) (by omega)] at h3
            apply h3
            have e2 : t + (q + p) = t + q + p := by omega
            simp only [e2]
            exact UInt8.toNat_inj.1 e)
          have HS2 := Lib.hid (show ∀ h : t + q + h2 < s.size, s[t + q + h2].toNat = 59 from fun h => by
            have h3 := HA2.out (by rw [List.length_drop]; omega)
            rw [List.getElem_drop, HG.out (q + h2) (by omega) (by omega)] at h3
            have e2 : t + (q + h2) = t + q + h2 := by omega
            simp only [e2] at h3
            rw [h3]; rfl)
          have HP1 := Lib.hid (show t + q + h2 < s.size → 1 ≤ h2 from fun h => by
            by_cases e : h2 = 0
            · obtain ⟨h5, h6⟩ := HS1.out (by omega)
              have h7 := HS2.out h
              simp only [e, Nat.add_zero] at h7
              rw [h6] at h7; cases h7
            · omega)
          have HE1 := Lib.hid (show s.extract t (t + q) = mk (rest.take q) by rw [ext_drop, ← HR.out]; congr 2; omega)
          have HE2 := Lib.hid (show s.extract (t + q + 1) (t + q + h2) = mk ((rest.drop (q + 1)).take (h2 - 1)) by
            rw [ext_drop, HR.out, List.drop_drop, show t + (q + 1) = t + q + 1 by omega]; congr 2; omega)
          have HE3 := Lib.hid (show rest.drop (q + h2 + 1) = (bs s).drop (t + q + h2 + 1) by rw [HR.out, List.drop_drop]; congr 1; omega)
          have hq2 : q + h2 ≤ rest.length := by omega
          clear hst1 HN1 HA1 HN2 HA2 HG HR
          have hsl : t + q + h2 ≤ s.size := by omega
          have HLT := Lib.hid (show t + q + h2 < s.size → q + h2 < rest.length from fun h => by omega)
          have HGE := Lib.hid (show ¬ t + q + h2 < s.size → ¬ q + h2 < rest.length from fun h => by omega)
          have htsg : t ≤ t + q := by omega
          have hnn : (mk (rest.take q)).size ≤ 16777216 := by rw [mk_size, List.length_take]; omega
          have hdd : (mk ((rest.drop (q + 1)).take (h2 - 1))).size ≤ 16777216 := by rw [mk_size, List.length_take, List.length_drop]; omega
          have hRH := fun w => sReadHex_any (mk ((rest.drop (q + 1)).take (h2 - 1))) w hdd
          rw [show bs (mk ((rest.drop (q + 1)).take (h2 - 1))) = (rest.drop (q + 1)).take (h2 - 1) from rfl] at hRH
          have HRH := Lib.hid hRH
          clear hRH
          rw [HE3.out] at HSS
          clear HE3
          generalize readH ((rest.drop (q + 1)).take (h2 - 1)) = hx at *
          generalize mk ((rest.drop (q + 1)).take (h2 - 1)) = DG at *
          generalize mk (rest.take q) = NN at *
          generalize hsg : t + q = sg at *
          have hex : (sg < s.size ∧ ∃ h : sg < s.size, s[sg].toNat = 61) ∨ ¬ sg < s.size := by
            by_cases h : sg < s.size
            · exact .inl ⟨h, HS1.out h⟩
            · exact .inr h
          rcases hex with ⟨hz, _, h61⟩ | hz
          case inr =>
            have hz2 : h2 = 0 := by omega
            subst hz2
            have hE := HSF.out (HGE.out (by omega))
            have heq : (sg : Int) = (s.size : Int) := by omega
            have HE := Lib.hid hE
            clear hE HSF HSS HH2 HS2 HP1 HS1 HE1 HE2 HRL HLT HGE
            go_wp2_with fail
            go_loop [7] (fun j => j = .int .i64 (s.size : Int)) (fun _ => 0)
            case atStart => rfl
            case round =>
              subst hrel
              go_wp2
              go_ret2
              exact RfRes.made HE.out HB.out
          case inl =>
            go_wp2_with fail
            go_loop [7] (fun j => ∃ (p : Nat), p ≤ h2 ∧ j = .int .i64 ((sg + p : Nat) : Int)) (fun j => h2 + sg - (intOf j).toNat)
            case atStart => exact ⟨0, Nat.zero_le _, rfl⟩
            case round =>
              obtain ⟨p, hp, rfl⟩ := hrel
              by_cases hph : p < h2
              · have hin : sg + p < s.size := by omega
                have hne := HH2.out p hph hin
                have hne2 : ¬ ((s[sg + p].toNat : Int) = 59) := by omega
                have hin2 : ((sg + p : Nat) : Int) < (s.size : Int) := by omega
                go_wp2
                go_round
                case rel => exact ⟨p + 1, by omega, by go_num⟩
                case measure => simp [intOf]; omega
              · obtain rfl : p = h2 := by omega
                by_cases hend : sg + p < s.size
                · have h59 := HS2.out hend
                  have hp1 := HP1.out hend
                  have hq3 := HLT.out hend
                  have HN := Lib.hid HSS.out
                  have HFN := Lib.hid (show FitE (acc ++ [(NN, hx)]) from fun z hz => by
                    rcases List.mem_append.1 hz with h | h
                    · exact HF.out z h
                    · rw [List.mem_singleton.1 h]; exact hnn)
                  have he1 := HE1.out
                  have he2 := HE2.out
                  have hnd : ¬ ((sg + p : Nat) : Int) = (s.size : Int) := by omega
                  have hw1 : IntKind.i64.wrap ((sg : Int) + 1) = (sg : Int) + 1 := IntWalk.i64_in _ (by omega)
                  have hw2 : (0 : Int) ≤ (sg : Int) + 1 := by omega
                  have hw3 : ((sg : Int) + 1).toNat = sg + 1 := by omega
                  have HL := Lib.hid (show acc.length ≤ 16777216 by omega)
                  have HTT := Lib.hid (show t ≤ sg ∧ acc.length ≤ t ∧ sg + p < s.size from ⟨htsg, hat, hend⟩)
                  have hsgs : sg < s.size := by omega
                  clear HH2 HS2 HP1 HS1 HSF HSS HE1 HE2 HRL HLT HGE hsg
                  generalize hen : sg + p = en at *
                  have hw4 : (sg : Int) + 1 ≤ (en : Int) := by omega
                  have hw5 : (en : Int) ≤ (s.size : Int) := by omega
                  have hw6 : sg + 1 ≤ en := by omega
                  have hw7 : en ≤ s.size := by omega
                  have hw8 : sg ≤ s.size := by omega
                  have hw9 : (t : Int) ≤ (sg : Int) := by omega
                  have hw10 : (sg : Int) ≤ (s.size : Int) := by omega
                  clear hen
                  go_wp2_with fail
                  first
                    | go_region_held3 (fun w' => True) (trivial)
                        ((first
                          | (go_at_call 80; refine (HRH.out _).mono ?_; rintro e w3 ⟨rfl, rfl⟩)
                          | (refine step_en_g (w0 := w) (y := (NN, hx)) HW.out HB.out HL.out (by rfl) rfl (by rfl) (by rfl) ?_; intro v4 w4 hown4 hb4; have HW4 := Lib.hid hown4; have HB4 := Lib.hid hb4; clear hown4 hb4)))
                    | fail
                  all_goals
                    go_wp2
                    go_roundw
                    case rel => exact ⟨en + 1, _, by go_num, by omega, by have := HTT.out; simp; omega, by omega, HFN.out, HN.out, HW4.out, HB4.out⟩
                    case measure => have := HTT.out; simp [intOf]; omega
                · have HE := Lib.hid (HSF.out (HGE.out hend))
                  have heq : ((sg + p : Nat) : Int) = (s.size : Int) := by omega
                  clear HSF HSS HH2 HS2 HP1 HS1 HE1 HE2 HRL HLT HGE
                  go_wp2
                  go_ret2
                  exact RfRes.made HE.out HB.out
    · have hnil : (bs s).drop t = [] := List.drop_eq_nil_of_le (by rw [size_bs]; omega)
      have hFC := HC.out
      rw [hnil] at hFC
      have HFT := Lib.hid (fun w h => sFolderText_any X d acc w h (by omega) HF.out)
      have hR : (0 < s.size ∧ (foldT acc = bs s) ∧ readF (bs s) = some acc) ∨ ((s.size = 0 ∨ foldT acc ≠ bs s) ∧ readF (bs s) = none) := by
        by_cases h0 : 0 < s.size
        · have hd := hFC.done (bs_ne_nil h0)
          by_cases he : foldT acc = bs s
          · rw [if_pos he] at hd; exact .inl ⟨h0, he, hd⟩
          · rw [if_neg he] at hd; exact .inr ⟨.inr he, hd⟩
        · exact .inr ⟨.inl (by omega), readF_head (fun h => h0 h.1)⟩
      clear hFC hnil
      rcases hR with ⟨h0, he, hr⟩ | ⟨h0, hr⟩
      · have HE := Lib.hid hr
        have heq : ((mk (foldT acc)).toList == s.toList) = true := by rw [eq_tlx]; exact beq_iff_eq.2 he
        obtain ⟨hne, hne2⟩ := ne_tl (s := s) h0
        clear hr he
        go_wp2_with fail
        refine (HFT.out _ HSX.out).mono ?_
        rintro e w1 ⟨rfl, hb1⟩
        have HW1 := Lib.hid (HW.out.below hb1)
        have HB1 := Lib.hid (Below_then HB.out hb1 (Nat.le_refl _))
        clear hb1
        go_wp2
        go_ret2
        exact RfRes.yes HE.out HW1.out HB1.out
      · have HE := Lib.hid hr
        clear hr
        cases heq : ((mk (foldT acc)).toList == s.toList)
        · clear h0
          go_wp2_with fail
          refine (HFT.out _ HSX.out).mono ?_
          rintro e w1 ⟨rfl, hb1⟩
          have HB1 := Lib.hid (Below_then HB.out hb1 (Nat.le_refl _))
          clear hb1
          go_wp2
          go_ret2
          exact RfRes.made HE.out HB1.out
        · have he : foldT acc = bs s := by rw [eq_tlx] at heq; exact beq_iff_eq.1 heq
          have hz := h0.resolve_right (fun h => h he)
          have hnil := nil_tl hz
          clear h0 he hz
          go_wp2_with fail
          refine (HFT.out _ HSX.out).mono ?_
          rintro e w1 ⟨rfl, hb1⟩
          have HB1 := Lib.hid (Below_then HB.out hb1 (Nat.le_refl _))
          clear hb1
          go_wp2
          all_goals
            go_ret2
            exact RfRes.made HE.out HB1.out
end Go.Proofs.YtaeaccakkielmaaGreatDoor

/- textOf and GetText of the program, walked. -/
set_option linter.unusedVariables false
namespace Go.Proofs.YtaeaccakkielmaaGreatDoor
open Go.RowKit

def GtRes (r : Option ByteArray) (w : World) (e : Ending) (w' : World) : Prop := e = .returned (.tuple #[.string (r.getD ⟨#[]⟩), .bool r.isSome]) ∧ Below w.heap.size w w'
set_option maxHeartbeats 4000000 in
set_option maxRecDepth 100000 in
theorem itextOf_any (A : Option Addr) (c : Nat) (l : List Pc) (x : Int) (w : World) (hs : Sl w encP 2 A l) (hl : l.length ≤ 16777216) (hso : Sorted l) :
    Calls Tryz.prog 76 #[.slice A l.length c, .int .i64 x] w (GtRes (getT l x) w) := by
  have hX := fun w h => findPiece_any A c l x w h hl hso
  have HS := Lib.hid hs
  have hg := getT_here hso (p := x)
  clear hs
  unfold FpRes at hX
  unfold GtRes
  rw [hg]
  cases hh : hereP l x
  · rw [hh] at hX
    have HX := Lib.hid hX
    clear hX hg hso hh
    go_enter Tryz.func76, Tryz.ntmps76
    go_wp2_with fail
    refine (HX.out _ HS.out).mono ?_
    rintro e w1 ⟨rfl, hb⟩
    have HB := Lib.hid hb
    clear hb
    go_wp2
    go_ret2
    exact ⟨rfl, HB.out⟩
  · have hlt : below l x < l.length := by unfold hereP at hh; simp at hh; exact hh.1
    rw [hh] at hX
    rw [getD_pc hlt]
    have HX := Lib.hid hX
    have HG := Lib.hid (fun (w : World) (h : Sl w encP 2 A l) => h.getP hlt)
    generalize l[below l x] = q at *
    obtain ⟨a, t⟩ := q
    simp only at *
    generalize below l x = B at *
    obtain ⟨b, o, rfl, _, _⟩ := HG.out w HS.out
    clear hX hg hso hh
    go_enter Tryz.func76, Tryz.ntmps76
    go_wp2_with fail
    refine (HX.out _ HS.out).mono ?_
    rintro e w1 ⟨rfl, hb⟩
    have HB := Lib.hid hb
    obtain ⟨b', o', e', hc0, hc1⟩ := HG.out _ (HS.out.below hb)
    have hbb : b' = b ∧ o' = o := by injection e' with e'; injection e' with e1 e2; exact ⟨e1.symm, e2.symm⟩
    obtain ⟨rfl, rfl⟩ := hbb
    clear hb e'
    go_wp2
    go_ret2
    exact ⟨rfl, HB.out⟩
end Go.Proofs.YtaeaccakkielmaaGreatDoor

/- ContentValid, ReadFile, TextKind, l4Get of the reference; folderOf of the program, walked. -/
set_option linter.unusedVariables false
namespace Go.Proofs.YtaeaccakkielmaaGreatDoor
open Go.RowKit
set_option maxHeartbeats 1000000 in
set_option maxRecDepth 100000 in
theorem sContentValid_any (s : ByteArray) (w : World) (hs : s.size ≤ 16777216) :
    Calls Tryz.prog 69 #[.string s] w fun e w' => e = .returned (.bool (contV (bs s))) ∧ w = w' := by
  have hTV := fun w => sTextValid_any s w hs
  have E := Lib.hid (show contV (bs s) = (textV (bs s) && decide (s.size ≤ 40)) from rfl)
  rw [E.out]
  cases hv : textV (bs s)
  · rw [hv] at hTV
    have HTV := Lib.hid hTV
    clear hTV hv E
    go_enter Tryz.func69, Tryz.ntmps69
    go_wp2_with (go_at_call 46; refine (HTV.out _).mono ?_; rintro e w' ⟨rfl, rfl⟩)
    go_ret
    exact ⟨rfl, rfl⟩
  · rw [hv] at hTV
    have HTV := Lib.hid hTV
    clear hTV hv E
    by_cases h : s.size ≤ 40
    · have h' : (s.size : Int) ≤ 40 := by omega
      rw [decide_eq_true h]
      clear h
      go_enter Tryz.func69, Tryz.ntmps69
      go_wp2_with (go_at_call 46; refine (HTV.out _).mono ?_; rintro e w' ⟨rfl, rfl⟩)
      go_ret
      first | exact ⟨rfl, rfl⟩ | exact ⟨ret_bool (decide_eq_true h'), rfl⟩
    · have h' : ¬ (s.size : Int) ≤ 40 := by omega
      rw [decide_eq_false h]
      clear h
      go_enter Tryz.func69, Tryz.ntmps69
      go_wp2_with (go_at_call 46; refine (HTV.out _).mono ?_; rintro e w' ⟨rfl, rfl⟩)
      go_ret
      first | exact ⟨rfl, rfl⟩ | exact ⟨ret_bool (decide_eq_false (Int.not_le.2 h')), rfl⟩
def RdRes (r : Option Bs) (w : World) (e : Ending) (w' : World) : Prop := e = .returned (.tuple #[.string (mk (r.getD [])), .bool r.isSome]) ∧ w = w'
theorem readFi_head {s : ByteArray} (h : 0 < s.size) : readFi (bs s) = if s[0] = 102 ∧ contV (bs s).tail = true then some (bs s).tail else none := by
  have hh := head_bs0 h
  cases hb : bs s with
  | nil => have := size_bs s; rw [hb] at this; simp at this; omega
  | cons x r =>
    rw [hb] at hh
    have hx : x = s[0] := by simpa using hh
    unfold readFi
    simp only [List.tail_cons, ← hx]
    by_cases h1 : x = 102 <;> cases h2 : contV r <;> simp [h1]
set_option maxHeartbeats 1000000 in
set_option maxRecDepth 100000 in
theorem sReadFile_any (s : ByteArray) (w : World) (hs : s.size ≤ 16777216) : Calls Tryz.prog 51 #[.string s] w (RdRes (readFi (bs s)) w) := by
  unfold RdRes
  by_cases h0 : 0 < s.size
  · have hE := readFi_head h0
    obtain ⟨hne, hne2⟩ := ne_tl (s := s) h0
    have hx := drop1_ext s
    have hz : 1 ≤ s.size := h0
    have hts : (mk (bs s).tail).size ≤ 16777216 := by rw [mk_size, List.length_tail, size_bs]; omega
    have hCV := fun w => sContentValid_any (mk (bs s).tail) w hts
    rw [show bs (mk (bs s).tail) = (bs s).tail from rfl] at hCV
    by_cases h1 : s[0] = 102
    · have h1n : (s[0].toNat : Int) = 102 := by rw [h1]; rfl
      cases hc : contV (bs s).tail
      · rw [if_neg (by rw [hc]; simp)] at hE
        rw [hc] at hCV
        have HCV := Lib.hid hCV
        have HE := Lib.hid hE
        clear hCV hE hc h1
        rw [HE.out]
        generalize mk (bs s).tail = TT at *
        go_enter Tryz.func51, Tryz.ntmps51
        go_wp2_with (go_at_call 69; refine (HCV.out _).mono ?_; rintro e w' ⟨rfl, rfl⟩)
        go_ret2
        exact ⟨rfl, rfl⟩
      · rw [if_pos ⟨h1, hc⟩] at hE
        rw [hc] at hCV
        have HCV := Lib.hid hCV
        have HE := Lib.hid hE
        clear hCV hE hc h1
        rw [HE.out]
        show Calls _ _ _ _ fun e w' => e = .returned (.tuple #[.string (mk (bs s).tail), .bool true]) ∧ w = w'
        generalize mk (bs s).tail = TT at *
        go_enter Tryz.func51, Tryz.ntmps51
        go_wp2_with (go_at_call 69; refine (HCV.out _).mono ?_; rintro e w' ⟨rfl, rfl⟩)
        go_ret2
        exact ⟨rfl, rfl⟩
    · have h1n : ¬ (s[0].toNat : Int) = 102 := by
        intro e; apply h1; apply UInt8.toNat_inj.1; show s[0].toNat = 102; omega
      rw [if_neg (fun h => h1 h.1)] at hE
      have HE := Lib.hid hE
      clear hE hCV h1 hx
      rw [HE.out]
      go_enter Tryz.func51, Tryz.ntmps51
      go_wp2
      go_ret2
      exact ⟨rfl, rfl⟩
  · have hz : s.size = 0 := by omega
    have HE := Lib.hid (show readFi (bs s) = none by rw [show bs s = [] from List.eq_nil_of_length_eq_zero hz]; rfl)
    have hnil := nil_tl hz
    rw [HE.out]
    clear h0 hz
    go_enter Tryz.func51, Tryz.ntmps51
    go_wp2
    go_ret2
    exact ⟨rfl, rfl⟩
theorem getT_find {l : List Pc} {p : Int} {k : Nat} (hk : k < l.length) (h : ∀ j (h : j < l.length), j < k → l[j].1 ≠ p) (he : l[k].1 = p) : getT l p = some l[k].2 := by
  unfold getT
  have : l.find? (fun x => x.1 == p) = some l[k] := by
    rw [List.find?_eq_some_iff_getElem]
    refine ⟨by simpa using he, k, hk, rfl, fun j hj => ?_⟩
    simpa using h j (by omega) hj
  rw [this]; rfl
set_option maxHeartbeats 1000000 in
set_option maxRecDepth 100000 in
theorem sl4Get_any (A : Option Addr) (c : Nat) (l : List Pc) (p : Int) (w : World) (hs : Sl w encP 2 A l) (hl : l.length ≤ 16777216) :
    Calls Tryz.prog 66 #[.slice A l.length c, .int .i64 p] w fun e w' => e = .returned (.tuple #[.string ((getT l p).getD ⟨#[]⟩), .bool (getT l p).isSome]) ∧ w = w' := by
  have HS := Lib.hid hs
  clear hs
  generalize hr : getT l p = R at *
  have HR := Lib.hid hr
  clear hr
  go_enter Tryz.func66, Tryz.ntmps66
  go_wp2_with fail
  go_loop [6] (fun i => ∃ (k : Nat), k ≤ l.length ∧ i = .int .i64 k ∧ Hid (∀ j (h : j < l.length), j < k → l[j].1 ≠ p)) (fun i => l.length - (intOf i).toNat)
  case atStart => exact ⟨0, Nat.zero_le _, rfl, fun j h h2 => by omega⟩
  case round =>
    obtain ⟨k, hk, rfl, HH⟩ := hrel
    by_cases hlt : k < l.length
    · obtain ⟨b, o, rfl, hc0, hc1⟩ := HS.out.getP hlt
      have HF := Lib.hid (fun (he : l[k].1 = p) => getT_find hlt HH.out he)
      have HN := Lib.hid (fun (hne : l[k].1 ≠ p) => show ∀ j (h : j < l.length), j < k + 1 → l[j].1 ≠ p from fun j h h2 => by
        by_cases e : j = k
        · subst e; exact hne
        · exact HH.out j h (by omega))
      generalize l[k] = q at *
      obtain ⟨a, t⟩ := q
      simp only at *
      by_cases he : a = p
      · have HE := Lib.hid (show R = some t by rw [← HR.out]; exact HF.out he)
        subst he
        go_wp2
        go_ret2
        rw [HE.out]
        exact ⟨rfl, rfl⟩
      · have HNN := Lib.hid (HN.out he)
        go_wp2
        go_round
        case rel => exact ⟨k + 1, by omega, by go_num, HNN.out⟩
        case measure => simp [intOf]; omega
    · have HE := Lib.hid (show R = none by
        rw [← HR.out]
        refine getT_none_iff.2 fun x hx => ?_
        obtain ⟨j, hj, rfl⟩ := List.getElem_of_mem hx
        exact HH.out j hj (by omega))
      go_wp2
      go_ret2
      rw [HE.out]
      exact ⟨rfl, rfl⟩
set_option maxHeartbeats 1000000 in
set_option maxRecDepth 100000 in
theorem ifolderOf_any (A : Option Addr) (c : Nat) (l : List Pc) (p : Int) (w : World) (hs : Sl w encP 2 A l) (hv : storeV l = true) (ht : TzL w) (hm : MaxL w) :
    Calls Tryz.prog 73 #[.slice A l.length c, .int .i64 p] w (RfRes (folderOf l p) w) := by
  have HS := Lib.hid hs
  have HT := Lib.hid ht
  have HM := Lib.hid hm
  have hl := storeV_len hv
  have hX := fun w h => itextOf_any A c l p w h (by omega) (storeV_sorted hv)
  have hsz : ∀ t, getT l p = some t → t.size ≤ 60 := fun t h => textV_size (getT_valid hv h).1
  clear hs ht hm
  unfold GtRes at hX
  unfold folderOf
  cases hg : getT l p with
  | none =>
    rw [hg] at hX
    have HX := Lib.hid hX
    clear hX hg hsz hv
    go_enter Tryz.func73, Tryz.ntmps73
    go_wp2_with fail
    refine (HX.out _ HS.out).mono ?_
    rintro e w1 ⟨rfl, hb⟩
    have HB := Lib.hid hb
    clear hb
    go_wp2
    go_ret2
    exact RfRes.no rfl HB.out
  | some t =>
    have hts := hsz t hg
    rw [hg] at hX
    have HX := Lib.hid hX
    have hRF := fun w h h2 => iReadFolder_any t w (by omega) h h2
    rw [Option.bind_some]
    unfold RfRes at *
    rw [show readF (tx t) = readF (bs t) from rfl]
    generalize readF (bs t) = R at *
    have HRF := Lib.hid hRF
    clear hX hg hsz hv hRF
    go_enter Tryz.func73, Tryz.ntmps73
    go_wp2_with fail
    refine (HX.out _ HS.out).mono ?_
    rintro e w1 ⟨rfl, hb⟩
    have HB := Lib.hid hb
    clear hb
    go_wp2_with fail
    refine (HRF.out _ (HT.out.below HB.out) (HM.out.below HB.out)).mono ?_
    rintro e w2 ⟨v, rfl, hown, hb⟩
    have HW := Lib.hid (hown.mono HB.out.size)
    have HB2 := Lib.hid (Below_then HB.out hb (Nat.le_refl _))
    clear hown hb
    go_wp2
    go_ret2
    exact ⟨_, rfl, HW.out, HB2.out⟩
end Go.Proofs.YtaeaccakkielmaaGreatDoor
