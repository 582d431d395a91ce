/- Written by merge.py: Ev, Co, In, Bs, Pt, Inv, Ap3, Ps, Ft, Rg, Pj, Pk, Ql. -/
import Derived.Laws.CopyRow
import Derived.Laws.IdiomCopy
import Derived.Lib.AppendZerosOnto
import Derived.Lib.Overlaps
import Derived.Shelf.Spec.SlicesInsert
import Derived.Laws.CopyOwn
import Derived.Shelf.Abstract
import Derived.Maps.AppendAt
import Derived.Lib.Join
import Derived.Test.YtaeaccakkielmaaDoorMgQuotasValid3
/- EntriesValid and FolderText, walked. -/
set_option linter.unusedVariables false
namespace Go.Proofs.YtaeaccakkielmaaDoor
open Go.RowKit
theorem entAt_eq {l : List En} {k : Nat} (hk : k < l.length) : entAt l k = ((wordV (bs l[k].1) && pv l[k].2) && (k == 0 || lessB (bs (l.getD (k - 1) en0).1) (bs l[k].1))) := by
  unfold entAt entOk; rw [getD_en hk]
theorem entAt_word {l : List En} {k : Nat} (hk : k < l.length) (h : wordV (bs l[k].1) = false) : entAt l k = false := by rw [entAt_eq hk, h]; rfl
theorem entAt_pv {l : List En} {k : Nat} (hk : k < l.length) (h : pv l[k].2 = false) : entAt l k = false := by rw [entAt_eq hk, h, Bool.and_false]; rfl
theorem entAt_asc {l : List En} {k : Nat} (hk : k < l.length) (h0 : k ≠ 0) (h : lessB (bs (l.getD (k - 1) en0).1) (bs l[k].1) = false) : entAt l k = false := by
  rw [entAt_eq hk, h, beq_eq_false_iff_ne.2 h0, Bool.or_false, Bool.and_false]
theorem entAt_ok {l : List En} {k : Nat} (hk : k < l.length) (h1 : wordV (bs l[k].1) = true) (h2 : pv l[k].2 = true) (h3 : k = 0 ∨ lessB (bs (l.getD (k - 1) en0).1) (bs l[k].1) = true) : entAt l k = true := by
  rw [entAt_eq hk, h1, h2]
  rcases h3 with h3 | h3
  · subst h3; rfl
  · rw [h3, Bool.or_true]; rfl
theorem FitE.at {l : List En} (h : FitE l) {k : Nat} (hk : k < l.length) : l[k].1.size ≤ 16777216 := h _ (by simp)
theorem prev_cellE {w : World} {b o : Nat} {l : List En} {k : Nat} (h : Sl w encE 2 (some ⟨b, o, none⟩) l) (hk : k < l.length) (h0 : k ≠ 0) : w.cell? ⟨b, o + (k - 1) * 2, none⟩ = some (.string (l.getD (k - 1) en0).1) := by
  obtain ⟨b', o', e, h', _⟩ := h.getE (k := k - 1) (by omega)
  injection e with e; injection e with e1 e2
  rw [e1, e2, getD_en (by omega)]; exact h'
theorem less_t {a b : ByteArray} {x : Bool} (h : lessB (bs a) (bs b) = x) : Op.bytesLess a.toList b.toList = x := by rw [less_tl]; exact h
set_option maxHeartbeats 8000000 in
set_option maxRecDepth 100000 in
theorem sEntriesValid_any (A : Option Addr) (c : Nat) (l : List En) (w : World) (hs : Sl w encE 2 A l) (hl : l.length ≤ 16777216) (hf : FitE l) :
    Calls Tryd.prog 85 #[.slice A l.length c] w fun e w' => e = .returned (.bool (entsV l)) ∧ Below w.heap.size w w' := by
  have HS := Lib.hid hs
  have HF := Lib.hid hf
  clear hs hf
  go_enter Tryd.func85, Tryd.ntmps85
  go_wp2
  go_loopw [3] (fun i wr => ∃ (k : Nat), k ≤ l.length ∧ i = .int .i64 k ∧ Hid (EntUpto l k) ∧ Hid (Below w.heap.size w wr)) (fun i _ => l.length - (intOf i).toNat)
  case atStart => exact ⟨0, Nat.zero_le _, rfl, EntUpto.zero l, Below.refl _ _⟩
  case round =>
    obtain ⟨k, hk, rfl, hh, HB⟩ := hrel
    by_cases hlt : k < l.length
    · have hsk := HS.out.below HB.out
      obtain ⟨b, o, rfl, hc0, hc1⟩ := hsk.getE hlt
      have hfk := HF.out.at hlt
      have hpv := @prev_cellE _ _ _ _ k hsk hlt
      have H1 := Lib.hid (fun h => entsV_bad hlt (entAt_word hlt h))
      have H2 := Lib.hid (fun h => entsV_bad hlt (entAt_pv hlt h))
      have H3 := Lib.hid (fun h0 h => entsV_bad hlt (entAt_asc hlt h0 h))
      have H4 := Lib.hid (fun h1 h2 h3 => hh.out.succ (entAt_ok hlt h1 h2 h3))
      have hx0 := far_cell hc0
      have hx1 := far_cell hc1
      clear hsk hc0 hc1
      generalize (l.getD (k - 1) en0).1 = z at *
      generalize l[k] = p at *
      obtain ⟨t, a⟩ := p
      simp only at *
      have hTV := fun w => sWordValid_any t w hfk
      have hPV : ∀ w, Calls Tryd.prog 26 #[.int .i64 a, .int .i64 0, .int .i64 16777212] w fun e w' => e = .returned (.bool (pv a)) ∧ w = w' := fun w => sl1In_any a 0 16777212 w
      cases h1 : wordV (bs t)
      · have HE := Lib.hid (H1.out h1)
        rw [h1] at hTV
        have HTV := Lib.hid hTV
        clear hTV hPV h1 H1 H2 H3 H4 hpv
        go_wp2
        refine wp_region_far (by kernel_rfl) (by kernel_rfl) ?_
        repeat (go_big_quiet_step ((go_at_call 63; exact far_same (HTV.out _))))
        refine wpQuiet_nil ?_
        intro _ hwF
        obtain ⟨pF, hwF⟩ := hwF
        subst hwF
        have HB5 := Lib.hid (Below_then HB.out (far_below _ pF) (Nat.le_refl _))
        generalize far _ pF = wF at *
        go_wp2
        go_ret
        exact ⟨ret_bool HE.out.symm, HB5.out⟩
      · rw [h1] at hTV
        have HTV := Lib.hid hTV
        clear hTV
        cases h2 : pv a
        · have HE := Lib.hid (H2.out h2)
          rw [h2] at hPV
          have HPV := Lib.hid hPV
          clear hPV h1 h2 H1 H2 H3 H4 hpv
          go_wp2
          refine wp_region_far (by kernel_rfl) (by kernel_rfl) ?_
          repeat (go_big_quiet_step ((first | (go_at_call 63; exact far_same (HTV.out _)) | (go_at_call 26; exact far_same (HPV.out _)))))
          refine wpQuiet_nil ?_
          intro _ hwF
          obtain ⟨pF, hwF⟩ := hwF
          subst hwF
          have HB5 := Lib.hid (Below_then HB.out (far_below _ pF) (Nat.le_refl _))
          generalize far _ pF = wF at *
          go_wp2
          go_ret
          exact ⟨ret_bool HE.out.symm, HB5.out⟩
        · rw [h2] at hPV
          have HPV := Lib.hid hPV
          clear hPV
          by_cases h0 : k = 0
          · have HN := Lib.hid (H4.out h1 h2 (.inl h0))
            clear h1 h2 H1 H2 H3 H4 hpv
            have hk0 : decide (0 < k) = false := decide_eq_false (by omega)
            clear h0
            go_wp2
            refine wp_region_far (by kernel_rfl) (by kernel_rfl) ?_
            repeat (go_big_quiet_step ((first | (go_at_call 63; exact far_same (HTV.out _)) | (go_at_call 26; exact far_same (HPV.out _)))))
            refine wpQuiet_nil ?_
            intro _ hwF
            obtain ⟨pF, hwF⟩ := hwF
            subst hwF
            have HB5 := Lib.hid (Below_then HB.out (far_below _ pF) (Nat.le_refl _))
            generalize far _ pF = wF at *
            go_wp2
            go_roundw
            case rel => exact ⟨k + 1, by omega, by go_num, HN.out, HB5.out⟩
            case measure => simp [intOf]; omega
          · have hp1 := far_cell (hpv h0)
            have hk1 : 0 < k := by omega
            have hk2 : IntKind.i64.wrap ((k : Int) - 1) = (k : Int) - 1 := IntWalk.i64_in _ (by omega)
            have hk3 : (0 : Int) ≤ (k : Int) - 1 := by omega
            have hk4 : (k : Int) - 1 < (l.length : Int) := by omega
            have hk5 : ((k : Int) - 1).toNat = k - 1 := by omega
            cases h3 : lessB (bs z) (bs t)
            · have HE := Lib.hid (H3.out h0 h3)
              cases h4 : lessB (bs t) (bs z)
              · have e4 := less_t h4
                have e5 : (t.toList == z.toList) = true := by rw [eq_tl]; exact beq_iff_eq.2 (lessB_tri h4 h3)
                clear h1 h2 h3 h4 H1 H2 H3 H4 hpv
                go_wp2
                refine wp_region_far (by kernel_rfl) (by kernel_rfl) ?_
                repeat (go_big_quiet_step ((first | (go_at_call 63; exact far_same (HTV.out _)) | (go_at_call 26; exact far_same (HPV.out _)))))
                refine wpQuiet_nil ?_
                intro _ hwF
                obtain ⟨pF, hwF⟩ := hwF
                subst hwF
                have HB5 := Lib.hid (Below_then HB.out (far_below _ pF) (Nat.le_refl _))
                clear hx0 hx1 hp1
                generalize far _ pF = wF at *
                go_wp2
                go_ret
                exact ⟨ret_bool HE.out.symm, HB5.out⟩
              · have e4 := less_t h4
                clear h1 h2 h3 h4 H1 H2 H3 H4 hpv
                go_wp2
                refine wp_region_far (by kernel_rfl) (by kernel_rfl) ?_
                repeat (go_big_quiet_step ((first | (go_at_call 63; exact far_same (HTV.out _)) | (go_at_call 26; exact far_same (HPV.out _)))))
                refine wpQuiet_nil ?_
                intro _ hwF
                obtain ⟨pF, hwF⟩ := hwF
                subst hwF
                have HB5 := Lib.hid (Below_then HB.out (far_below _ pF) (Nat.le_refl _))
                clear hx0 hx1 hp1
                generalize far _ pF = wF at *
                go_wp2
                go_ret
                exact ⟨ret_bool HE.out.symm, HB5.out⟩
            · have HN := Lib.hid (H4.out h1 h2 (.inr h3))
              have e4 := less_t (lessB_asymm h3)
              have e5 : (t.toList == z.toList) = false := by rw [eq_tl, beq_eq_false_iff_ne]; intro e; have h3' : lessB (tx z) (tx t) = true := h3; rw [e, lessB_irrefl] at h3'; cases h3'
              clear h1 h2 h3 H1 H2 H3 H4 hpv
              go_wp2
              refine wp_region_far (by kernel_rfl) (by kernel_rfl) ?_
              repeat (go_big_quiet_step ((first | (go_at_call 63; exact far_same (HTV.out _)) | (go_at_call 26; exact far_same (HPV.out _)))))
              refine wpQuiet_nil ?_
              intro _ hwF
              obtain ⟨pF, hwF⟩ := hwF
              subst hwF
              have HB5 := Lib.hid (Below_then HB.out (far_below _ pF) (Nat.le_refl _))
              clear hx0 hx1 hp1
              generalize far _ pF = wF at *
              go_wp2
              go_roundw
              case rel => exact ⟨k + 1, by omega, by go_num, HN.out, HB5.out⟩
              case measure => simp [intOf]; omega
    · have HD := Lib.hid (fun h40 => hh.out.done hlt h40)
      have HL := Lib.hid (@entsV_long l)
      by_cases h40 : l.length ≤ 3
      · have HE := Lib.hid (HD.out h40)
        go_wp2
        go_ret
        exact ⟨ret_bool (by rw [HE.out]; simp; omega), HB.out⟩
      · have HE := Lib.hid (HL.out h40)
        go_wp2
        go_ret
        exact ⟨ret_bool (by rw [HE.out]; simp; omega), HB.out⟩
end Go.Proofs.YtaeaccakkielmaaDoor

/- 'copy' of elements of more than one cell, as run equations; a row written whole. -/
set_option linter.unusedVariables false
namespace Go.Proofs.YtaeaccakkielmaaDoor
open Go.RowKit

theorem run_copy_rowK {P : Program} (w : World) (dT sT ty elem : TypeId) (g o dLen dCap : Nat) (a : Addr) (sLen sCap : Nat) (cur : Array Value) (t : TypeId) (cs : List Value) (k m : Nat)
    (hu : P.underlying dT = some (.slice elem)) (hs : (P.info? elem).map (·.size) = some k) (hm : Nat.min sLen dLen = m)
    (hg : w.heap[g]? = some (.cells cur t (0, 0))) (hn : cs.length = m * k)
    (hsrc : ∀ j v, cs[j]? = some v → w.cell? (a.add j) = some v) (hfit : o + cs.length ≤ cur.size) (h1 : ∀ v ∈ cs, v.oneCell' = true) :
    (Builtin.copy_ #[dT, sT] ty #[.slice (some ⟨g, o, none⟩) dLen dCap, .slice (some a) sLen sCap]).run P w =
      .ok (goInt m) (w.setRow g (cur.toList.take o ++ cs ++ cur.toList.drop (o + cs.length)).toArray) := by
  have hl := run_loadCells_list (P := P) w a cs hsrc
  have hst := run_storeCells_at P g o t cs 0 cur w hg (by simpa using hfit) h1
  rw [hn] at hl
  cases hq : P.info? elem with
  | none => simp [hq] at hs
  | some i =>
    have hi : i.size = k := by simpa [hq] using hs
    simp [Builtin.copy_, run_underlying hu, Builtin.lenOf, Builtin.firstCells, sizeOf, typeInfo, hq, hi, hm, hl, hst]
end Go.Proofs.YtaeaccakkielmaaDoor

/- slices.Insert of one piece into a row of the call's own, walked. -/
set_option linter.unusedVariables false
namespace Go.Proofs.YtaeaccakkielmaaDoor
open Go.RowKit

def InsRes (base : Nat) (l : List Pc) (w : World) (e : Ending) (w' : World) : Prop := ∃ v', e = .returned v' ∧ Own w' base 58 2 encP v' l ∧ Below base w w'
theorem ins_end (l : List Pc) (x : Pc) : l ++ [x] = l.take l.length ++ x :: l.drop l.length := by simp
theorem flat_take {α : Type} {enc : α → List Value} {k : Nat} (he : ∀ x, (enc x).length = k) (l : List α) (i : Nat) (hi : i ≤ l.length) : flat enc (l.take i) = (flat enc l).take (i * k) ∧ flat enc (l.drop i) = (flat enc l).drop (i * k) := by
  have e : flat enc l = flat enc (l.take i) ++ flat enc (l.drop i) := by rw [← flat_append, List.take_append_drop]
  have hlen : (flat enc (l.take i)).length = i * k := by rw [flat_length he, List.length_take]; congr 1; omega
  rw [e]
  exact ⟨(List.take_left' hlen).symm, (List.drop_left' hlen).symm⟩
/-- A row into which two cells were laid: first what stands behind moves, then the cells come in. -/
theorem ins_row {α : Type} {L C X S N1 N2 : List α} {a b : Nat} (hC : L.take b = C) (hb : b + 2 ≤ L.length) (hab : a ≤ b) (hX : X.length = 2) (hS : S = C.drop a)
    (h1 : N1 = L.take (a + 2) ++ S ++ L.drop (a + 2 + S.length)) (h2 : N2 = N1.take a ++ X ++ N1.drop (a + X.length)) :
    N1.length = L.length ∧ N2.length = L.length ∧ N2.take (b + 2) = C.take a ++ X ++ C.drop a := by
  have hCl : C.length = b := by rw [← hC, List.length_take]; omega
  have hSl : S.length = b - a := by rw [hS, List.length_drop, hCl]
  have hL2 : (L.take (a + 2)).length = a + 2 := by rw [List.length_take]; omega
  have e1 : N1.take a = C.take a := by
    rw [h1, List.append_assoc, List.take_append_of_le_length (by omega), List.take_take, ← hC, List.take_take]
    congr 1; omega
  have e2 : N1.drop (a + 2) = S ++ L.drop (a + 2 + S.length) := by
    rw [h1, List.append_assoc]; exact List.drop_left' hL2
  have l1 : N1.length = L.length := by rw [h1]; simp; omega
  have eN : N2 = (C.take a ++ X ++ C.drop a) ++ L.drop (a + 2 + S.length) := by
    rw [h2, hX, e1, e2, ← hS]; simp
  have hl : (C.take a ++ X ++ C.drop a).length = b + 2 := by simp [hX, hCl]; omega
  refine ⟨l1, ?_, ?_⟩
  · rw [eN, List.length_append, hl]; simp; omega
  · rw [eN]; exact List.take_left' hl
theorem one_sl {w : World} {vb : Nat} {x : Pc} (hv : w.heap[vb]? = some (.cells #[.int .i64 x.1, .string x.2] 58 (0, 0))) : Sl w encP 2 (some ⟨vb, 0, none⟩) [x] := by
  intro _
  refine ⟨vb, 0, rfl, fun j u hu => ?_⟩
  rw [cell_of_row _ _ _ _ _ (0, 0) hv]
  simpa [flat, encP] using hu
set_option maxHeartbeats 4000000 in
set_option maxRecDepth 100000 in
theorem Insert_end (base : Nat) (v : Value) (l : List Pc) (x : Pc) (w : World) (vb : Nat) (hbase : base ≤ w.heap.size) (hown : Own w base 58 2 encP v l)
    (hv : w.heap[vb]? = some (.cells #[.int .i64 x.1, .string x.2] 58 (0, 0))) (hl : l.length ≤ 16777216) :
    Calls Tryd.prog 62 #[v, .int .i64 l.length, .slice (some ⟨vb, 0, none⟩) 1 1] w (InsRes base (l ++ [x]) w) := by
  obtain ⟨i0, hi0, hz0, hz1, hz2⟩ := info_parts pc_info
  have hsx := one_sl hv
  have HBR := Lib.hid (Below.refl base w)
  have hcz := hown
  obtain ⟨A, c, rfl, hle, hs, hA⟩ := hown.sl
  have HO := Lib.hid hcz
  have HCZ := Lib.hid hcz.cz
  have HSX := Lib.hid hsx
  clear hcz hsx hown hs hv
  have hcm : c ≤ 9223372036854775807 := by
    rcases HO.out.2 with ⟨hv, hn⟩ | ⟨g, cap, cur, hv, hg, hh, hnc, hcm, hsz, ht⟩
    · injection hv with _ _ e; omega
    · injection hv with _ _ e; unfold maxLen at hcm; omega
  unfold InsRes
  rcases hA with ⟨hl0, rfl⟩ | ⟨g, rfl, hg, hgw⟩
  · subst hl0
    obtain rfl := HCZ.out rfl
    go_enter Tryd.func62, Tryd.ntmps62
    go_wp2_with (at_builtin; refine wpList_appN (w0 := w) (B := base) (base := base) (m := [x]) Tryd.underlying35 hi0 hz0 hz1 hz2 rfl (by decide) (by decide) rfl _ _ rfl HO.out HBR.out (Nat.le_refl _) hbase (by simp) HSX.out (by intro h; cases h) (fun _ => rfl) oneP rfl rfl ?_; intro v' w' hown' hb' _; have HO2 := Lib.hid hown'; have HB2 := Lib.hid hb'; clear hown' hb')
    go_ret
    exact ⟨_, rfl, HO2.out, HB2.out⟩
  · go_enter Tryd.func62, Tryd.ntmps62
    go_wp2_with (at_builtin; refine wpList_appN (w0 := w) (B := base) (base := base) (m := [x]) Tryd.underlying35 hi0 hz0 hz1 hz2 rfl (by decide) (by decide) rfl _ _ rfl HO.out HBR.out (Nat.le_refl _) hbase (by simp; omega) HSX.out (by intro h; cases h) (fun _ => rfl) oneP rfl rfl ?_; intro v' w' hown' hb' _; have HO2 := Lib.hid hown'; have HB2 := Lib.hid hb'; clear hown' hb')
    all_goals
      go_ret
      exact ⟨_, rfl, HO2.out, HB2.out⟩
set_option maxHeartbeats 4000000 in
set_option maxRecDepth 100000 in
theorem Insert_room (base : Nat) (l : List Pc) (x : Pc) (i : Nat) (w : World) (vb g cap : Nat) (cur : Array Value) (hbase : base ≤ w.heap.size)
    (hg : base ≤ g) (hh : w.heap[g]? = some (.cells cur 58 (0, 0))) (hcm : cap ≤ maxLen) (hsz : cur.size = cap * 2) (ht : cur.toList.take (l.length * 2) = flat encP l) (hroom : l.length + 1 ≤ cap)
    (hv : w.heap[vb]? = some (.cells #[.int .i64 x.1, .string x.2] 58 (0, 0))) (hne : vb ≠ g) (hi : i < l.length) (hl : l.length ≤ 16777216) :
    Calls Tryd.prog 62 #[.slice (some ⟨g, 0, none⟩) l.length cap, .int .i64 i, .slice (some ⟨vb, 0, none⟩) 1 1] w (InsRes base (l.take i ++ x :: l.drop i) w) := by
  obtain ⟨i0, hi0, hz0, hz1, hz2⟩ := info_parts pc_info
  have hsz' : ∀ w, (Go.sizeOf 58).run Tryd.prog w = .ok 2 w := fun w => by simp [sizeOf, typeInfo, hi0, hz1]
  have hsa : w.shape? vb = some (58, 2) := by simp [World.shape?, hv]
  have hsb : w.shape? g = some (58, cur.size) := by simp [World.shape?, hh]
  have hfa : w.frozen? ⟨vb, 0, none⟩ = false := by simp [World.frozen?, hv]
  have hfe : w.frozen? ⟨vb, 2, none⟩ = false := by simp [World.frozen?, hv]
  have hov : ∀ o lb cb, (callFunc 76 #[.slice (some ⟨vb, 0, none⟩) 1 1, .slice (some ⟨g, o, none⟩) lb cb]).run Tryd.prog w = .ok (.value (.bool false)) w := fun o lb cb => by
    rw [run_callFunc_extern Tryd.func76 (by kernel_rfl) (by kernel_rfl) (by kernel_rfl) (e := Extern.SlicesOverlaps.overlaps #[35, 35] #[4]) (by kernel_rfl),
      Lib.run_overlaps_apart w 35 4 58 Tryd.underlying35 2 hsz' ⟨vb, 0, none⟩ ⟨g, o, none⟩ 1 1 lb cb hne 58 58 2 cur.size hsa hsb (by omega) hfa hfe]
    rfl
  obtain ⟨C, hC⟩ : ∃ C, C = flat encP l := ⟨_, rfl⟩
  have hCl : C.length = l.length * 2 := by rw [hC]; exact flat_length (enc := encP) (size := 2) (fun _ => rfl) l
  have hflat := flat_take (enc := encP) (k := 2) (fun _ => rfl) l i (by omega)
  rw [← hC] at ht hflat
  have hLl : cur.toList.length = cap * 2 := by rw [Array.length_toList]; exact hsz
  obtain ⟨S, hS⟩ : ∃ S, S = C.drop (i * 2) := ⟨_, rfl⟩
  have hSl : S.length = (l.length - i) * 2 := by rw [hS, List.length_drop, hCl]; omega
  obtain ⟨N1, hN1⟩ : ∃ N, N = cur.toList.take (i * 2 + 2) ++ S ++ cur.toList.drop (i * 2 + 2 + S.length) := ⟨_, rfl⟩
  obtain ⟨N2, hN2⟩ : ∃ N, N = N1.take (i * 2) ++ encP x ++ N1.drop (i * 2 + (encP x).length) := ⟨_, rfl⟩
  obtain ⟨l1, l2, tk⟩ := ins_row (a := i * 2) (b := l.length * 2) ht (by omega) (by omega) (X := encP x) rfl hS hN1 hN2
  have hz3 : (Tryd.prog.info? 58).map (·.size) = some 2 := by rw [hi0]; simp [hz1]
  have hcell : ∀ j u, C[j]? = some u → w.cell? ⟨g, j, none⟩ = some u := fun j u hu => by
    rw [cell_of_row _ _ _ _ _ (0, 0) hh, ← Array.getElem?_toList]
    rw [← ht, List.getElem?_take] at hu
    split at hu
    · exact hu
    · cases hu
  have hcp1 : ∀ ty dl sl dc sc, dl = l.length - i → sl = l.length + 1 - i → (Builtin.copy_ #[35, 35] ty #[.slice (some ⟨g, (i + 1) * 2, none⟩) dl dc, .slice (some ⟨g, i * 2, none⟩) sl sc]).run Tryd.prog w.drew = .ok (goInt ((l.length - i : Nat) : Int)) (w.drew.setRow g N1.toArray) := fun ty dl sl dc sc e1 e2 => by
    subst e1 e2
    have := run_copy_rowK (P := Tryd.prog) w.drew 35 35 ty 58 g ((i + 1) * 2) (l.length - i) dc ⟨g, i * 2, none⟩ (l.length + 1 - i) sc cur 58 S 2 (l.length - i) Tryd.underlying35 hz3 (by simp only [Nat.min_def]; split <;> omega) hh hSl
      (fun j u hu => by
        rw [Addr.add_lit]
        rw [hS, List.getElem?_drop] at hu
        exact hcell _ u hu)
      (by omega) (fun u hu => by
        rw [hS, hC] at hu
        unfold flat at hu
        obtain ⟨y, _, hy⟩ := List.mem_flatMap.1 (List.mem_of_mem_drop hu)
        exact oneP y u hy)
    rw [hN1, show i * 2 + 2 = (i + 1) * 2 by omega]
    exact this
  have hcp2 : ∀ ty dl dc, 0 < dl → (Builtin.copy_ #[35, 35] ty #[.slice (some ⟨g, i * 2, none⟩) dl dc, .slice (some ⟨vb, 0, none⟩) 1 1]).run Tryd.prog (w.drew.setRow g N1.toArray) = .ok (goInt 1) ((w.drew.setRow g N1.toArray).setRow g N2.toArray) := fun ty dl dc e1 => by
    have := run_copy_rowK (P := Tryd.prog) (w.drew.setRow g N1.toArray) 35 35 ty 58 g (i * 2) dl dc ⟨vb, 0, none⟩ 1 1 N1.toArray 58 (encP x) 2 1 Tryd.underlying35 hz3 (by simp only [Nat.min_def]; split <;> omega) (setRow_heap w.drew g _ _ _ _ hh) rfl
      (fun j u hu => by
        rw [Addr.add_lit, cell_of_row _ _ _ _ _ (0, 0) ((setRow_other w.drew g vb _ hne).trans hv)]
        simpa [encP] using hu)
      (by simp [encP, l1]; omega) (fun u hu => oneP x u hu)
    rw [hN2]
    exact this
  have hfin : Own ((w.drew.setRow g N1.toArray).setRow g N2.toArray) base 58 2 encP (.slice (some ⟨g, 0, none⟩) (l.length + 1) cap) (l.take i ++ x :: l.drop i) := by
    have hll : (l.take i ++ x :: l.drop i).length = l.length + 1 := by simp; omega
    refine ⟨flat_length (enc := encP) (size := 2) (fun _ => rfl) _, .inr ⟨g, cap, N2.toArray, by rw [hll], hg, setRow_heap _ g _ _ _ _ (setRow_heap w.drew g _ _ _ _ hh), by rw [hll]; exact hroom, hcm, by simp [l2, hLl], ?_⟩⟩
    have e : flat encP (l.take i ++ x :: l.drop i) = flat encP (l.take i) ++ (encP x ++ flat encP (l.drop i)) := by rw [flat_append]; rfl
    rw [e, hflat.1, hflat.2, hll, show (l.length + 1) * 2 = l.length * 2 + 2 by omega]
    show N2.take _ = _
    rw [tk, List.append_assoc]
  have mixed : Tryd.prog.follows .mixedOrders = true := by kernel_rfl
  have HFIN := Lib.hid hfin
  have HBEL := Lib.hid (below_setRow (below_setRow ((Below.refl base w).drew) hg N1.toArray) hg N2.toArray)
  have HC1 := Lib.hid (fun ty => hcp1 ty _ _ (cap - (i + 1)) (cap - i) rfl rfl)
  have HC2 := Lib.hid (fun ty => hcp2 ty (l.length + 1 - i) (cap - i) (by omega))
  clear hfin hcp1 hcp2 hcell tk l2 hN2 l1 hN1 hSl hS hLl hflat hCl hC hsz' hz3
  unfold maxLen at hcm
  unfold InsRes
  clear hh hv ht hsa hsb hfa hfe
  have hz2' : ¬ ((i : Int) = (l.length : Int)) := by omega
  have hin : i ≤ l.length := by omega
  have hb2 : ¬ (cap = i + 1) := by omega
  have hb4 : ¬ (cap = i) := by omega
  have hw1 : IntKind.i64.wrap ((i : Int) + 1) = (i : Int) + 1 := by rw [IntKind.wrap_i64]; omega
  have htn : ((i : Int) + 1).toNat = i + 1 := by omega
  have hb1 : (0 : Int) ≤ (i : Int) + 1 := by omega
  have hb3 : (i : Int) ≤ (l.length : Int) + 1 := by omega
  go_enter Tryd.func62, Tryd.ntmps62
  go_wp2_with (simp only [hov])
  go_region_law_o (refine step_copy_runI rfl _ _ 35 35 rfl (.slice (some ⟨g, (i + 1) * 2, none⟩) (l.length - i) (cap - (i + 1))) (.slice (some ⟨g, i * 2, none⟩) (l.length + 1 - i) (cap - i)) (by simp [Act.eval, Act.put]) (by simp [Act.eval, Act.put]) (HC1.out _) ?_)
  have hc2 := HC2.out
  go_wp2
  go_ret
  exact ⟨_, rfl, HFIN.out, HBEL.out⟩
theorem grow_row {α : Type} {R P X S N1 N2 : List α} {a : Nat} (hP : R.take a = P) (hPl : P.length = a) (hX : X.length = 2) (hb : a + 2 + S.length ≤ R.length)
    (h1 : N1 = R.take a ++ X ++ R.drop (a + X.length)) (h2 : N2 = N1.take (a + 2) ++ S ++ N1.drop (a + 2 + S.length)) :
    N1.length = R.length ∧ N2.length = R.length ∧ N2.take (a + 2 + S.length) = P ++ X ++ S := by
  rw [hX, hP] at h1
  have l1 : N1.length = R.length := by rw [h1]; simp [hPl, hX]; omega
  have e1 : N1.take (a + 2) = P ++ X := by rw [h1]; exact List.take_left' (by simp [hPl, hX])
  have hl : (P ++ X ++ S).length = a + 2 + S.length := by simp [hPl, hX]; omega
  refine ⟨l1, ?_, ?_⟩
  · rw [h2, e1, List.length_append, hl, List.length_drop, l1]; omega
  · rw [h2, e1]; exact List.take_left' hl
set_option maxHeartbeats 4000000 in
set_option maxRecDepth 100000 in
theorem Insert_grow (base : Nat) (l : List Pc) (x : Pc) (i : Nat) (w : World) (vb g cap : Nat) (cur : Array Value) (hbase : base ≤ w.heap.size)
    (hg : base ≤ g) (hh : w.heap[g]? = some (.cells cur 58 (0, 0))) (hle : l.length ≤ cap) (ht : cur.toList.take (l.length * 2) = flat encP l) (hroom : cap < l.length + 1)
    (hv : w.heap[vb]? = some (.cells #[.int .i64 x.1, .string x.2] 58 (0, 0))) (hi : i < l.length) (hl : l.length ≤ 16777216) :
    Calls Tryd.prog 62 #[.slice (some ⟨g, 0, none⟩) l.length cap, .int .i64 i, .slice (some ⟨vb, 0, none⟩) 1 1] w (InsRes base (l.take i ++ x :: l.drop i) w) := by
  obtain ⟨i0, hi0, hz0, hz1, hz2⟩ := info_parts pc_info
  have hgw : g < w.heap.size := (Array.getElem?_eq_some_iff.1 hh).1
  have hvw : vb < w.heap.size := (Array.getElem?_eq_some_iff.1 hv).1
  obtain ⟨C, hC⟩ : ∃ C, C = flat encP l := ⟨_, rfl⟩
  have hCl : C.length = l.length * 2 := by rw [hC]; exact flat_length (enc := encP) (size := 2) (fun _ => rfl) l
  have hflat := flat_take (enc := encP) (k := 2) (fun _ => rfl) l i (by omega)
  rw [← hC] at ht hflat
  obtain ⟨S, hS⟩ : ∃ S, S = C.drop (i * 2) := ⟨_, rfl⟩
  have hSl : S.length = (l.length - i) * 2 := by rw [hS, List.length_drop, hCl]; omega
  have hPl : (C.take (i * 2)).length = i * 2 := by rw [List.length_take, hCl]; omega
  have hz3 : (Tryd.prog.info? 58).map (·.size) = some 2 := by rw [hi0]; simp [hz1]
  have hcell : ∀ j u, C[j]? = some u → w.cell? ⟨g, j, none⟩ = some u := fun j u hu => by
    rw [cell_of_row _ _ _ _ _ (0, 0) hh, ← Array.getElem?_toList]
    rw [← ht, List.getElem?_take] at hu
    split at hu
    · exact hu
    · cases hu
  have hold : (Builtin.firstCells i0.size i (.slice (some ⟨g, 0, none⟩) i cap)).run Tryd.prog w.drew = .ok (C.take (i * 2)).toArray w.drew := by
    rw [hz1]
    exact run_firstCells_some w.drew 2 i ⟨g, 0, none⟩ i cap (C.take (i * 2)) hPl (fun j u hu => by
      rw [Addr.add_lit, Nat.zero_add]
      rw [List.getElem?_take] at hu
      split at hu
      · exact hcell j u hu
      · cases hu)
  have hik : i + (l.length + 1 - i) = l.length + 1 := by omega
  have hkk : (l.length : Int) + 1 - (i : Int) = ((l.length + 1 - i : Nat) : Int) := by omega
  obtain ⟨G, hG⟩ : ∃ G, G = grownCap w (l.length + 1) cap 58 := ⟨_, rfl⟩
  have hGn : l.length + 1 ≤ G := by rw [hG]; exact grownCap_ge w _ _ _
  have hG63 : G ≤ maxLen := by rw [hG]; exact grownCap_le_maxLen w (l.length + 1) cap 58 (by unfold maxLen; omega)
  obtain ⟨R, hR⟩ : ∃ R : Array Value, R = (C.take (i * 2)).toArray ++ Builtin.zeroCells (Value.agg #[.int .i64 0, .string ⟨#[]⟩]).cells (l.length + 1 - i) ++ Builtin.zeroCells (Value.agg #[.int .i64 0, .string ⟨#[]⟩]).cells (G - (l.length + 1)) := ⟨_, rfl⟩
  have hRl : R.size = G * 2 := by
    rw [hR]
    simp only [Array.size_append, List.size_toArray, hPl]
    have hz : ∀ k, (Builtin.zeroCells (Value.agg #[.int .i64 0, .string ⟨#[]⟩]).cells k).size = k * 2 := fun k => by simp [Builtin.zeroCells, Value.cells]
    rw [hz, hz]; omega
  have hRll : R.toList.length = G * 2 := by rw [Array.length_toList]; exact hRl
  have hRt : R.toList.take (i * 2) = C.take (i * 2) := by
    rw [hR]; simp only [Array.toList_append, List.append_assoc]
    exact List.take_left' hPl
  have hrz : ∀ ty, (Builtin.append_ #[35, 3] ty #[.slice (some ⟨g, 0, none⟩) i cap, .int .i64 ((l.length : Int) + 1 - (i : Int))]).run Tryd.prog w =
      .ok (.slice (some ⟨w.heap.size, 0, none⟩) (l.length + 1) G) (w.alloc (.cells R 58)).drew := fun ty => by
    have h := Lib.run_append_grow_zeros (P := Tryd.prog) w 35 3 ty 58 i0 _ .i64 .i64 Tryd.underlying35 Tryd.underlying3 hi0 hz0 (some ⟨g, 0, none⟩) i cap (C.take (i * 2)) hold (l.length + 1 - i) (by omega) (by omega) (by omega) (by omega) (by rw [hz2]; omega) (by rw [hz2, hik]; exact growslice_fits hroom (by omega))
    rw [hik, ← hG, ← hR] at h
    rw [hkk]
    exact h
  obtain ⟨N1, hN1⟩ : ∃ N, N = R.toList.take (i * 2) ++ encP x ++ R.toList.drop (i * 2 + (encP x).length) := ⟨_, rfl⟩
  obtain ⟨N2, hN2⟩ : ∃ N, N = N1.take (i * 2 + 2) ++ S ++ N1.drop (i * 2 + 2 + S.length) := ⟨_, rfl⟩
  obtain ⟨l1, l2, tk⟩ := grow_row (a := i * 2) (X := encP x) hRt hPl rfl (by rw [hRll, hSl]; omega) hN1 hN2
  rw [hRll] at l1 l2
  have hrow0 : (w.alloc (.cells R 58)).drew.heap[w.heap.size]? = some (.cells R 58 (0, 0)) := heap_alloc_new w _
  have hold0 : ∀ k, k < w.heap.size → (w.alloc (.cells R 58)).drew.heap[k]? = w.heap[k]? := fun k hk => by
    show (w.heap.push _)[k]? = _
    rw [Array.getElem?_push, if_neg (by omega)]
  have hcpA : ∀ ty, (Builtin.copy_ #[35, 35] ty #[.slice (some ⟨w.heap.size, i * 2, none⟩) (l.length + 1 - i) (G - i), .slice (some ⟨vb, 0, none⟩) 1 1]).run Tryd.prog (w.alloc (.cells R 58)).drew = .ok (goInt 1) ((w.alloc (.cells R 58)).drew.setRow w.heap.size N1.toArray) := fun ty => by
    have := run_copy_rowK (P := Tryd.prog) (w.alloc (.cells R 58)).drew 35 35 ty 58 w.heap.size (i * 2) (l.length + 1 - i) (G - i) ⟨vb, 0, none⟩ 1 1 R 58 (encP x) 2 1 Tryd.underlying35 hz3 (by simp only [Nat.min_def]; split <;> omega) hrow0 rfl
      (fun j u hu => by
        rw [Addr.add_lit, cell_of_row _ _ _ _ _ (0, 0) ((hold0 vb hvw).trans hv)]
        simpa [encP] using hu)
      (by rw [hRl]; simp [encP]; omega) (fun u hu => oneP x u hu)
    rw [hN1]
    exact this
  have hrow1 : ((w.alloc (.cells R 58)).drew.setRow w.heap.size N1.toArray).drew.heap[w.heap.size]? = some (.cells N1.toArray 58 (0, 0)) := setRow_heap _ _ _ _ _ _ hrow0
  have hcpB : ∀ ty, (Builtin.copy_ #[35, 35] ty #[.slice (some ⟨w.heap.size, (i + 1) * 2, none⟩) (l.length - i) (G - (i + 1)), .slice (some ⟨g, i * 2, none⟩) (l.length - i) (cap - i)]).run Tryd.prog ((w.alloc (.cells R 58)).drew.setRow w.heap.size N1.toArray).drew = .ok (goInt ((l.length - i : Nat) : Int)) (((w.alloc (.cells R 58)).drew.setRow w.heap.size N1.toArray).drew.setRow w.heap.size N2.toArray) := fun ty => by
    have := run_copy_rowK (P := Tryd.prog) ((w.alloc (.cells R 58)).drew.setRow w.heap.size N1.toArray).drew 35 35 ty 58 w.heap.size ((i + 1) * 2) (l.length - i) (G - (i + 1)) ⟨g, i * 2, none⟩ (l.length - i) (cap - i) N1.toArray 58 S 2 (l.length - i) Tryd.underlying35 hz3 (by simp) hrow1 hSl
      (fun j u hu => by
        rw [Addr.add_lit, cell_of_row _ _ _ _ _ (0, 0) (show ((w.alloc (.cells R 58)).drew.setRow w.heap.size N1.toArray).drew.heap[g]? = some (.cells cur 58 (0, 0)) from (setRow_other (w.alloc (.cells R 58)).drew w.heap.size g _ (by omega)).trans ((hold0 g hgw).trans hh)), ← Array.getElem?_toList]
        rw [hS, List.getElem?_drop, ← ht, List.getElem?_take] at hu
        split at hu
        · exact hu
        · cases hu)
      (by simp [l1]; omega) (fun u hu => by
        rw [hS, hC] at hu
        unfold flat at hu
        obtain ⟨y, _, hy⟩ := List.mem_flatMap.1 (List.mem_of_mem_drop hu)
        exact oneP y u hy)
    rw [hN2, show i * 2 + 2 = (i + 1) * 2 by omega]
    exact this
  have hfin : Own (((w.alloc (.cells R 58)).drew.setRow w.heap.size N1.toArray).drew.setRow w.heap.size N2.toArray) base 58 2 encP (.slice (some ⟨w.heap.size, 0, none⟩) (l.length + 1) G) (l.take i ++ x :: l.drop i) := by
    have hll : (l.take i ++ x :: l.drop i).length = l.length + 1 := by simp; omega
    refine ⟨flat_length (enc := encP) (size := 2) (fun _ => rfl) _, .inr ⟨w.heap.size, G, N2.toArray, by rw [hll], hbase, setRow_heap _ _ _ _ _ _ hrow1, by rw [hll]; exact hGn, hG63, by simp [l2], ?_⟩⟩
    have e : flat encP (l.take i ++ x :: l.drop i) = flat encP (l.take i) ++ (encP x ++ flat encP (l.drop i)) := by rw [flat_append]; rfl
    rw [e, hflat.1, hflat.2, hll, show (l.length + 1) * 2 = i * 2 + 2 + S.length by rw [hSl]; omega]
    show N2.take _ = _
    rw [tk, List.append_assoc, hS]
  have hbel : Below base w (((w.alloc (.cells R 58)).drew.setRow w.heap.size N1.toArray).drew.setRow w.heap.size N2.toArray) :=
    below_setRow (below_setRow (((Below.refl base w).alloc hbase _).drew) hbase N1.toArray).drew hbase N2.toArray
  have mixed : Tryd.prog.follows .mixedOrders = true := by kernel_rfl
  have HFIN := Lib.hid hfin
  have HBEL := Lib.hid hbel
  have HCA := Lib.hid hcpA
  have HCB := Lib.hid hcpB
  have HRZ := Lib.hid hrz
  unfold maxLen at hG63
  unfold InsRes
  clear hfin hbel hcpA hcpB hrz hcell tk l2 hN2 l1 hN1 hSl hS hflat hCl hC hz3 hold hrow0 hold0 hrow1 hR hRl hRll hRt hh hv ht hkk hik hPl hG
  have hz2' : ¬ ((i : Int) = (l.length : Int)) := by omega
  have hz4 : (cap : Int) < (l.length : Int) + 1 := by omega
  have hin : i ≤ l.length := by omega
  have hb2 : ¬ (G = i + 1) := by omega
  have hb4 : ¬ (G = i) := by omega
  have hb5 : ¬ (cap = i) := by omega
  have hw1 : IntKind.i64.wrap ((i : Int) + 1) = (i : Int) + 1 := by rw [IntKind.wrap_i64]; omega
  have hw2 : IntKind.i64.wrap ((l.length : Int) + 1 - (i : Int)) = (l.length : Int) + 1 - (i : Int) := by rw [IntKind.wrap_i64]; omega
  have htn : ((i : Int) + 1).toNat = i + 1 := by omega
  have hb1 : (0 : Int) ≤ (i : Int) + 1 := by omega
  have hca := HCA.out
  go_enter Tryd.func62, Tryd.ntmps62
  go_wp2_with (at_builtin; refine Lib.wpList_append_run _ rfl _ _ _ _ rfl _ _ rfl rfl _ _ (HRZ.out _) ?_)
  go_region_law_o (refine step_copy_runI rfl _ _ 35 35 rfl (.slice (some ⟨w.heap.size, (i + 1) * 2, none⟩) (l.length - i) (G - (i + 1))) (.slice (some ⟨g, i * 2, none⟩) (l.length - i) (cap - i)) (by simp [Act.eval, Act.put]) (by simp [Act.eval, Act.put]) (HCB.out _) ?_)
  go_wp2
  go_ret
  exact ⟨_, rfl, HFIN.out, HBEL.out⟩
end Go.Proofs.YtaeaccakkielmaaDoor

/- Where a print stands: cmp.Compare, slices.BinarySearchFunc, findPiece, walked. -/
set_option linter.unusedVariables false
namespace Go.Proofs.YtaeaccakkielmaaDoor
open Go.RowKit

def cmp3 (a b : Int) : Int := if a < b then -1 else if b < a then 1 else 0
set_option maxHeartbeats 2000000 in
set_option maxRecDepth 100000 in
theorem isNaN_any (a : Int) (w : World) : Calls Tryd.prog 100 #[.int .i64 a] w fun e w' => e = .returned (.bool false) ∧ w = w' := by
  go_enter Tryd.func100, Tryd.ntmps100
  go_wp2
  go_ret
  exact ⟨ret_bool (by simp), rfl⟩
set_option maxHeartbeats 2000000 in
set_option maxRecDepth 100000 in
theorem Compare_any (a b : Int) (w : World) : Calls Tryd.prog 75 #[.int .i64 a, .int .i64 b] w fun e w' => e = .returned (.int .i64 (cmp3 a b)) ∧ w = w' := by
  by_cases h1 : a < b
  · have E : Hid (cmp3 a b = -1) := by show _ = _; unfold cmp3; rw [if_pos h1]
    go_enter Tryd.func75, Tryd.ntmps75
    go_wp2_with (go_at_call 100; refine (isNaN_any _ _).mono ?_; rintro e w' ⟨rfl, rfl⟩)
    go_ret
    exact ⟨ret_int E.out.symm, rfl⟩
  · by_cases h2 : b < a
    · have E : Hid (cmp3 a b = 1) := by show _ = _; unfold cmp3; rw [if_neg h1, if_pos h2]
      go_enter Tryd.func75, Tryd.ntmps75
      go_wp2_with (go_at_call 100; refine (isNaN_any _ _).mono ?_; rintro e w' ⟨rfl, rfl⟩)
      go_ret
      exact ⟨ret_int E.out.symm, rfl⟩
    · have E : Hid (cmp3 a b = 0) := by show _ = _; unfold cmp3; rw [if_neg h1, if_neg h2]
      go_enter Tryd.func75, Tryd.ntmps75
      go_wp2_with (go_at_call 100; refine (isNaN_any _ _).mono ?_; rintro e w' ⟨rfl, rfl⟩)
      go_ret
      exact ⟨ret_int E.out.symm, rfl⟩
set_option maxHeartbeats 2000000 in
set_option maxRecDepth 100000 in
theorem fpCmp_any (a x : Int) (t : ByteArray) (w : World) : Calls Tryd.prog 74 #[.agg #[.int .i64 a, .string t], .int .i64 x] w fun e w' => e = .returned (.int .i64 (cmp3 a x)) ∧ Below w.heap.size w w' := by
  have HB := Lib.hid ((Below.refl w.heap.size w).alloc (Nat.le_refl _) (.cells #[.int .i64 a, .string t] 58))
  generalize hc : cmp3 a x = c at *
  have HC := Lib.hid (fun w => hc ▸ Compare_any a x w)
  clear hc
  go_enter Tryd.func74, Tryd.ntmps74
  go_wp2_with (go_at_call 75; refine (HC.out _).mono ?_; rintro e w' ⟨rfl, rfl⟩)
  go_ret
  exact ⟨rfl, HB.out⟩
def FpRes (l : List Pc) (x : Int) (w : World) (e : Ending) (w' : World) : Prop := e = .returned (.tuple #[.int .i64 (below l x : Nat), .bool (hereP l x)]) ∧ Below w.heap.size w w'
theorem ret_two {a b : Int} {c d : Bool} (h1 : a = b) (h2 : c = d) : Ending.returned (.tuple #[.int .i64 a, .bool c]) = .returned (.tuple #[.int .i64 b, .bool d]) := by rw [h1, h2]
set_option maxHeartbeats 4000000 in
set_option maxRecDepth 100000 in
theorem BSearch_any (A : Option Addr) (c : Nat) (l : List Pc) (x : Int) (w : World) (hs : Sl w encP 2 A l) (hl : l.length ≤ 16777216) (hso : Sorted l) :
    Calls Tryd.prog 73 #[.slice A l.length c, .int .i64 x, .func (.func 74) #[] #[]] w (FpRes l x w) := by
  have HS := Lib.hid hs
  have HSO := Lib.hid hso
  clear hs hso
  go_enter Tryd.func73, Tryd.ntmps73
  go_wp2_with fail
  go_loopw [9, 10] (fun vi vj wr => ∃ lo hi : Nat, vi = .int .i64 lo ∧ vj = .int .i64 hi ∧ lo ≤ hi ∧ hi ≤ l.length ∧ Hid (∀ t (h : t < l.length), t < lo → l[t].1 < x) ∧ Hid (∀ t (h : t < l.length), hi ≤ t → x ≤ l[t].1) ∧ Hid (Below w.heap.size w wr)) (fun vi vj _ => (intOf vj).toNat - (intOf vi).toNat)
  case atStart => exact ⟨0, l.length, rfl, rfl, Nat.zero_le _, Nat.le_refl _, (fun t h h2 => by omega), (fun t h h2 => by omega), Below.refl _ _⟩
  case round =>
    obtain ⟨lo, hi, rfl, rfl, hle, hhi, H1, H2, HB⟩ := hrel
    by_cases hlt : lo < hi
    · obtain ⟨m, hm⟩ : ∃ m, m = (lo + hi) / 2 := ⟨_, rfl⟩
      have hm1 : lo ≤ m := by omega
      have hm2 : m < hi := by omega
      have hml : m < l.length := by omega
      have hmi : ((lo : Int) + (hi : Int)) / 2 = (m : Int) := by omega
      obtain ⟨b, o, rfl, hc0, hc1⟩ := (HS.out.below HB.out).getP hml
      have HP := Lib.hid (List.pairwise_iff_getElem.1 HSO.out)
      have HQ1 := Lib.hid (fun (hx : l[m].1 < x) (t : Nat) (h : t < l.length) (ht : t < m + 1) => show l[t].1 < x by
        by_cases e : t = m
        · subst e; exact hx
        · have := HP.out t m h hml (by omega); omega)
      have HQ2 := Lib.hid (fun (hx : ¬ l[m].1 < x) (t : Nat) (h : t < l.length) (ht : m ≤ t) => show x ≤ l[t].1 by
        by_cases e : m = t
        · subst e; omega
        · have := HP.out m t hml h (by omega); omega)
      generalize l[m] = p at *
      obtain ⟨a, t⟩ := p
      simp only at *
      clear hm HP
      by_cases hax : a < x
      · have HN := Lib.hid (HQ1.out hax)
        have hcm : cmp3 a x = -1 := by unfold cmp3; rw [if_pos hax]
        have hC := fun w => fpCmp_any a x t w
        rw [hcm] at hC
        have HC := Lib.hid hC
        clear hC hcm HQ1 HQ2
        go_wp2_with ((first | go_at_call 74 | go_at_fn 74); refine (HC.out _).mono ?_; rintro e w2 ⟨rfl, hb2⟩; have HB2 := Lib.hid (Below_then HB.out hb2 (Nat.le_refl _)); clear hb2)
        go_roundw
        case rel => exact ⟨m + 1, hi, by go_num, rfl, by omega, hhi, HN.out, H2.out, HB2.out⟩
        case measure => simp [intOf]; omega
      · have HN := Lib.hid (HQ2.out hax)
        have hcm : ¬ cmp3 a x < 0 := by unfold cmp3; rw [if_neg hax]; split <;> omega
        have hC := fun w => fpCmp_any a x t w
        generalize cmp3 a x = cv at *
        have HC := Lib.hid hC
        clear hC HQ1 HQ2
        go_wp2_with ((first | go_at_call 74 | go_at_fn 74); refine (HC.out _).mono ?_; rintro e w2 ⟨rfl, hb2⟩; have HB2 := Lib.hid (Below_then HB.out hb2 (Nat.le_refl _)); clear hb2)
        go_roundw
        case rel => exact ⟨lo, m, rfl, rfl, by omega, by omega, H1.out, HN.out, HB2.out⟩
        case measure => simp [intOf]; omega
    · obtain rfl : hi = lo := by omega
      have HE := Lib.hid (below_of l x hi hhi H1.out (fun h => Int.not_lt.2 (H2.out hi h (Nat.le_refl _))))
      by_cases hn : hi < l.length
      · obtain ⟨b, o, rfl, hc0, hc1⟩ := (HS.out.below HB.out).getP hn
        have hh : hereP l x = decide (l[hi].1 = x) := by unfold hereP; rw [HE.out, getD_pc hn, decide_eq_true hn, Bool.true_and]
        have hnl := Int.not_lt.2 (H2.out hi hn (Nat.le_refl _))
        generalize l[hi] = p at *
        obtain ⟨a, t⟩ := p
        simp only at *
        by_cases hax : a = x
        · have HH := Lib.hid (show hereP l x = true by rw [hh]; exact decide_eq_true hax)
          have hcm : cmp3 a x = 0 := by unfold cmp3; rw [if_neg hnl, if_neg (by omega)]
          have hC := fun w => fpCmp_any a x t w
          rw [hcm] at hC
          have HC := Lib.hid hC
          clear hC hcm hh hax
          go_wp2_with ((first | go_at_call 74 | go_at_fn 74); refine (HC.out _).mono ?_; rintro e w2 ⟨rfl, hb2⟩; have HB2 := Lib.hid (Below_then HB.out hb2 (Nat.le_refl _)); clear hb2)
          go_ret2
          exact ⟨ret_two (by rw [HE.out]) (by rw [HH.out]), HB2.out⟩
        · have HH := Lib.hid (show hereP l x = false by rw [hh]; exact decide_eq_false hax)
          have hcm : (cmp3 a x == 0) = false := by unfold cmp3; rw [if_neg hnl, if_pos (by omega)]; rfl
          have hC := fun w => fpCmp_any a x t w
          generalize cmp3 a x = cv at *
          have HC := Lib.hid hC
          clear hC hh hax
          go_wp2_with ((first | go_at_call 74 | go_at_fn 74); refine (HC.out _).mono ?_; rintro e w2 ⟨rfl, hb2⟩; have HB2 := Lib.hid (Below_then HB.out hb2 (Nat.le_refl _)); clear hb2)
          go_ret2
          exact ⟨ret_two (by rw [HE.out]) (by rw [HH.out]), HB2.out⟩
      · have HH := Lib.hid (show hereP l x = false by unfold hereP; rw [HE.out, decide_eq_false hn]; rfl)
        go_wp2
        go_ret2
        exact ⟨ret_two (by rw [HE.out]) (by rw [HH.out]), HB.out⟩
set_option maxHeartbeats 4000000 in
set_option maxRecDepth 100000 in
theorem findPiece_any (A : Option Addr) (c : Nat) (l : List Pc) (x : Int) (w : World) (hs : Sl w encP 2 A l) (hl : l.length ≤ 16777216) (hso : Sorted l) :
    Calls Tryd.prog 61 #[.slice A l.length c, .int .i64 x] w (FpRes l x w) := by
  have HX := Lib.hid (fun w h => BSearch_any A c l x w h hl hso)
  have HS := Lib.hid hs
  clear hs hso
  unfold FpRes at *
  go_enter Tryd.func61, Tryd.ntmps61
  go_wp2_with fail
  refine (HX.out _ HS.out).mono ?_
  rintro e w1 ⟨rfl, hb⟩
  have HB := Lib.hid hb
  clear hb
  go_wp2
  go_ret2
  exact ⟨rfl, HB.out⟩
end Go.Proofs.YtaeaccakkielmaaDoor

/- PutText of the program, walked. -/
set_option linter.unusedVariables false
namespace Go.Proofs.YtaeaccakkielmaaDoor
open Go.RowKit
attribute [local go_sem] mk_toList

def PutRes (r : List Pc × Int × Bool) (w : World) (e : Ending) (w' : World) : Prop :=
  ∃ v, e = .returned (.tuple #[v, .int .i64 r.2.1, .bool r.2.2]) ∧ Own w' w.heap.size 58 2 encP v r.1 ∧ Below w.heap.size w w'
theorem InsertPc_any (base : Nat) (A : Option Addr) (c : Nat) (l : List Pc) (x : Pc) (i : Nat) (w : World) (vb : Nat) (hbase : base ≤ w.heap.size) (hown : Own w base 58 2 encP (.slice A l.length c) l)
    (hv : w.heap[vb]? = some (.cells #[.int .i64 x.1, .string x.2] 58 (0, 0))) (hne : ∀ g o, A = some ⟨g, o, none⟩ → vb ≠ g) (hi : i ≤ l.length) (hl : l.length ≤ 16777216) :
    Calls Tryd.prog 62 #[.slice A l.length c, .int .i64 (i : Nat), .slice (some ⟨vb, 0, none⟩) 1 1] w (InsRes base (l.take i ++ x :: l.drop i) w) := by
  by_cases e : i = l.length
  · subst e
    rw [← ins_end]
    exact Insert_end base _ l x w vb hbase hown hv hl
  · have h2 := hown.2
    rcases h2 with ⟨hv2, hn⟩ | ⟨g, cap, cur, hv2, hg, hh, hnc, hcm, hsz, ht⟩
    · omega
    · injection hv2 with e1 e2 e3
      subst e1 e3
      by_cases hr : l.length + 1 ≤ c
      · exact Insert_room base l x i w vb g c cur hbase hg hh hcm hsz ht hr hv (hne g 0 rfl) (by omega) hl
      · exact Insert_grow base l x i w vb g c cur hbase hg hh hnc ht (by omega) hv (by omega) hl
theorem Below_of_alloc2 {w2 w3 w4 : World} {x : Obj} (h3 : Below w2.heap.size w2 w3) (h4 : Below w2.heap.size (w3.alloc x) w4) : Below w2.heap.size w2 w4 := (h3.alloc h3.size x).trans h4
theorem ins_call {l : List Pc} {x : Pc} {B : Nat} {w0 w2 w3 : World} {X : Option Addr} {d : Nat} (hb2 : Below w0.heap.size w0 w2) (hown3 : Own w3 w2.heap.size 58 2 encP (.slice X l.length d) l) (hb3 : Below w2.heap.size w2 w3) (hB : B ≤ l.length) (hl : l.length ≤ 16777216) :
    Calls Tryd.prog 62 #[.slice X l.length d, .int .i64 (B : Nat), .slice (some ⟨w3.heap.size, 0, none⟩) 1 1] (w3.alloc (.cells #[.int .i64 x.1, .string x.2] 58)) fun e w' => ∃ v', e = .returned v' ∧ Own w' w0.heap.size 58 2 encP v' (l.take B ++ x :: l.drop B) ∧ Below w0.heap.size w0 w' :=
  (InsertPc_any w2.heap.size X d l x B _ w3.heap.size (Nat.le_trans hb3.size (by simp)) (hown3.alloc _) (heap_alloc_new w3 _) (by
    rintro g o rfl
    have := hown3.blk g rfl
    omega) hB hl).mono fun e w' ⟨v', he, ho, hb⟩ => ⟨v', he, ho.mono hb2.size, Below_then hb2 (Below_of_alloc2 hb3 hb) (Nat.le_refl _)⟩
set_option maxHeartbeats 1000000 in
set_option maxRecDepth 100000 in
theorem iPutText_any (A : Option Addr) (c : Nat) (l : List Pc) (t : ByteArray) (w : World) (hs : Sl w encP 2 A l) (hcz : A = none → c = 0) (hl : l.length ≤ 16777216) (hf : FitP l) (ht : t.size ≤ 16777216) :
    Calls Tryd.prog 41 #[.slice A l.length c, .string t] w (PutRes (putT l t) w) := by
  have HS := Lib.hid hs
  have HCZ := Lib.hid hcz
  have hsv := fun w h => iStoreValid_any A c l w h hl hf
  have HCL := Lib.hid (fun w h => ClonePc_any A c l w h HCZ.out hl)
  have hTV := fun w => iTextValid_any t w ht
  unfold OwnRes at HCL
  cases hv : storeV l
  case false =>
    have E := Lib.hid (putT_bad (t := t) hv)
    rw [hv] at hsv
    have HSV := Lib.hid hsv
    clear hsv hs hcz hTV
    rw [E.out]
    unfold PutRes
    go_enter Tryd.func41, Tryd.ntmps41
    go_wp2_with fail
    refine (HSV.out _ HS.out).mono ?_
    rintro e w1 ⟨rfl, hb⟩
    have HB := Lib.hid hb
    clear hb
    go_wp2
    go_ret3
    exact ⟨_, rfl, Own.nil, HB.out⟩
  case true =>
    rw [hv] at hsv
    have HSV := Lib.hid hsv
    clear hsv hs hcz
    cases htv : textV (bs t)
    case false =>
      have E := Lib.hid (putT_text (t := t) hv htv)
      rw [htv] at hTV
      have HTV := Lib.hid hTV
      clear hTV
      rw [E.out]
      unfold PutRes
      go_enter Tryd.func41, Tryd.ntmps41
      go_wp2_with (first
        | (go_at_call 23; refine (HSV.out _ HS.out).mono ?_; rintro e w1 ⟨rfl, hb⟩; have HB1 := Lib.hid hb; have HS1 := Lib.hid (HS.out.below hb); clear hb)
        | (go_at_call 45; refine (HTV.out _).mono ?_; rintro e w' ⟨rfl, rfl⟩)
        | (go_at_call 60; refine (HCL.out _ HS1.out).mono ?_; rintro e w2 ⟨v2, rfl, hown2, hb2⟩; have HW2 := Lib.hid hown2; have HB2 := Lib.hid (Below_then HB1.out hb2 (Nat.le_refl _)); clear hown2 hb2))
      go_ret3
      exact ⟨_, rfl, HW2.out.mono HB1.out.size, HB2.out⟩
    case true =>
      rw [htv] at hTV
      have HTV := Lib.hid hTV
      have hPO := fun w => iPrintOf_any t w ht
      have HFP := Lib.hid (fun w h => findPiece_any A c l (prOf (bs t)) w h hl (storeV_sorted hv))
      have hgh := getT_here (storeV_sorted hv) (p := prOf (bs t))
      have hbl := below_le l (prOf (bs t))
      have hl40 := storeV_len hv
      have H0 := Lib.hid (putT_there hv htv)
      have H1 := Lib.hid (fun u => putT_clash (u := u) hv htv)
      have H2 := Lib.hid (putT_full hv htv)
      have H3 := Lib.hid (putT_new hv htv)
      unfold FpRes at HFP
      unfold tx at H0 H1 H2 H3
      generalize prOf (bs t) = p at *
      have HPO := Lib.hid hPO
      clear hTV hPO
      cases hh : hereP l p
      case true =>
        rw [hh, if_pos rfl] at hgh
        have hlt : below l p < l.length := by unfold hereP at hh; simp at hh; exact hh.1
        rw [getD_pc hlt] at hgh
        rw [hh] at HFP
        have HG := Lib.hid (fun (w : World) (h : Sl w encP 2 A l) => h.getP hlt)
        generalize l[below l p] = q at *
        obtain ⟨q0, u⟩ := q
        simp only at *
        generalize below l p = B at *
        obtain ⟨b, o, rfl, _, _⟩ := HG.out w HS.out
        by_cases hu : u = t
        case pos =>
          have E := Lib.hid (H0.out (by rw [hgh, hu]))
          clear H0 H1 H2 H3
          subst hu
          rw [E.out]
          unfold PutRes
          go_enter Tryd.func41, Tryd.ntmps41
          go_wp2_with (first
            | (go_at_call 23; refine (HSV.out _ HS.out).mono ?_; rintro e w1 ⟨rfl, hb⟩; have HB1 := Lib.hid hb; have HS1 := Lib.hid (HS.out.below hb); clear hb)
            | (go_at_call 45; refine (HTV.out _).mono ?_; rintro e w' ⟨rfl, rfl⟩)
            | (go_at_call 46; refine (HPO.out _).mono ?_; rintro e w' ⟨rfl, rfl⟩)
            | (go_at_call 61; refine (HFP.out _ HS1.out).mono ?_; rintro e w2 ⟨rfl, hb2⟩; have HB2 := Lib.hid (Below_then HB1.out hb2 (Nat.le_refl _)); have HS2 := Lib.hid (HS1.out.below hb2); obtain ⟨b', o', e', hc0, hc1⟩ := HG.out _ HS2.out; have hbb : b' = b ∧ o' = o := (by injection e' with e'; injection e' with e1 e2; exact ⟨e1.symm, e2.symm⟩); obtain ⟨rfl, rfl⟩ := hbb; clear hb2 e')
            | (go_at_call 60; refine (HCL.out _ HS2.out).mono ?_; rintro e w3 ⟨v3, rfl, hown3, hb3⟩; have HW3 := Lib.hid hown3; have HB3 := Lib.hid (Below_then HB2.out hb3 (Nat.le_refl _));  clear hown3 hb3))
          go_ret3
          exact ⟨_, rfl, HW3.out.mono HB2.out.size, HB3.out⟩
        case neg =>
          have E := Lib.hid (H1.out u hgh hu)
          clear H0 H1 H2 H3
          have hne : (u.toList == t.toList) = false := by
            rw [ByteArray.toList_eq, ByteArray.toList_eq]
            rw [beq_eq_false_iff_ne]; intro e
            apply hu
            rw [← mk_bs u, ← mk_bs t, e]
          rw [E.out]
          unfold PutRes
          go_enter Tryd.func41, Tryd.ntmps41
          go_wp2_with (first
            | (go_at_call 23; refine (HSV.out _ HS.out).mono ?_; rintro e w1 ⟨rfl, hb⟩; have HB1 := Lib.hid hb; have HS1 := Lib.hid (HS.out.below hb); clear hb)
            | (go_at_call 45; refine (HTV.out _).mono ?_; rintro e w' ⟨rfl, rfl⟩)
            | (go_at_call 46; refine (HPO.out _).mono ?_; rintro e w' ⟨rfl, rfl⟩)
            | (go_at_call 61; refine (HFP.out _ HS1.out).mono ?_; rintro e w2 ⟨rfl, hb2⟩; have HB2 := Lib.hid (Below_then HB1.out hb2 (Nat.le_refl _)); have HS2 := Lib.hid (HS1.out.below hb2); obtain ⟨b', o', e', hc0, hc1⟩ := HG.out _ HS2.out; have hbb : b' = b ∧ o' = o := (by injection e' with e'; injection e' with e1 e2; exact ⟨e1.symm, e2.symm⟩); obtain ⟨rfl, rfl⟩ := hbb; clear hb2 e')
            | (go_at_call 60; refine (HCL.out _ HS2.out).mono ?_; rintro e w3 ⟨v3, rfl, hown3, hb3⟩; have HW3 := Lib.hid hown3; have HB3 := Lib.hid (Below_then HB2.out hb3 (Nat.le_refl _));  clear hown3 hb3))
          go_ret3
          exact ⟨_, rfl, HW3.out.mono HB2.out.size, HB3.out⟩
      case false =>
        rw [hh, if_neg (by simp)] at hgh
        rw [hh] at HFP
        by_cases h40 : l.length = 40
        case pos =>
          have E := Lib.hid (H2.out hgh h40)
          clear H0 H1 H2 H3
          rw [E.out]
          have h40' : (l.length : Int) = 40 := by omega
          generalize below l p = B at *
          clear hbl hl40 hv hh hgh h40
          unfold PutRes
          go_enter Tryd.func41, Tryd.ntmps41
          go_wp2_with (first
            | (go_at_call 23; refine (HSV.out _ HS.out).mono ?_; rintro e w1 ⟨rfl, hb⟩; have HB1 := Lib.hid hb; have HS1 := Lib.hid (HS.out.below hb); clear hb)
            | (go_at_call 45; refine (HTV.out _).mono ?_; rintro e w' ⟨rfl, rfl⟩)
            | (go_at_call 46; refine (HPO.out _).mono ?_; rintro e w' ⟨rfl, rfl⟩)
            | (go_at_call 61; refine (HFP.out _ HS1.out).mono ?_; rintro e w2 ⟨rfl, hb2⟩; have HB2 := Lib.hid (Below_then HB1.out hb2 (Nat.le_refl _)); have HS2 := Lib.hid (HS1.out.below hb2); clear hb2)
            | (go_at_call 60; refine (HCL.out _ HS2.out).mono ?_; rintro e w3 ⟨v3, rfl, hown3, hb3⟩; have HW3 := Lib.hid hown3; have HB3 := Lib.hid (Below_then HB2.out hb3 (Nat.le_refl _));  clear hown3 hb3))
          go_ret3
          exact ⟨_, rfl, HW3.out.mono HB2.out.size, HB3.out⟩
        case neg =>
          have E := Lib.hid (H3.out hgh h40)
          clear H0 H1 H2 H3
          rw [E.out]
          have h40' : ¬ (l.length : Int) = 40 := by omega
          generalize below l p = B at *
          clear hv hh hgh
          unfold PutRes
          go_enter Tryd.func41, Tryd.ntmps41
          go_wp2_with (first
            | (go_at_call 23; refine (HSV.out _ HS.out).mono ?_; rintro e w1 ⟨rfl, hb⟩; have HB1 := Lib.hid hb; have HS1 := Lib.hid (HS.out.below hb); clear hb)
            | (go_at_call 45; refine (HTV.out _).mono ?_; rintro e w' ⟨rfl, rfl⟩)
            | (go_at_call 46; refine (HPO.out _).mono ?_; rintro e w' ⟨rfl, rfl⟩)
            | (go_at_call 61; refine (HFP.out _ HS1.out).mono ?_; rintro e w2 ⟨rfl, hb2⟩; have HB2 := Lib.hid (Below_then HB1.out hb2 (Nat.le_refl _)); have HS2 := Lib.hid (HS1.out.below hb2); clear hb2)
            | (go_at_call 60; refine (HCL.out _ HS2.out).mono ?_; rintro e w3 ⟨v3, rfl, hown3, hb3⟩; have HW3 := Lib.hid hown3; have HB3 := Lib.hid (Below_then HB2.out hb3 (Nat.le_refl _)); obtain ⟨X, d3, rfl, _, _, hX3⟩ := hown3.sl; have hb3z := Lib.hid hb3.size; have hb3y := Lib.hid hb3; clear hown3 hb3)
            | (go_at_call 62; refine (ins_call (x := (p, t)) HB2.out HW3.out hb3y.out hbl hl).mono ?_; rintro e w4 ⟨v4, rfl, hown4, hb4⟩; have HW4 := Lib.hid hown4; have HB4 := Lib.hid hb4; clear hown4 hb4))
          go_ret3
          exact ⟨_, rfl, HW4.out, HB4.out⟩
end Go.Proofs.YtaeaccakkielmaaDoor

/- Regions that draw their order, by an invariant: one case for each operation, whatever came before it. -/
set_option linter.unusedVariables false
namespace Go.Proofs.YtaeaccakkielmaaDoor
open Go.RowKit

/-- Each operation waits for earlier ones alone. -/
def afterLow (l : List Oper) : Bool := (List.range l.length).all fun i => ((l[i]?).map fun o => o.after.all fun e => !Region.binds .any e || decide (e.on < i)).getD true
/-- What is asked of each operation: from the invariant to the invariant. -/
def InvSteps (P : Program) (ops : Array Oper) (Q : Exit → Act → World → Prop) (J : (Nat → Bool) → Act → World → Prop) : Nat → List Oper → Prop
  | _, [] => True
  | i, o :: r => (∀ (d : Nat → Bool) (a : Act) (w : World) (K : Act → World → Prop), d i = false → (∀ e ∈ o.after, Region.binds .any e = true → d e.on = true) → J d a w → (∀ a' w', J (fun j => j == i || d j) a' w' → K a' w') →
      if Region.wanted o (yielded ops a.tmps) = true then o.wp P a w K Q else K (a.put o.dst undef) w) ∧ InvSteps P ops Q J (i + 1) r
theorem InvSteps.at {P : Program} {ops : Array Oper} {Q : Exit → Act → World → Prop} {J : (Nat → Bool) → Act → World → Prop} : ∀ (l : List Oper) (k i : Nat) (o : Oper), InvSteps P ops Q J k l → l[i]? = some o →
    ∀ (d : Nat → Bool) (a : Act) (w : World) (K : Act → World → Prop), d (k + i) = false → (∀ e ∈ o.after, Region.binds .any e = true → d e.on = true) → J d a w → (∀ a' w', J (fun j => j == k + i || d j) a' w' → K a' w') →
      if Region.wanted o (yielded ops a.tmps) = true then o.wp P a w K Q else K (a.put o.dst undef) w
  | [], _, _, _, _, h => by simp at h
  | x :: r, k, 0, o, hs, h => by
    simp at h; subst h; exact hs.1
  | x :: r, k, i + 1, o, hs, h => by
    have h1 := InvSteps.at r (k + 1) i o hs.2 (by simpa using h)
    have e : k + 1 + i = k + (i + 1) := by omega
    rw [e] at h1; exact h1
theorem dn_set {listed : Array Bool} {i : Nat} (hi : i < listed.size) : (fun j => (listed.setIfInBounds i true).getD j false) = fun j => j == i || listed.getD j false := by
  funext j
  by_cases e : j = i
  · subst e; simp [hi]
  · have hij : i ≠ j := fun h => e h.symm
    rw [getD_set_ne false hij]; simp [e]
theorem count_set {n : Nat} {listed : Array Bool} {i : Nat} (hs : listed.size = n) (hi : i < n) (h : listed.getD i false = false) :
    (List.range n).countP (fun j => !(listed.setIfInBounds i true).getD j false) + 1 = (List.range n).countP (fun j => !listed.getD j false) := by
  have hf := dn_set (listed := listed) (i := i) (by omega)
  have e : (fun j => !(listed.setIfInBounds i true).getD j false) = fun j => !(j == i || listed.getD j false) := by
    funext j; exact congrArg (fun b => !b) (congrFun hf j)
  rw [e]
  have aux : ∀ l : List Nat, l.Nodup → i ∈ l → l.countP (fun j => !(j == i || listed.getD j false)) + 1 = l.countP (fun j => !listed.getD j false) := by
    intro l
    induction l with
    | nil => intro _ hm; simp at hm
    | cons x r ih =>
      intro hnd hm
      rw [List.nodup_cons] at hnd
      rw [List.countP_cons, List.countP_cons]
      by_cases hx : x = i
      · subst hx
        have hr : r.countP (fun j => !(j == x || listed.getD j false)) = r.countP (fun j => !listed.getD j false) := by
          refine List.countP_congr fun y hy => ?_
          have : y ≠ x := fun e => hnd.1 (e ▸ hy)
          simp [this]
        rw [hr]; simp [h]
      · have hm' : i ∈ r := by
          rcases List.mem_cons.1 hm with e | e
          · exact absurd e.symm hx
          · exact e
        have := ih hnd.2 hm'
        have e2 : (x == i) = false := by simpa using hx
        simp only [e2, Bool.false_or]
        omega
  exact aux _ List.nodup_range (List.mem_range.2 hi)
theorem wpAny_inv {P : Program} {l : List Oper} {Q : Exit → Act → World → Prop} (J : (Nat → Bool) → Act → World → Prop) (hlow : afterLow l = true) (hs : InvSteps P l.toArray Q J 0 l)
    (hend : ∀ d a w, (∀ i, i < l.length → d i = true) → J d a w → Q .normal a w) :
    ∀ (fuel : Nat) (listed : Array Bool) (a : Act) (w : World), listed.size = l.length → (List.range l.length).countP (fun j => !listed.getD j false) ≤ fuel → J (fun j => listed.getD j false) a w → wpAny P .any l.toArray Q fuel listed a w := by
  have hbinds : ∀ e, Region.binds .any e = true ∨ Region.binds .any e = false := fun e => by cases Region.binds .any e <;> simp
  -- where nothing can come up, all has come up
  have hall : ∀ listed : Array Bool, listed.size = l.length → Region.ready .any l.toArray listed = [] → ∀ i, i < l.length → listed.getD i false = true := by
    intro listed hsz hr i
    induction i using Nat.strongRecOn with
    | _ i ih =>
      intro hi
      by_cases h : listed.getD i false = true
      · exact h
      · exfalso
        have hm : i ∈ Region.ready .any l.toArray listed := by
          rw [mem_ready]
          refine ⟨?_, l[i], by simp [hi], fun e he hbe => ?_⟩
          · have hh : listed.getD i false = false := by simpa using h
            rw [Array.getD_eq_getD_getElem?, Array.getElem?_eq_getElem (by omega)] at hh ⊢; simpa using hh
          · unfold afterLow at hlow
            rw [List.all_eq_true] at hlow
            have h1 := hlow i (List.mem_range.2 hi)
            rw [List.getElem?_eq_getElem hi] at h1
            simp only [Option.map_some, Option.getD_some] at h1
            have h3 := Array.all_eq_true_iff_forall_mem.1 h1 e he
            rw [hbe, Bool.not_true, Bool.false_or] at h3
            have h2 := of_decide_eq_true h3
            exact ih _ h2 (by omega)
        rw [hr] at hm; simp at hm
  intro fuel
  induction fuel with
  | zero =>
    intro listed a w hsz hc hJ
    have hz : ∀ i, i < l.length → listed.getD i false = true := by
      intro i hi
      have h0 : (List.range l.length).countP (fun j => !listed.getD j false) = 0 := by omega
      rw [List.countP_eq_zero] at h0
      simpa using h0 i (List.mem_range.2 hi)
    refine ⟨?_, hend _ a w hz hJ⟩
    cases hr : Region.ready .any l.toArray listed with
    | nil => rfl
    | cons x r =>
      exfalso
      have hm : x ∈ Region.ready .any l.toArray listed := by rw [hr]; simp
      rw [mem_ready] at hm
      obtain ⟨h1, o, ho, _⟩ := hm
      have hx : x < l.length := by
        have := (Array.getElem?_eq_some_iff.1 ho).1; simpa using this
      have h2 := hz x hx
      rw [Array.getD_eq_getD_getElem?, Array.getElem?_eq_getElem (by omega)] at h1 h2
      simp at h1 h2; rw [h1] at h2; cases h2
  | succ fuel ih =>
    intro listed a w hsz hc hJ
    refine ⟨fun hr => hend _ a w (hall listed hsz hr) hJ, fun i hi => ?_⟩
    rw [mem_ready] at hi
    obtain ⟨h1, o, ho, haft⟩ := hi
    have hx : i < l.length := by
      have := (Array.getElem?_eq_some_iff.1 ho).1; simpa using this
    have hd : listed.getD i false = false := by
      rw [Array.getD_eq_getD_getElem?, Array.getElem?_eq_getElem (by omega)] at h1 ⊢; simpa using h1
    have hlo : l[i]? = some o := by simpa using ho
    have hcnt := count_set hsz hx hd
    have hstep := InvSteps.at l 0 i o hs hlo (fun j => listed.getD j false) a w (wpAny P .any l.toArray Q fuel (listed.setIfInBounds i true)) (by simpa using hd) haft hJ (fun a' w' hJ' => by
      refine ih _ a' w' (by simpa using hsz) (by omega) ?_
      rw [dn_set (by omega)]
      simpa using hJ')
    unfold wpOp
    simp only [ho]
    split
    · rename_i hw; rw [if_pos hw] at hstep; exact .inl hstep
    · rename_i hw; rw [if_neg hw] at hstep; exact hstep
/-- **A region that draws its order, by an invariant**: 'd' says which operations have come up. -/
theorem wp_region_inv {P : Program} {id : Nat} {Q : Exit → Act → World → Prop} {a : Act} {w : World} {l : List Oper} (hm : P.follows .mixedOrders = true) (hlow : afterLow l = true)
    (J : Act → (Nat → Bool) → Act → World → Prop) (h0 : J a (fun _ => false) a w.drew) (hs : InvSteps P l.toArray Q (J a) 0 l) (hend : ∀ d a' w', (∀ i, i < l.length → d i = true) → J a d a' w' → Q .normal a' w') :
    (Code.region id l.toArray true).wp P Q a w := by
  refine wp_region_any hm (wpAny_inv (J a) hlow hs hend _ _ _ _ (by simp) ?_ ?_)
  · refine Nat.le_trans List.countP_le_length ?_; simp
  · have e : (fun j => (Array.replicate l.toArray.size false).getD j false) = fun _ => false := by
      funext j
      rw [Array.getD_eq_getD_getElem?, Array.getElem?_replicate]
      split <;> rfl
    rw [e]; exact h0
end Go.Proofs.YtaeaccakkielmaaDoor

/- 'append' of one element onto a row of the call's own, telling what else stayed and where the new row lies. -/
set_option linter.unusedVariables false
namespace Go.Proofs.YtaeaccakkielmaaDoor
open Go.RowKit

/-- v' owns no block that was there and that v did not own. -/
def Kin (v : Value) (wr : World) (v' : Value) : Prop := ∀ b, b < wr.heap.size → v.ownBlock ≠ some b → v'.ownBlock ≠ some b
def LtA (A : Option Addr) (n : Nat) : Prop := ∀ b o, A = some ⟨b, o, none⟩ → b < n
theorem Apart.kin {A : Option Addr} {v v' : Value} {wr : World} (h : Apart A v) (hA : LtA A wr.heap.size) (hk : Kin v wr v') : Apart A v' := fun b o e => hk b (hA b o e) (h b o e)
theorem LtA.mono {A : Option Addr} {m n : Nat} (h : LtA A m) (hmn : m ≤ n) : LtA A n := fun b o e => Nat.lt_of_lt_of_le (h b o e) hmn
theorem Own.ltA {α : Type} {enc : α → List Value} {w : World} {base size : Nat} {E : TypeId} {A : Option Addr} {n c : Nat} {l : List α} (h : Own w base E size enc (.slice A n c) l) : LtA A w.heap.size := by
  obtain ⟨A', c', e, _, _, hg⟩ := h.sl
  injection e with e1 _ _
  subst e1
  intro b o e
  rcases hg with ⟨_, h⟩ | ⟨g, h, _, hlt⟩
  · rw [h] at e; cases e
  · rw [h] at e; injection e with e; injection e with e1 _; omega
theorem Own.apart {α : Type} {enc : α → List Value} {w : World} {base size : Nat} {E : TypeId} {A : Option Addr} {n c : Nat} {l : List α} (h : Own w base E size enc (.slice A n c) l) {v : Value} (hv : ∀ g, v.ownBlock = some g → g < base) : Apart A v := by
  obtain ⟨A', c', e, _, _, hg⟩ := h.sl
  injection e with e1 _ _
  subst e1
  intro b o e hb
  have := hv b hb
  rcases hg with ⟨_, h⟩ | ⟨g, h, hlo, hlt⟩
  · rw [h] at e; cases e
  · rw [h] at e; injection e with e; injection e with e1 _; omega
theorem wpList_app3 {P : Program} {α : Type} {enc : α → List Value} {ops : Array Oper} {rest : List Oper} {o : Oper} {a : Act} {Q : Exit → Act → World → Prop} {w0 wr : World} {B base size bytes : Nat} {t E : TypeId} {i : TypeInfo} {z : Value} {v : Value} {l : List α}
    (ht : P.underlying t = some (.slice E)) (hi : P.info? E = some i) (hz : i.zero = some z) (hsize : i.size = size) (hby : i.bytes = bytes) (hzs : z.cells.size = size) (hsz : 0 < size) (hb200 : bytes ≤ 256)
    (hgd : o.guard = none) (s x : Operand) (ho : o.op = .call { callee := .builtin .append, args := #[s, x], argTypes := #[t, t] })
    (hs : a.eval s = v) (hx : a.eval x = .slice (some ⟨wr.heap.size, 0, none⟩) 1 1)
    (hown : Own wr base E size enc v l) (hb : Below B w0 wr) (hB : B ≤ base) (hbase : base ≤ wr.heap.size) (hn : l.length ≤ 16777216) (y : α) (cells : Array Value) (hcl : cells = (enc y).toArray) (hce : (enc y).length = size) (h1 : ∀ u ∈ enc y, u.oneCell' = true)
    (h : ∀ v' w', Own w' base E size enc v' (l ++ [y]) → Below B w0 w' → Grew v wr w' → Kin v wr v' → wpList P ops Q rest (a.put o.dst v') w') : wpList P ops Q (o :: rest) a (wr.alloc (.cells cells E)) := by
  subst hcl
  refine wpList_append_own_at _ hgd s x t ho base E i z size bytes ht hi hz hsize hby hzs hsz v l.length (flat enc l) hs (World.ownsRow.alloc hown _) ⟨wr.heap.size, 0, none⟩ 1 1 (enc y) hx (by rw [hce, Nat.one_mul]) ?_ h1 ?_ ?_ ?_ ?_
  · intro j u hu
    have hadd : (⟨wr.heap.size, 0, none⟩ : Addr).add j = ⟨wr.heap.size, j, none⟩ := by unfold Addr.add; split <;> simp_all
    rw [hadd, cell_of_row _ _ j _ E (0, 0) (heap_alloc_new wr _)]
    simpa using hu
  · unfold maxLen; omega
  · have := Nat.mul_le_mul_left (l.length + 1) hb200; omega
  · simp; omega
  · intro v' w' hown' hg _ hat
    refine h v' w' ?_ ((hb.alloc (Nat.le_trans hB hbase) _).grown hg (by simp; omega) (fun k hk => ?_)) ?_ ?_
    · show w'.ownsRow base E size v' (l ++ [y]).length (flat enc (l ++ [y]))
      rw [flat_snoc, List.length_append]; exact hown'
    · exact Nat.le_trans hB (World.ownsRow.lt hown k hk).1
    · exact ⟨hg.os, hg.tape, hg.output, Nat.le_trans (by simp) hg.size, fun k hk hne => (hg.block k (by simp; omega) hne).trans (Below.heap_alloc wr _ k hk)⟩
    · intro b hb2 hne hv'
      rcases hat with hat | hat
      · exact hne (hat ▸ hv')
      · rw [hat] at hv'; injection hv' with e; simp at e; omega
section
variable {ops : Array Oper} {rest : List Oper} {o : Oper} {a : Act} {Q : Exit → Act → World → Prop} {w0 wr : World} {v : Value}
theorem app_str3 {l : List ByteArray} {y : ByteArray} {s x : Operand} (hgd : o.guard = none) (ho : o.op = .call { callee := .builtin .append, args := #[s, x], argTypes := #[37, 37] })
    (hs : a.eval s = v) (hx : a.eval x = .slice (some ⟨wr.heap.size, 0, none⟩) 1 1)
    (hown : Own wr w0.heap.size 9 1 encS v l) (hb : Below w0.heap.size w0 wr) (hn : l.length ≤ 16777216)
    (h : ∀ v' w', Own w' w0.heap.size 9 1 encS v' (l ++ [y]) → Below w0.heap.size w0 w' → Grew v wr w' → Kin v wr v' → wpList Tryd.prog ops Q rest (a.put o.dst v') w') :
    wpList Tryd.prog ops Q (o :: rest) a (wr.alloc (.cells #[.string y] 9)) := by
  obtain ⟨i0, hi0, hz0, hz1, hz2⟩ := info_parts str_info
  exact wpList_app3 Tryd.underlying37 hi0 hz0 hz1 hz2 rfl (by decide) (by decide) hgd s x ho hs hx hown hb (Nat.le_refl _) hb.size hn y _ rfl rfl (by intro u hu; simp [encS] at hu; subst hu; rfl) h
theorem app_pc3 {l : List Pc} {y : Pc} {s x : Operand} (hgd : o.guard = none) (ho : o.op = .call { callee := .builtin .append, args := #[s, x], argTypes := #[35, 35] })
    (hs : a.eval s = v) (hx : a.eval x = .slice (some ⟨wr.heap.size, 0, none⟩) 1 1)
    (hown : Own wr w0.heap.size 58 2 encP v l) (hb : Below w0.heap.size w0 wr) (hn : l.length ≤ 16777216)
    (h : ∀ v' w', Own w' w0.heap.size 58 2 encP v' (l ++ [y]) → Below w0.heap.size w0 w' → Grew v wr w' → Kin v wr v' → wpList Tryd.prog ops Q rest (a.put o.dst v') w') :
    wpList Tryd.prog ops Q (o :: rest) a (wr.alloc (.cells #[.int .i64 y.1, .string y.2] 58)) := by
  obtain ⟨i0, hi0, hz0, hz1, hz2⟩ := info_parts pc_info
  exact wpList_app3 Tryd.underlying35 hi0 hz0 hz1 hz2 rfl (by decide) (by decide) hgd s x ho hs hx hown hb (Nat.le_refl _) hb.size hn y _ rfl rfl (oneP y) h
end
end Go.Proofs.YtaeaccakkielmaaDoor

/- PutText of the reference, walked. Written by gen_ps.py. -/
set_option linter.unusedVariables false
namespace Go.Proofs.YtaeaccakkielmaaDoor
open Go.RowKit
attribute [local go_sem] mk_toList

section
variable {ops : Array Oper} {o : Oper} {a : Act} {K : Act → World → Prop} {Q : Exit → Act → World → Prop} {E' : Prop} {w0 wr : World} {v : Value}
set_option maxRecDepth 100000 in
theorem step_pcK {l m : List Pc} {A : Option Addr} {c : Nat} {s x : Operand} (hgd : o.guard = none) (ho : o.op = .call { callee := .builtin .append, args := #[s, x], argTypes := #[35, 35] })
    (hown : Own wr w0.heap.size 58 2 encP v l) (hb : Below w0.heap.size w0 wr) (hn : l.length + m.length ≤ 33554432) (hsl : Sl wr encP 2 A m) (hcz : A = none → c = 0)
    (hs : a.eval s = v) (hx : a.eval x = .slice A m.length c)
    (h : ∀ v' w', Own w' w0.heap.size 58 2 encP v' (l ++ m) → Below w0.heap.size w0 w' → Grew v wr w' → Kin v wr v' → K (a.put o.dst v') w') : if Region.wanted o (yielded ops a.tmps) = true then Oper.wp Tryd.prog o a wr K Q else E' := by
  obtain ⟨i0, hi0, hz0, hz1, hz2⟩ := info_parts pc_info
  have hw : Region.wanted o (yielded ops a.tmps) = true := by simp [Region.wanted, hgd]
  rw [if_pos hw]
  cases A with
  | none =>
    have hm : m = [] := by
      cases m with
      | nil => rfl
      | cons y r => obtain ⟨b, o, e, _⟩ := hsl (by simp); cases e
    subst hm
    rw [hcz rfl] at hx
    have hrun := run_append_owned_none (P := Tryd.prog) (w := wr) w0.heap.size 35 o.type 58 i0 2 Tryd.underlying35 hi0 v l.length (flat encP l) hown
    have hK := h v wr (by rw [List.append_nil]; exact hown) hb (Grew.refl _ _) (fun b _ h => h)
    simp at hx
    unfold Oper.wp
    simp [execOp, ho, resolve, invoke, builtin, hs, hx, hrun, Result.andThen]
    exact hK
  | some ad =>
    obtain ⟨v', w', hr, h2, h3, h4, h5⟩ := run_append_own_at (P := Tryd.prog) wr w0.heap.size 35 o.type 58 i0 _ 2 24 Tryd.underlying35 hi0 hz0 hz1 hz2 rfl (by decide) v l.length (flat encP l) hown ad m.length c (flat encP m) (flat_length (enc := encP) (size := 2) (fun _ => rfl) m) (by
        intro j u hu
        have hpos : 0 < m.length := by
          have hlt := (List.getElem?_eq_some_iff.1 hu).1
          rw [flat_length (enc := encP) (size := 2) (fun _ => rfl)] at hlt
          cases m with
          | nil => simp at hlt
          | cons y r => simp
        obtain ⟨b, o', e, hc⟩ := hsl hpos
        injection e with e
        subst e
        have hadd : (⟨b, o', none⟩ : Addr).add j = ⟨b, o' + j, none⟩ := by unfold Addr.add; split <;> simp_all
        rw [hadd]; exact hc j u hu) (by
        intro u hu
        unfold flat at hu
        obtain ⟨y, _, hy⟩ := List.mem_flatMap.1 hu
        exact oneP y u hy) (by unfold maxLen; omega) (by omega) hb.size
    unfold Oper.wp execOp
    simp only [ho, resolve, invoke, builtin, Sem.run_bind, Sem.run_pure, Result.andThen_ok, List.map_toArray, List.map_cons, List.map_nil, hs, hx, hr]
    refine h v' w' ?_ (hb.grown h3 hb.size (fun k hk => (World.ownsRow.lt hown k hk).1)) h3 ?_
    · show w'.ownsRow _ _ _ v' (l ++ m).length (flat encP (l ++ m))
      rw [flat_append, List.length_append]; exact h2
    · intro b hb2 hne hv'
      rcases h5 with h5 | h5
      · exact hne (h5 ▸ hv')
      · rw [h5] at hv'; injection hv' with e; omega
end
theorem own_sh {w : World} {base : Nat} {v : Value} {l : List Pc} (h : Own w base 58 2 encP v l) : ∃ A c, v = .slice A l.length c := let ⟨A, c, e, _⟩ := h.sl; ⟨A, c, e⟩
/-- What is known of the region's slots, as far as they are set. -/
structure PtJ (w1 : World) (A : Option Addr) (n c k : Nat) (l : List Pc) (p : Int) (t : ByteArray) (d : Nat → Bool) (u77 u78 u79 u80 u81 u82 u83 u84 u85 u86 u87 u88 u89 u90 u91 u4 u5 u6 : Value) (W : World) : Prop where
  b : Below w1.heap.size w1 W
  o4 : d 4 = true → d 0 = true ∧ d 3 = true
  o9 : d 9 = true → d 4 = true ∧ d 8 = true
  o13 : d 13 = true → d 9 = true ∧ d 12 = true
  o15 : d 15 = true → d 13 = true
  c0 : d 0 = true → d 4 = false → Own W w1.heap.size 58 2 encP u77 []
  c1 : d 1 = true → u78 = .slice A n c
  c2 : d 2 = true → u79 = .int .i64 (k : Int)
  c3 : d 3 = true → ∃ A' c', u80 = .slice A' (l.take k).length c' ∧ (A' = none → c' = 0) ∧ Sl w1 encP 2 A' (l.take k)
  c4 : d 4 = true → d 9 = false → Own W w1.heap.size 58 2 encP u81 (l.take k)
  c5 : d 5 = true → u82 = .int .i64 p
  c6 : d 6 = true → u83 = .string t
  c7 : d 7 = true → u84 = .agg #[.int .i64 p, .string t]
  c8 : d 8 = true → d 9 = false → ∃ g, u85 = .slice (some ⟨g, 0, none⟩) 1 1 ∧ g < W.heap.size ∧ Sl W encP 2 (some ⟨g, 0, none⟩) [(p, t)] ∧ (d 0 = true → d 4 = false → u77.ownBlock ≠ some g) ∧ (d 4 = true → u81.ownBlock ≠ some g)
  c9 : d 9 = true → d 13 = false → Own W w1.heap.size 58 2 encP u86 (l.take k ++ [(p, t)])
  c10 : d 10 = true → u87 = .slice A n c
  c11 : d 11 = true → u88 = .int .i64 (k : Int)
  c12 : d 12 = true → ∃ A' c', u89 = .slice A' (l.drop k).length c' ∧ (A' = none → c' = 0) ∧ Sl w1 encP 2 A' (l.drop k)
  c13 : d 13 = true → Own W w1.heap.size 58 2 encP u90 (l.take k ++ [(p, t)] ++ l.drop k)
  c14 : d 14 = true → u91 = .int .i64 p
  c15 : d 15 = true → u4 = u90
  c16 : d 16 = true → u5 = .int .i64 p
  c17 : d 17 = true → u6 = .bool true

section
variable {w1 : World} {A : Option Addr} {n c k : Nat} {l : List Pc} {p : Int} {t : ByteArray} {d : Nat → Bool} {u77 u78 u79 u80 u81 u82 u83 u84 u85 u86 u87 u88 u89 u90 u91 u4 u5 u6 : Value} {W W' : World} {v' : Value}
theorem PtJ.step0 (h : PtJ w1 A n c k l p t d u77 u78 u79 u80 u81 u82 u83 u84 u85 u86 u87 u88 u89 u90 u91 u4 u5 u6 W) (h0 : d 0 = false) : PtJ w1 A n c k l p t (fun j => j == 0 || d j) (.slice (some ⟨W.heap.size, 0, none⟩) 0 0) u78 u79 u80 u81 u82 u83 u84 u85 u86 u87 u88 u89 u90 u91 u4 u5 u6 (W.alloc (.cells #[] 58)) := by
  have h4 : d 4 = false := by
    cases e : d 4
    · rfl
    · rw [(h.o4 e).1] at h0; cases h0
  have h9 : d 9 = false := by
    cases e : d 9
    · rfl
    · rw [(h.o9 e).1] at h4; cases h4
  have h13 : d 13 = false := by
    cases e : d 13
    · rfl
    · rw [(h.o13 e).1] at h9; cases h9
  exact { h with
    b := h.b.alloc h.b.size _
    o4 := fun e => by rw [show (4 == 0 || d 4) = d 4 from rfl, h4] at e; cases e
    c0 := fun _ _ => Own.made h.b.size
    c4 := fun e => by rw [show (4 == 0 || d 4) = d 4 from rfl, h4] at e; cases e
    c8 := fun e1 e2 => by
      obtain ⟨g, e, hg, hs, _, hq⟩ := h.c8 e1 e2
      exact ⟨g, e, by simp; omega, hs.alloc _, fun _ _ e => (by have e2 : W.heap.size = g := (by simpa [Value.ownBlock] using e); omega), hq⟩
    c9 := fun e => by rw [show (9 == 0 || d 9) = d 9 from rfl, h9] at e; cases e
    c13 := fun e => by rw [show (13 == 0 || d 13) = d 13 from rfl, h13] at e; cases e }
theorem PtJ.step4 (h : PtJ w1 A n c k l p t d u77 u78 u79 u80 u81 u82 u83 u84 u85 u86 u87 u88 u89 u90 u91 u4 u5 u6 W) (h0 : d 0 = true) (h3 : d 3 = true) (h4 : d 4 = false) (hown : Own W' w1.heap.size 58 2 encP v' ([] ++ l.take k)) (hb : Below w1.heap.size w1 W') (hg : Grew u77 W W') (hk : Kin u77 W v') :
    PtJ w1 A n c k l p t (fun j => j == 4 || d j) u77 u78 u79 u80 v' u82 u83 u84 u85 u86 u87 u88 u89 u90 u91 u4 u5 u6 W' := by
  have h9 : d 9 = false := by
    cases e : d 9
    · rfl
    · rw [(h.o9 e).1] at h4; cases h4
  have h13 : d 13 = false := by
    cases e : d 13
    · rfl
    · rw [(h.o13 e).1] at h9; cases h9
  exact { h with
    b := hb
    o4 := fun _ => ⟨h0, h3⟩
    o9 := fun e => by rw [show (9 == 4 || d 9) = d 9 from rfl, h9] at e; cases e
    c0 := fun _ e => by cases e
    c4 := fun _ _ => by rw [List.nil_append] at hown; exact hown
    c8 := fun e1 e2 => by
      obtain ⟨g, e, hgl, hs, hp, _⟩ := h.c8 e1 e2
      have hne := hp h0 h4
      exact ⟨g, e, Nat.lt_of_lt_of_le hgl hg.size, hs.grew hg (fun b o e => by injection e with e; injection e with e; subst e; exact hne), (fun _ e => by cases e), (fun _ => hk g hgl hne)⟩
    c9 := fun e => by rw [show (9 == 4 || d 9) = d 9 from rfl, h9] at e; cases e
    c13 := fun e => by rw [show (13 == 4 || d 13) = d 13 from rfl, h13] at e; cases e }
theorem PtJ.step8 (h : PtJ w1 A n c k l p t d u77 u78 u79 u80 u81 u82 u83 u84 u85 u86 u87 u88 u89 u90 u91 u4 u5 u6 W) (h8 : d 8 = false) : PtJ w1 A n c k l p t (fun j => j == 8 || d j) u77 u78 u79 u80 u81 u82 u83 u84 (.slice (some ⟨W.heap.size, 0, none⟩) 1 1) u86 u87 u88 u89 u90 u91 u4 u5 u6 (W.alloc (.cells #[.int .i64 p, .string t] 58)) := by
  have h9 : d 9 = false := by
    cases e : d 9
    · rfl
    · rw [(h.o9 e).2] at h8; cases h8
  have h13 : d 13 = false := by
    cases e : d 13
    · rfl
    · rw [(h.o13 e).1] at h9; cases h9
  exact { h with
    b := h.b.alloc h.b.size _
    o9 := fun e => by rw [show (9 == 8 || d 9) = d 9 from rfl, h9] at e; cases e
    c0 := fun e1 e2 => (h.c0 e1 e2).alloc _
    c4 := fun e1 e2 => (h.c4 e1 e2).alloc _
    c8 := fun _ _ => ⟨W.heap.size, rfl, by simp, one_sl (x := (p, t)) (heap_alloc_new W _), (fun e1 e2 e => by have := ((h.c0 e1 e2).blk _ e).2; omega), (fun e1 e => by have := ((h.c4 e1 h9).blk _ e).2; omega)⟩
    c9 := fun e => by rw [show (9 == 8 || d 9) = d 9 from rfl, h9] at e; cases e
    c13 := fun e => by rw [show (13 == 8 || d 13) = d 13 from rfl, h13] at e; cases e }
theorem PtJ.step9 (h : PtJ w1 A n c k l p t d u77 u78 u79 u80 u81 u82 u83 u84 u85 u86 u87 u88 u89 u90 u91 u4 u5 u6 W) (h4 : d 4 = true) (h8 : d 8 = true) (h9 : d 9 = false) (hown : Own W' w1.heap.size 58 2 encP v' (l.take k ++ [(p, t)])) (hb : Below w1.heap.size w1 W') :
    PtJ w1 A n c k l p t (fun j => j == 9 || d j) u77 u78 u79 u80 u81 u82 u83 u84 u85 v' u87 u88 u89 u90 u91 u4 u5 u6 W' := by
  have h13 : d 13 = false := by
    cases e : d 13
    · rfl
    · rw [(h.o13 e).1] at h9; cases h9
  exact { h with
    b := hb
    o9 := fun _ => ⟨h4, h8⟩
    o13 := fun e => by rw [show (13 == 9 || d 13) = d 13 from rfl, h13] at e; cases e
    c0 := fun _ e => by rw [show (4 == 9 || d 4) = d 4 from rfl, h4] at e; cases e
    c4 := fun _ e => by cases e
    c8 := fun _ e => by cases e
    c9 := fun _ _ => hown
    c13 := fun e => by rw [show (13 == 9 || d 13) = d 13 from rfl, h13] at e; cases e }
theorem PtJ.step13 (h : PtJ w1 A n c k l p t d u77 u78 u79 u80 u81 u82 u83 u84 u85 u86 u87 u88 u89 u90 u91 u4 u5 u6 W) (h9 : d 9 = true) (h12 : d 12 = true) (h13 : d 13 = false) (hown : Own W' w1.heap.size 58 2 encP v' (l.take k ++ [(p, t)] ++ l.drop k)) (hb : Below w1.heap.size w1 W') :
    PtJ w1 A n c k l p t (fun j => j == 13 || d j) u77 u78 u79 u80 u81 u82 u83 u84 u85 u86 u87 u88 u89 v' u91 u4 u5 u6 W' := by
  have h4 := (h.o9 h9).1
  have h15 : d 15 = false := by
    cases e : d 15
    · rfl
    · rw [h.o15 e] at h13; cases h13
  exact { h with
    b := hb
    o15 := fun e => by rw [show (15 == 13 || d 15) = d 15 from rfl, h15] at e; cases e
    c15 := fun e => by rw [show (15 == 13 || d 15) = d 15 from rfl, h15] at e; cases e
    o13 := fun _ => ⟨h9, h12⟩
    c0 := fun _ e => by rw [show (4 == 13 || d 4) = d 4 from rfl, h4] at e; cases e
    c4 := fun _ e => by rw [show (9 == 13 || d 9) = d 9 from rfl, h9] at e; cases e
    c8 := fun _ e => by rw [show (9 == 13 || d 9) = d 9 from rfl, h9] at e; cases e
    c9 := fun _ e => by cases e
    c13 := fun _ => hown }
theorem Sl.dropP {w : World} {b o : Nat} {l : List Pc} {k : Nat} (h : Sl w encP 2 (some ⟨b, o, none⟩) l) (hk : k ≤ l.length) : Sl w encP 2 (some ⟨b, o + k * 2, none⟩) (l.drop k) := by
  intro hn
  obtain ⟨b', o', e, hc⟩ := h (by rw [List.length_drop] at hn; omega)
  injection e with e; injection e with e1 e2
  subst e1 e2
  refine ⟨b, o + k * 2, rfl, fun j u hu => ?_⟩
  rw [(flat_take (enc := encP) (k := 2) (fun _ => rfl) l k hk).2, List.getElem?_drop] at hu
  have := hc _ u hu
  rw [← Nat.add_assoc] at this; exact this
end
set_option maxHeartbeats 2000000 in
set_option maxRecDepth 100000 in
theorem sPutText_any (A : Option Addr) (c : Nat) (l : List Pc) (t : ByteArray) (w : World) (hs : Sl w encP 2 A l) (hcz : A = none → c = 0) (hle : l.length ≤ c) (hl : l.length ≤ 16777216) (hf : FitP l) (ht : t.size ≤ 16777216) :
    Calls Tryd.prog 44 #[.slice A l.length c, .string t] w (PutRes (putT l t) w) := by
  have HS := Lib.hid hs
  have HCZ := Lib.hid hcz
  have hsv := fun w h => sStoreValid_any A c l w h hl hf
  have hPO := fun w => sPrintOf_any t w ht
  cases hv : storeV l
  case false =>
    have E := Lib.hid (putT_bad (t := t) hv)
    rw [hv] at hsv
    have HSV := Lib.hid hsv
    clear hsv hs hcz hPO
    unfold PutRes
    go_enter Tryd.func44, Tryd.ntmps44
    go_wp2_with fail
    refine (HSV.out _ HS.out).mono ?_
    rintro e w1 ⟨rfl, hb⟩
    have HB := Lib.hid (hb.alloc hb.size (.cells #[] 58))
    have HM := Lib.hid (Own.made (enc := encP) (E := 58) (size := 2) hb.size)
    clear hb
    go_wp2
    go_ret3
    rw [E.out]
    exact ⟨_, rfl, HM.out, HB.out⟩
  case true =>
    rw [hv] at hsv
    have HSV := Lib.hid hsv
    have E0 := Lib.hid (fun h => putT_text (t := t) hv h)
    have E1 := Lib.hid (fun h h2 => putT_there (t := t) hv h h2)
    have E2 := Lib.hid (fun u h h2 => putT_clash (t := t) (u := u) hv h h2)
    have E3 := Lib.hid (fun h h2 => putT_full (t := t) hv h h2)
    have E4 := Lib.hid (fun h h2 => putT_new (t := t) hv h h2)
    have hgh := fun p => getT_here (storeV_sorted hv) (p := p)
    unfold tx at E0 E1 E2 E3 E4
    have hp0 := @prOf_bad (bs t)
    have hp1 := @prOf_pv (bs t)
    have hpb := prOf_bd (bs t)
    generalize prOf (bs t) = p at *
    generalize textV (bs t) = tv at *
    have hgh := hgh p
    have HGH := Lib.hid hgh
    have HPO := Lib.hid hPO
    have HP0 := Lib.hid hp0
    have HP1 := Lib.hid hp1
    clear hsv hs hcz hPO hv hgh hp0 hp1
    unfold PutRes
    generalize putT l t = R at *
    go_enter Tryd.func44, Tryd.ntmps44
    go_wp2_with (first
      | (go_at_call 18; refine (HSV.out _ HS.out).mono ?_; rintro e w1 ⟨rfl, hb⟩; have HB1 := Lib.hid hb; have HS1 := Lib.hid (HS.out.below hb); clear hb)
      | (go_at_call 37; refine (HPO.out _).mono ?_; rintro e w' ⟨rfl, rfl⟩))
    go_loop [8] (fun i => ∃ k : Nat, k ≤ l.length ∧ i = .int .i64 k ∧ Hid (∀ j (h : j < l.length), j < k → l[j].1 < p)) (fun i => l.length - (intOf i).toNat)
    case atStart => exact ⟨0, Nat.zero_le _, rfl, fun j h h2 => by omega⟩
    case round =>
      obtain ⟨k, hk, rfl, H1⟩ := hrel
      by_cases hlt : k < l.length
      · obtain ⟨b, o, rfl, hc0, hc1⟩ := HS1.out.getP hlt
        have hnx := fun (hx : l[k].1 < p) (j : Nat) (h : j < l.length) (hj : j < k + 1) => show l[j].1 < p by
          by_cases e : j = k
          · subst e; exact hx
          · exact H1.out j h (by omega)
        have HNX := Lib.hid hnx
        have hbe := fun (hx : ¬ l[k].1 < p) => below_of l p k hk H1.out (fun _ => hx)
        have HBE := Lib.hid hbe
        have hgd := getD_pc hlt
        have HGD := Lib.hid hgd
        clear hnx hbe hgd
        by_cases hx : l[k].1 < p
        · have HN := Lib.hid (HNX.out hx)
          clear HNX HBE HGD
          generalize l[k] = q at *
          go_wp2
          go_round
          case rel => exact ⟨k + 1, by omega, by go_num, HN.out⟩
          case measure => simp [intOf]; omega
        · have HB := Lib.hid (HBE.out hx)
          clear HNX HBE
          generalize l[k] = q at *
          obtain ⟨q0, u⟩ := q
          simp only at *
          have HH := Lib.hid (show hereP l p = decide (q0 = p) by unfold hereP; rw [HB.out, HGD.out, decide_eq_true hlt, Bool.true_and])
          cases tv
          · have hpn : p = -1 := HP0.out rfl
            subst hpn
            go_wp2_with (at_builtin; refine app_pcN (w0 := w1) (l := []) rfl rfl (Own.made (Nat.le_refl _)) ((Below.refl _ _).alloc (Nat.le_refl _) _) (by simp; omega) (HS1.out.alloc _) HCZ.out (by rfl) (by rfl) ?_; intro v5 w5 hown5 hb5 hg5; rw [List.nil_append] at hown5; have HW5 := Lib.hid hown5; have HB5 := Lib.hid hb5; clear hown5 hb5 hg5)
            go_ret3
            rw [E0.out (by simp)]
            exact ⟨_, rfl, HW5.out.mono HB1.out.size, Below_then HB1.out HB5.out (Nat.le_refl _)⟩
          · have hpp : 0 ≤ p := (pv_iff.1 (HP1.out rfl)).1
            have hpn : ¬ p < 0 := by omega
            by_cases e : q0 = p
            · subst e
              have hgt : getT l q0 = some u := by rw [HGH.out, HH.out, HB.out, HGD.out]; simp
              have HGT := Lib.hid hgt
              clear hgt
              by_cases hu : u = t
              · subst hu
                go_wp2_with (at_builtin; refine app_pcN (w0 := w1) (l := []) rfl rfl (Own.made (Nat.le_refl _)) ((Below.refl _ _).alloc (Nat.le_refl _) _) (by simp; omega) (HS1.out.alloc _) HCZ.out (by rfl) (by rfl) ?_; intro v5 w5 hown5 hb5 hg5; rw [List.nil_append] at hown5; have HW5 := Lib.hid hown5; have HB5 := Lib.hid hb5; clear hown5 hb5 hg5)
                go_ret3
                rw [E1.out (by simp) HGT.out]
                exact ⟨_, rfl, HW5.out.mono HB1.out.size, Below_then HB1.out HB5.out (Nat.le_refl _)⟩
              · have hne : (u.toList == t.toList) = false := by
                  rw [ByteArray.toList_eq, ByteArray.toList_eq]
                  rw [beq_eq_false_iff_ne]; intro e
                  apply hu
                  rw [← mk_bs u, ← mk_bs t, e]
                go_wp2_with (at_builtin; refine app_pcN (w0 := w1) (l := []) rfl rfl (Own.made (Nat.le_refl _)) ((Below.refl _ _).alloc (Nat.le_refl _) _) (by simp; omega) (HS1.out.alloc _) HCZ.out (by rfl) (by rfl) ?_; intro v5 w5 hown5 hb5 hg5; rw [List.nil_append] at hown5; have HW5 := Lib.hid hown5; have HB5 := Lib.hid hb5; clear hown5 hb5 hg5)
                go_ret3
                rw [E2.out u (by simp) HGT.out hu]
                exact ⟨_, rfl, HW5.out.mono HB1.out.size, Below_then HB1.out HB5.out (Nat.le_refl _)⟩
            · have hgt : getT l p = none := by rw [HGH.out, HH.out]; simp [e]
              have HGT := Lib.hid hgt
              have hqp : (q0 == p) = false := by simpa using e
              clear hgt
              by_cases h40 : l.length = 40
              · have h40' : ((l.length : Int) == 40) = true := by simp; omega
                have E3' := Lib.hid (E3.out (by simp) HGT.out h40)
                have H40 := Lib.hid h40
                clear h40
                go_wp2_with (at_builtin; refine app_pcN (w0 := w1) (l := []) rfl rfl (Own.made (Nat.le_refl _)) ((Below.refl _ _).alloc (Nat.le_refl _) _) (by simp; omega) (HS1.out.alloc _) HCZ.out (by rfl) (by first | rfl | (rw [H40.out]; rfl)) ?_; intro v5 w5 hown5 hb5 hg5; rw [List.nil_append] at hown5; have HW5 := Lib.hid hown5; have HB5 := Lib.hid hb5; clear hown5 hb5 hg5)
                go_ret3
                rw [E3'.out]
                exact ⟨_, rfl, HW5.out.mono HB1.out.size, Below_then HB1.out HB5.out (Nat.le_refl _)⟩
              · have h40' : ((l.length : Int) == 40) = false := by simp; omega
                clear HGH HP0 HP1 HPO
                have E4' := Lib.hid (E4.out (by simp) HGT.out h40)
                clear h40
                have hkl : k ≤ l.length := by omega
                have htl : (l.take k).length = k := by rw [List.length_take]; omega
                have HBW := Lib.hid HB.out
                go_wp2
                refine wp_region_inv (by kernel_rfl) (by kernel_rfl) (fun a0 d a W => ∃ u77 u78 u79 u80 u81 u82 u83 u84 u85 u86 u87 u88 u89 u90 u91 u4 u5 u6 : Value, a = ⟨#[Value.slice (some { block := b, off := o }) l.length c, Value.string t, undef, undef, u4, u5, u6, Value.int IntKind.i64 p, Value.int IntKind.i64 (k : Int), Value.bool false, Value.slice (some { block := b, off := o }) l.length c, Value.bool true, Value.bool false, undef, Value.string t, Value.int IntKind.i64 p, Value.int IntKind.i64 (k : Int), Value.slice (some { block := b, off := o }) l.length c, Value.int IntKind.i64 (l.length : Int), Value.bool true, Value.bool true, Value.slice (some { block := b, off := o }) l.length c, Value.int IntKind.i64 (k : Int), Value.pointer (some { block := b, off := o + k * 2 }), Value.pointer (some { block := b, off := o + k * 2 }), Value.int IntKind.i64 q0, Value.int IntKind.i64 p, Value.bool false, Value.bool false, u29, u30, Value.int IntKind.i64 (k : Int), Value.slice (some { block := b, off := o }) l.length c, Value.int IntKind.i64 (l.length : Int), Value.bool true, Value.bool true, Value.slice (some { block := b, off := o }) l.length c, Value.int IntKind.i64 (k : Int), Value.pointer (some { block := b, off := o + k * 2 }), Value.pointer (some { block := b, off := o + k * 2 }), Value.int IntKind.i64 q0, Value.int IntKind.i64 p, Value.bool false, Value.bool false, Value.bool false, Value.int IntKind.i64 p, Value.bool false, Value.bool false, Value.bool false, Value.bool false, undef, undef, undef, undef, undef, undef, undef, Value.bool false, Value.bool false, Value.bool false, Value.bool false, Value.bool true, Value.bool true, Value.slice (some { block := b, off := o }) l.length c, Value.int IntKind.i64 (l.length : Int), Value.bool false, Value.bool false, Value.bool false, undef, undef, undef, Value.bool false, Value.bool false, undef, undef, undef, undef, u77, u78, u79, u80, u81, u82, u83, u84, u85, u86, u87, u88, u89, u90, u91], []⟩ ∧ PtJ w1 (some ⟨b, o, none⟩) l.length c (k) l p t d u77 u78 u79 u80 u81 u82 u83 u84 u85 u86 u87 u88 u89 u90 u91 u4 u5 u6 W) ?_ ?_ ?_
                · exact ⟨_, _, _, _, _, _, _, _, _, _, _, _, _, _, _, _, _, _, rfl, Below_drewN (Below.refl _ _) 1, nofun, nofun, nofun, nofun, nofun, nofun, nofun, nofun, nofun, nofun, nofun, nofun, nofun, nofun, nofun, nofun, nofun, nofun, nofun, nofun, nofun, nofun⟩
                · refine ⟨?_, ?_, ?_, ?_, ?_, ?_, ?_, ?_, ?_, ?_, ?_, ?_, ?_, ?_, ?_, ?_, ?_, ?_, trivial⟩
                  all_goals
                    intro d a W K hd hdep hJ hK
                    obtain ⟨u77, u78, u79, u80, u81, u82, u83, u84, u85, u86, u87, u88, u89, u90, u91, u4, u5, u6, rfl, hj⟩ := hJ
                    have HJ := Lib.hid hj
                    have HK := Lib.hid hK
                    have HD := Lib.hid hd
                    have HDEP := Lib.hid hdep
                    clear hj hK hd hdep
                  · go_simp
                    exact HK.out _ _ ⟨_, _, _, _, _, _, _, _, _, _, _, _, _, _, _, _, _, _, rfl, HJ.out.step0 HD.out⟩
                  · go_simp
                    exact HK.out _ _ ⟨_, _, _, _, _, _, _, _, _, _, _, _, _, _, _, _, _, _, rfl, { HJ.out with c1 := fun _ => rfl }⟩
                  · go_simp
                    exact HK.out _ _ ⟨_, _, _, _, _, _, _, _, _, _, _, _, _, _, _, _, _, _, rfl, { HJ.out with c2 := fun _ => rfl }⟩
                  · obtain rfl := HJ.out.c1 (HDEP.out { on := 1, ground := Ground.data } (by simp) rfl)
                    obtain rfl := HJ.out.c2 (HDEP.out { on := 2, ground := Ground.data } (by simp) rfl)
                    have hkc3 : k ≤ c := by omega
                    go_simp
                    exact HK.out _ _ ⟨_, _, _, _, _, _, _, _, _, _, _, _, _, _, _, _, _, _, rfl, { HJ.out with o4 := fun e => ⟨(HJ.out.o4 e).1, rfl⟩, c3 := fun _ => ⟨some ⟨b, o, none⟩, c, (by rw [htl]), (by intro h; cases h), HS1.out.take _⟩ }⟩
                  · obtain ⟨A', c', rfl, hz, hsl⟩ := HJ.out.c3 (HDEP.out { on := 3, ground := Ground.data } (by simp) rfl)
                    refine step_pcK (w0 := w1) rfl rfl (HJ.out.c0 (HDEP.out { on := 0, ground := Ground.data } (by simp) rfl) HD.out) HJ.out.b (by simp; omega) (hsl.below HJ.out.b) hz rfl rfl ?_
                    intro v' W' hown hb hg hk
                    exact HK.out _ _ ⟨_, _, _, _, _, _, _, _, _, _, _, _, _, _, _, _, _, _, rfl, HJ.out.step4 (HDEP.out { on := 0, ground := Ground.data } (by simp) rfl) (HDEP.out { on := 3, ground := Ground.data } (by simp) rfl) HD.out hown hb hg hk⟩
                  · go_simp
                    exact HK.out _ _ ⟨_, _, _, _, _, _, _, _, _, _, _, _, _, _, _, _, _, _, rfl, { HJ.out with c5 := fun _ => rfl }⟩
                  · go_simp
                    exact HK.out _ _ ⟨_, _, _, _, _, _, _, _, _, _, _, _, _, _, _, _, _, _, rfl, { HJ.out with c6 := fun _ => rfl }⟩
                  · obtain rfl := HJ.out.c5 (HDEP.out { on := 5, ground := Ground.data } (by simp) rfl)
                    obtain rfl := HJ.out.c6 (HDEP.out { on := 6, ground := Ground.data } (by simp) rfl)
                    go_simp
                    exact HK.out _ _ ⟨_, _, _, _, _, _, _, _, _, _, _, _, _, _, _, _, _, _, rfl, { HJ.out with c7 := fun _ => rfl }⟩
                  · obtain rfl := HJ.out.c7 (HDEP.out { on := 7, ground := Ground.data } (by simp) rfl)
                    go_simp
                    exact HK.out _ _ ⟨_, _, _, _, _, _, _, _, _, _, _, _, _, _, _, _, _, _, rfl, HJ.out.step8 HD.out⟩
                  · obtain ⟨g, rfl, hgl, hsl, _, hap⟩ := HJ.out.c8 (HDEP.out { on := 8, ground := Ground.data } (by simp) rfl) HD.out
                    have hap := hap (HDEP.out { on := 4, ground := Ground.data } (by simp) rfl)
                    refine step_pcK (w0 := w1) (m := [(p, t)]) rfl rfl (HJ.out.c4 (HDEP.out { on := 4, ground := Ground.data } (by simp) rfl) HD.out) HJ.out.b (by simp; omega) hsl (by intro h; cases h) rfl rfl ?_
                    intro v' W' hown hb hg hk
                    exact HK.out _ _ ⟨_, _, _, _, _, _, _, _, _, _, _, _, _, _, _, _, _, _, rfl, HJ.out.step9 (HDEP.out { on := 4, ground := Ground.data } (by simp) rfl) (HDEP.out { on := 8, ground := Ground.data } (by simp) rfl) HD.out hown hb⟩
                  · go_simp
                    exact HK.out _ _ ⟨_, _, _, _, _, _, _, _, _, _, _, _, _, _, _, _, _, _, rfl, { HJ.out with c10 := fun _ => rfl }⟩
                  · go_simp
                    exact HK.out _ _ ⟨_, _, _, _, _, _, _, _, _, _, _, _, _, _, _, _, _, _, rfl, { HJ.out with c11 := fun _ => rfl }⟩
                  · obtain rfl := HJ.out.c10 (HDEP.out { on := 10, ground := Ground.data } (by simp) rfl)
                    obtain rfl := HJ.out.c11 (HDEP.out { on := 11, ground := Ground.data } (by simp) rfl)
                    have hkc : ¬ (c = k) := by omega
                    go_simp
                    exact HK.out _ _ ⟨_, _, _, _, _, _, _, _, _, _, _, _, _, _, _, _, _, _, rfl, { HJ.out with o13 := fun e => ⟨(HJ.out.o13 e).1, rfl⟩, c12 := fun _ => ⟨_, _, (by rw [List.length_drop]), (by intro h; cases h), Sl.dropP HS1.out (by omega)⟩ }⟩
                  · obtain ⟨A', c', rfl, hz, hsl⟩ := HJ.out.c12 (HDEP.out { on := 12, ground := Ground.data } (by simp) rfl)
                    refine step_pcK (w0 := w1) rfl rfl (HJ.out.c9 (HDEP.out { on := 9, ground := Ground.data } (by simp) rfl) HD.out) HJ.out.b (by simp; omega) (hsl.below HJ.out.b) hz rfl rfl ?_
                    intro v' W' hown hb hg hk
                    exact HK.out _ _ ⟨_, _, _, _, _, _, _, _, _, _, _, _, _, _, _, _, _, _, rfl, HJ.out.step13 (HDEP.out { on := 9, ground := Ground.data } (by simp) rfl) (HDEP.out { on := 12, ground := Ground.data } (by simp) rfl) HD.out hown hb⟩
                  · go_simp
                    exact HK.out _ _ ⟨_, _, _, _, _, _, _, _, _, _, _, _, _, _, _, _, _, _, rfl, { HJ.out with c14 := fun _ => rfl }⟩
                  · go_simp
                    exact HK.out _ _ ⟨_, _, _, _, _, _, _, _, _, _, _, _, _, _, _, _, _, _, rfl, { HJ.out with o15 := fun _ => (HDEP.out { on := 13, ground := Ground.data } (by simp) rfl), c15 := fun _ => rfl }⟩
                  · obtain rfl := HJ.out.c14 (HDEP.out { on := 14, ground := Ground.data } (by simp) rfl)
                    go_simp
                    exact HK.out _ _ ⟨_, _, _, _, _, _, _, _, _, _, _, _, _, _, _, _, _, _, rfl, { HJ.out with c16 := fun _ => rfl }⟩
                  · go_simp
                    exact HK.out _ _ ⟨_, _, _, _, _, _, _, _, _, _, _, _, _, _, _, _, _, _, rfl, { HJ.out with c17 := fun _ => rfl }⟩
                · intro d a W hd hJ
                  obtain ⟨u77, u78, u79, u80, u81, u82, u83, u84, u85, u86, u87, u88, u89, u90, u91, u4, u5, u6, rfl, hj⟩ := hJ
                  obtain rfl := hj.c15 (hd 15 (by decide))
                  obtain rfl := hj.c16 (hd 16 (by decide))
                  obtain rfl := hj.c17 (hd 17 (by decide))
                  have HO := Lib.hid (hj.c13 (hd 13 (by decide)))
                  have HBF := Lib.hid (Below_then HB1.out hj.b (Nat.le_refl _))
                  clear hj hd
                  go_wp2
                  go_ret3
                  rw [E4'.out, HBW.out]
                  refine ⟨_, rfl, ?_, HBF.out⟩
                  have := HO.out
                  rw [List.append_assoc] at this
                  exact this.mono HB1.out.size
      · obtain rfl : k = l.length := by omega
        have HB := Lib.hid (below_of l p l.length (Nat.le_refl _) H1.out (fun h => absurd h (by omega)))
        have HH := Lib.hid (show hereP l p = false by unfold hereP; rw [HB.out]; simp)
        have hgt : getT l p = none := by rw [HGH.out, HH.out]; simp
        have HGT := Lib.hid hgt
        clear hgt
        cases tv
        · have hpn : p = -1 := HP0.out rfl
          subst hpn
          go_wp2_with (at_builtin; refine app_pcN (w0 := w1) (l := []) rfl rfl (Own.made (Nat.le_refl _)) ((Below.refl _ _).alloc (Nat.le_refl _) _) (by simp; omega) (HS1.out.alloc _) HCZ.out (by rfl) (by rfl) ?_; intro v5 w5 hown5 hb5 hg5; rw [List.nil_append] at hown5; have HW5 := Lib.hid hown5; have HB5 := Lib.hid hb5; clear hown5 hb5 hg5)
          go_ret3
          rw [E0.out (by simp)]
          exact ⟨_, rfl, HW5.out.mono HB1.out.size, Below_then HB1.out HB5.out (Nat.le_refl _)⟩
        · have hpp : 0 ≤ p := (pv_iff.1 (HP1.out rfl)).1
          have hpn : ¬ p < 0 := by omega
          by_cases h40 : l.length = 40
          · have h40' : ((l.length : Int) == 40) = true := by simp; omega
            have E3' := Lib.hid (E3.out (by simp) HGT.out h40)
            have H40 := Lib.hid h40
            clear h40
            go_wp2_with (at_builtin; refine app_pcN (w0 := w1) (l := []) rfl rfl (Own.made (Nat.le_refl _)) ((Below.refl _ _).alloc (Nat.le_refl _) _) (by simp; omega) (HS1.out.alloc _) HCZ.out (by rfl) (by first | rfl | (rw [H40.out]; rfl)) ?_; intro v5 w5 hown5 hb5 hg5; rw [List.nil_append] at hown5; have HW5 := Lib.hid hown5; have HB5 := Lib.hid hb5; clear hown5 hb5 hg5)
            go_ret3
            rw [E3'.out]
            exact ⟨_, rfl, HW5.out.mono HB1.out.size, Below_then HB1.out HB5.out (Nat.le_refl _)⟩
          · have h40' : ((l.length : Int) == 40) = false := by simp; omega
            clear HGH HP0 HP1 HPO
            have E4' := Lib.hid (E4.out (by simp) HGT.out h40)
            clear h40
            have hkl : l.length ≤ l.length := by omega
            have htl : (l.take l.length).length = l.length := by rw [List.length_take]; omega
            have HBW := Lib.hid HB.out
            go_wp2
            refine wp_region_inv (by kernel_rfl) (by kernel_rfl) (fun a0 d a W => ∃ u77 u78 u79 u80 u81 u82 u83 u84 u85 u86 u87 u88 u89 u90 u91 u4 u5 u6 : Value, a = ⟨#[Value.slice A l.length c, Value.string t, undef, undef, u4, u5, u6, Value.int IntKind.i64 p, Value.int IntKind.i64 (l.length : Int), Value.bool false, Value.slice A l.length c, Value.bool true, Value.bool false, undef, Value.string t, Value.int IntKind.i64 p, Value.int IntKind.i64 (l.length : Int), Value.slice A l.length c, Value.int IntKind.i64 (l.length : Int), Value.bool false, Value.bool false, undef, undef, undef, undef, undef, undef, undef, Value.bool false, u29, u30, Value.int IntKind.i64 (l.length : Int), Value.slice A l.length c, Value.int IntKind.i64 (l.length : Int), Value.bool false, Value.bool false, undef, undef, undef, undef, undef, undef, undef, Value.bool false, Value.bool false, Value.int IntKind.i64 p, Value.bool false, Value.bool false, Value.bool false, Value.bool false, undef, undef, undef, undef, undef, undef, undef, Value.bool false, Value.bool false, Value.bool false, Value.bool false, Value.bool true, Value.bool true, Value.slice A l.length c, Value.int IntKind.i64 (l.length : Int), Value.bool false, Value.bool false, Value.bool false, undef, undef, undef, Value.bool false, Value.bool false, undef, undef, undef, undef, u77, u78, u79, u80, u81, u82, u83, u84, u85, u86, u87, u88, u89, u90, u91], []⟩ ∧ PtJ w1 (A) l.length c (l.length) l p t d u77 u78 u79 u80 u81 u82 u83 u84 u85 u86 u87 u88 u89 u90 u91 u4 u5 u6 W) ?_ ?_ ?_
            · exact ⟨_, _, _, _, _, _, _, _, _, _, _, _, _, _, _, _, _, _, rfl, Below_drewN (Below.refl _ _) 1, nofun, nofun, nofun, nofun, nofun, nofun, nofun, nofun, nofun, nofun, nofun, nofun, nofun, nofun, nofun, nofun, nofun, nofun, nofun, nofun, nofun, nofun⟩
            · refine ⟨?_, ?_, ?_, ?_, ?_, ?_, ?_, ?_, ?_, ?_, ?_, ?_, ?_, ?_, ?_, ?_, ?_, ?_, trivial⟩
              all_goals
                intro d a W K hd hdep hJ hK
                obtain ⟨u77, u78, u79, u80, u81, u82, u83, u84, u85, u86, u87, u88, u89, u90, u91, u4, u5, u6, rfl, hj⟩ := hJ
                have HJ := Lib.hid hj
                have HK := Lib.hid hK
                have HD := Lib.hid hd
                have HDEP := Lib.hid hdep
                clear hj hK hd hdep
              · go_simp
                exact HK.out _ _ ⟨_, _, _, _, _, _, _, _, _, _, _, _, _, _, _, _, _, _, rfl, HJ.out.step0 HD.out⟩
              · go_simp
                exact HK.out _ _ ⟨_, _, _, _, _, _, _, _, _, _, _, _, _, _, _, _, _, _, rfl, { HJ.out with c1 := fun _ => rfl }⟩
              · go_simp
                exact HK.out _ _ ⟨_, _, _, _, _, _, _, _, _, _, _, _, _, _, _, _, _, _, rfl, { HJ.out with c2 := fun _ => rfl }⟩
              · obtain rfl := HJ.out.c1 (HDEP.out { on := 1, ground := Ground.data } (by simp) rfl)
                obtain rfl := HJ.out.c2 (HDEP.out { on := 2, ground := Ground.data } (by simp) rfl)
                cases A with
                | none =>
                  go_simp
                  exact HK.out _ _ ⟨_, _, _, _, _, _, _, _, _, _, _, _, _, _, _, _, _, _, rfl, { HJ.out with o4 := fun e => ⟨(HJ.out.o4 e).1, rfl⟩, c3 := fun _ => ⟨_, _, (by rw [htl]), (by intro _; exact HCZ.out rfl), HS1.out.take _⟩ }⟩
                | some ad =>
                  go_simp
                  exact HK.out _ _ ⟨_, _, _, _, _, _, _, _, _, _, _, _, _, _, _, _, _, _, rfl, { HJ.out with o4 := fun e => ⟨(HJ.out.o4 e).1, rfl⟩, c3 := fun _ => ⟨_, _, (by rw [htl]), (by intro h; cases h), HS1.out.take _⟩ }⟩
              · obtain ⟨A', c', rfl, hz, hsl⟩ := HJ.out.c3 (HDEP.out { on := 3, ground := Ground.data } (by simp) rfl)
                refine step_pcK (w0 := w1) rfl rfl (HJ.out.c0 (HDEP.out { on := 0, ground := Ground.data } (by simp) rfl) HD.out) HJ.out.b (by simp; omega) (hsl.below HJ.out.b) hz rfl rfl ?_
                intro v' W' hown hb hg hk
                exact HK.out _ _ ⟨_, _, _, _, _, _, _, _, _, _, _, _, _, _, _, _, _, _, rfl, HJ.out.step4 (HDEP.out { on := 0, ground := Ground.data } (by simp) rfl) (HDEP.out { on := 3, ground := Ground.data } (by simp) rfl) HD.out hown hb hg hk⟩
              · go_simp
                exact HK.out _ _ ⟨_, _, _, _, _, _, _, _, _, _, _, _, _, _, _, _, _, _, rfl, { HJ.out with c5 := fun _ => rfl }⟩
              · go_simp
                exact HK.out _ _ ⟨_, _, _, _, _, _, _, _, _, _, _, _, _, _, _, _, _, _, rfl, { HJ.out with c6 := fun _ => rfl }⟩
              · obtain rfl := HJ.out.c5 (HDEP.out { on := 5, ground := Ground.data } (by simp) rfl)
                obtain rfl := HJ.out.c6 (HDEP.out { on := 6, ground := Ground.data } (by simp) rfl)
                go_simp
                exact HK.out _ _ ⟨_, _, _, _, _, _, _, _, _, _, _, _, _, _, _, _, _, _, rfl, { HJ.out with c7 := fun _ => rfl }⟩
              · obtain rfl := HJ.out.c7 (HDEP.out { on := 7, ground := Ground.data } (by simp) rfl)
                go_simp
                exact HK.out _ _ ⟨_, _, _, _, _, _, _, _, _, _, _, _, _, _, _, _, _, _, rfl, HJ.out.step8 HD.out⟩
              · obtain ⟨g, rfl, hgl, hsl, _, hap⟩ := HJ.out.c8 (HDEP.out { on := 8, ground := Ground.data } (by simp) rfl) HD.out
                have hap := hap (HDEP.out { on := 4, ground := Ground.data } (by simp) rfl)
                refine step_pcK (w0 := w1) (m := [(p, t)]) rfl rfl (HJ.out.c4 (HDEP.out { on := 4, ground := Ground.data } (by simp) rfl) HD.out) HJ.out.b (by simp; omega) hsl (by intro h; cases h) rfl rfl ?_
                intro v' W' hown hb hg hk
                exact HK.out _ _ ⟨_, _, _, _, _, _, _, _, _, _, _, _, _, _, _, _, _, _, rfl, HJ.out.step9 (HDEP.out { on := 4, ground := Ground.data } (by simp) rfl) (HDEP.out { on := 8, ground := Ground.data } (by simp) rfl) HD.out hown hb⟩
              · go_simp
                exact HK.out _ _ ⟨_, _, _, _, _, _, _, _, _, _, _, _, _, _, _, _, _, _, rfl, { HJ.out with c10 := fun _ => rfl }⟩
              · go_simp
                exact HK.out _ _ ⟨_, _, _, _, _, _, _, _, _, _, _, _, _, _, _, _, _, _, rfl, { HJ.out with c11 := fun _ => rfl }⟩
              · obtain rfl := HJ.out.c10 (HDEP.out { on := 10, ground := Ground.data } (by simp) rfl)
                obtain rfl := HJ.out.c11 (HDEP.out { on := 11, ground := Ground.data } (by simp) rfl)
                have hdl : (l.drop l.length) = [] := List.drop_length
                cases A with
                | none =>
                  go_simp
                  exact HK.out _ _ ⟨_, _, _, _, _, _, _, _, _, _, _, _, _, _, _, _, _, _, rfl, { HJ.out with o13 := fun e => ⟨(HJ.out.o13 e).1, rfl⟩, c12 := fun _ => ⟨_, _, (by rw [hdl]; rfl), (by intro _; first | rfl | (have := HCZ.out rfl; omega)), by rw [hdl]; intro h; simp at h⟩ }⟩
                | some ad =>
                  go_simp
                  all_goals exact HK.out _ _ ⟨_, _, _, _, _, _, _, _, _, _, _, _, _, _, _, _, _, _, rfl, { HJ.out with o13 := fun e => ⟨(HJ.out.o13 e).1, rfl⟩, c12 := fun _ => ⟨_, _, (by rw [hdl]; rfl), (by intro h; exfalso; revert h; split <;> simp), by rw [hdl]; intro h; simp at h⟩ }⟩
              · obtain ⟨A', c', rfl, hz, hsl⟩ := HJ.out.c12 (HDEP.out { on := 12, ground := Ground.data } (by simp) rfl)
                refine step_pcK (w0 := w1) rfl rfl (HJ.out.c9 (HDEP.out { on := 9, ground := Ground.data } (by simp) rfl) HD.out) HJ.out.b (by simp; omega) (hsl.below HJ.out.b) hz rfl rfl ?_
                intro v' W' hown hb hg hk
                exact HK.out _ _ ⟨_, _, _, _, _, _, _, _, _, _, _, _, _, _, _, _, _, _, rfl, HJ.out.step13 (HDEP.out { on := 9, ground := Ground.data } (by simp) rfl) (HDEP.out { on := 12, ground := Ground.data } (by simp) rfl) HD.out hown hb⟩
              · go_simp
                exact HK.out _ _ ⟨_, _, _, _, _, _, _, _, _, _, _, _, _, _, _, _, _, _, rfl, { HJ.out with c14 := fun _ => rfl }⟩
              · go_simp
                exact HK.out _ _ ⟨_, _, _, _, _, _, _, _, _, _, _, _, _, _, _, _, _, _, rfl, { HJ.out with o15 := fun _ => (HDEP.out { on := 13, ground := Ground.data } (by simp) rfl), c15 := fun _ => rfl }⟩
              · obtain rfl := HJ.out.c14 (HDEP.out { on := 14, ground := Ground.data } (by simp) rfl)
                go_simp
                exact HK.out _ _ ⟨_, _, _, _, _, _, _, _, _, _, _, _, _, _, _, _, _, _, rfl, { HJ.out with c16 := fun _ => rfl }⟩
              · go_simp
                exact HK.out _ _ ⟨_, _, _, _, _, _, _, _, _, _, _, _, _, _, _, _, _, _, rfl, { HJ.out with c17 := fun _ => rfl }⟩
            · intro d a W hd hJ
              obtain ⟨u77, u78, u79, u80, u81, u82, u83, u84, u85, u86, u87, u88, u89, u90, u91, u4, u5, u6, rfl, hj⟩ := hJ
              obtain rfl := hj.c15 (hd 15 (by decide))
              obtain rfl := hj.c16 (hd 16 (by decide))
              obtain rfl := hj.c17 (hd 17 (by decide))
              have HO := Lib.hid (hj.c13 (hd 13 (by decide)))
              have HBF := Lib.hid (Below_then HB1.out hj.b (Nat.le_refl _))
              clear hj hd
              go_wp2
              go_ret3
              rw [E4'.out, HBW.out]
              refine ⟨_, rfl, ?_, HBF.out⟩
              have := HO.out
              rw [List.append_assoc] at this
              exact this.mono HB1.out.size
end Go.Proofs.YtaeaccakkielmaaDoor

/- FolderText, EmptyRoot, walked. -/
set_option linter.unusedVariables false
namespace Go.Proofs.YtaeaccakkielmaaDoor
open Go.RowKit
def entM (e : En) : ByteArray := e.1 ++ ⟨#[61]⟩ ++ mk (hexT e.2) ++ ⟨#[59]⟩
theorem entM_tx (e : En) : entM e = mk (entT e) := by
  unfold entM entT
  rw [show e.1 = mk (tx e.1) from (mk_tx _).symm, show (⟨#[61]⟩ : ByteArray) = mk [61] from rfl, show (⟨#[59]⟩ : ByteArray) = mk [59] from rfl, mk_append, mk_append, mk_append]
  simp [tx_mk]
def foldM (l : List En) : ByteArray := mk (100 :: l.flatMap entT)
theorem foldM_take {l : List En} {k : Nat} (h : k < l.length) : foldM (l.take (k + 1)) = foldM (l.take k) ++ entM l[k] := by
  unfold foldM
  rw [List.take_succ_eq_append_getElem h, entM_tx, mk_append, List.flatMap_append]
  simp only [List.flatMap_cons, List.flatMap_nil, List.append_nil, List.cons_append]
theorem foldM_size {l : List En} (h : entsV l = true) (k : Nat) : (foldM (l.take k)).size ≤ 49 := by
  have h2 := foldB_len (entsV_sub h (List.take_sublist k l))
  unfold foldB at h2
  unfold foldM; rw [mk_size]; exact h2
theorem cat4 (x a b c d : ByteArray) : x ++ (a ++ b ++ c ++ d) = x ++ a ++ b ++ c ++ d := by simp [ByteArray.append_assoc]
set_option maxHeartbeats 4000000 in
set_option maxRecDepth 100000 in
theorem sFolderText_any (A : Option Addr) (c : Nat) (l : List En) (w : World) (hs : Sl w encE 2 A l) (hl : l.length ≤ 16777216) (hf : FitE l) :
    Calls Tryd.prog 67 #[.slice A l.length c] w fun e w' => e = .returned (.string (mk (foldT l))) ∧ Below w.heap.size w w' := by
  have HS := Lib.hid hs
  have HF := Lib.hid hf
  have hsv := fun w h => sEntriesValid_any A c l w h hl hf
  clear hs hf
  cases hv : entsV l
  · have E := Lib.hid (show mk (foldT l) = ⟨#[]⟩ by unfold foldT; rw [hv]; rfl)
    rw [hv] at hsv
    have HSV := Lib.hid hsv
    clear hsv hv
    rw [E.out]
    go_enter Tryd.func67, Tryd.ntmps67
    go_wp2_with fail
    refine (HSV.out _ HS.out).mono ?_
    rintro e w1 ⟨rfl, hb⟩
    have HB := Lib.hid hb
    clear hb
    go_wp2
    go_ret
    exact ⟨rfl, HB.out⟩
  · have E := Lib.hid (show mk (foldT l) = foldM l by unfold foldT; rw [hv]; rfl)
    rw [hv] at hsv
    have HSV := Lib.hid hsv
    have HSZ := Lib.hid (foldM_size hv)
    have hl3 := entsV_len hv
    clear hsv hv
    rw [E.out]
    go_enter Tryd.func67, Tryd.ntmps67
    go_wp2_with fail
    refine (HSV.out _ HS.out).mono ?_
    rintro e w1 ⟨rfl, hb⟩
    have HB := Lib.hid hb
    have HS1 := Lib.hid (HS.out.below hb)
    clear hb
    go_wp2_with fail
    go_loopw [3, 4] (fun v i wr => ∃ (k : Nat) (acc : ByteArray), k ≤ l.length ∧ i = .int .i64 k ∧ v = .string acc ∧ Hid (acc = foldM (l.take k)) ∧ Hid (Below w1.heap.size w1 wr)) (fun _ i _ => l.length - (intOf i).toNat)
    case atStart => exact ⟨0, _, Nat.zero_le _, rfl, rfl, rfl, Below.refl _ _⟩
    case round =>
      obtain ⟨k, acc, hk, rfl, rfl, HA, HBW⟩ := hrel
      by_cases hlt : k < l.length
      · obtain ⟨b, o, rfl, hc0, hc1⟩ := (HS1.out.below HBW.out).getE hlt
        have hst := foldM_take hlt
        have hacc : acc.size ≤ 49 := by rw [HA.out]; exact HSZ.out k
        have hfk : l[k].1.size ≤ 16777216 := HF.out.at hlt
        generalize l[k] = p at *
        obtain ⟨t, a⟩ := p
        simp only at *
        have hz1 : (mk (hexT a)).size ≤ 6 := by rw [mk_size]; exact hexT_len a
        have hz0 : (acc ++ t).size ≤ 16777265 := by rw [ByteArray.size_append]; omega
        have hz2 : (acc ++ t ++ ⟨#[61]⟩).size ≤ 16777266 := by rw [ByteArray.size_append]; exact Nat.add_le_add_right hz0 1
        have hz3 : (acc ++ t ++ ⟨#[61]⟩ ++ mk (hexT a)).size ≤ 16777272 := by rw [ByteArray.size_append]; exact Nat.add_le_add hz2 hz1
        have hq0 := str_add (x := acc) (y := t) (by omega) (by omega)
        have hq1 := str_add (x := acc ++ t) (y := ⟨#[61]⟩) (by omega) (by simp [ByteArray.size])
        have hq2 := str_add (x := acc ++ t ++ ⟨#[61]⟩) (y := mk (hexT a)) (by omega) (by omega)
        have hq3 := str_add (x := acc ++ t ++ ⟨#[61]⟩ ++ mk (hexT a)) (y := ⟨#[59]⟩) (by omega) (by simp [ByteArray.size])
        have HH := Lib.hid (fun w => sHexText_any a w)
        have HN := Lib.hid (show acc ++ t ++ ⟨#[61]⟩ ++ mk (hexT a) ++ ⟨#[59]⟩ = foldM (l.take (k + 1)) by rw [hst, HA.out, ← cat4]; rfl)
        replace hc0 := far_cell hc0
        replace hc1 := far_cell hc1
        clear hst
        go_wp2
        refine wp_region_far (by kernel_rfl) (by kernel_rfl) ?_
        repeat (go_big_quiet_step ((go_at_call 35; exact far_same (HH.out _))))
        refine wpQuiet_nil ?_
        intro _ hwF
        obtain ⟨pF, hwF⟩ := hwF
        subst hwF
        have HB5 := Lib.hid (Below_then HBW.out (far_below _ pF) (Nat.le_refl _))
        generalize far _ pF = wF at *
        clear hc0 hc1
        go_wp2
        go_roundw
        case rel => exact ⟨k + 1, _, by omega, by go_num, rfl, HN.out, HB5.out⟩
        case measure => simp [intOf]; omega
      · have HE := Lib.hid (show acc = foldM l by rw [HA.out, List.take_of_length_le (by omega)])
        have HB2 := Lib.hid (Below_then HB.out HBW.out (Nat.le_refl _))
        go_wp2
        go_ret
        exact ⟨ret_str HE.out, HB2.out⟩
end Go.Proofs.YtaeaccakkielmaaDoor

/- CutPrefix at a byte; ReadFolder of the program, walked. -/
set_option linter.unusedVariables false
namespace Go.Proofs.YtaeaccakkielmaaDoor
open Go.RowKit
theorem bs_ne_nil {s : ByteArray} (h : 0 < s.size) : bs s ≠ [] := fun e => by have := size_bs s; rw [e] at this; simp at this; omega
theorem drop1_ext (s : ByteArray) : s.extract 1 s.size = mk ((bs s).tail) := by
  apply ByteArray.ext
  apply Array.ext'
  rw [Lib.extract_data]
  show ((bs s).drop 1).take _ = (bs s).tail
  rw [List.drop_one]
  exact List.take_of_length_le (by rw [List.length_tail]; exact Nat.le_refl _)
theorem take1_ext (s : ByteArray) (h : 0 < s.size) : s.extract 0 1 = mk [s[0]] := by
  apply ByteArray.ext
  apply Array.ext'
  rw [Lib.extract_data]
  show ((bs s).drop 0).take (1 - 0) = [s[0]]
  rw [List.drop_zero, Nat.sub_zero]
  have hp : 0 < (bs s).length := h
  cases hb : bs s with
  | nil => rw [hb] at hp; simp at hp
  | cons x r =>
    have : (bs s)[0] = s[0] := rfl
    simp only [hb, List.getElem_cons_zero] at this
    rw [this]; rfl
def prefV (c : UInt8) (s : ByteArray) : Value := if 0 < s.size ∧ (bs s).headD 0 = c then .tuple #[.string (mk ((bs s).tail)), .bool true] else .tuple #[.string s, .bool false]
theorem head_bs0 {s : ByteArray} (h : 0 < s.size) : (bs s).headD 0 = s[0] := by
  have hp : 0 < (bs s).length := h
  have e : (bs s)[0] = s[0] := rfl
  rw [← e, List.headD_eq_head?_getD, List.head?_eq_getElem?, List.getElem?_eq_getElem hp]; rfl
set_option maxHeartbeats 1000000 in
set_option maxRecDepth 100000 in
theorem hasPre_any (s : ByteArray) (c : UInt8) (w : World) (hs : s.size ≤ 16777216) : Calls Tryd.prog 78 #[.string s, .string ⟨#[c]⟩] w fun e w' => e = .returned (.bool (decide (0 < s.size ∧ (bs s).headD 0 = c))) ∧ w = w' := by
  have h1 : (⟨#[c]⟩ : ByteArray).size = 1 := rfl
  by_cases h0 : 0 < s.size
  · have hz : 1 ≤ s.size := h0
    have hx := take1_ext s h0
    have hb := head_bs0 h0
    by_cases he : s[0] = c
    · have E := Lib.hid (show decide (0 < s.size ∧ (bs s).headD 0 = c) = true from decide_eq_true ⟨h0, hb.trans he⟩)
      have heq : ((s.extract 0 1).toList == [c]) = true := by rw [ByteArray.toList_eq, hx, he]; exact beq_self_eq_true _
      clear hx hb he
      rw [E.out]
      go_enter Tryd.func78, Tryd.ntmps78
      go_wp2
      go_ret
      exact ⟨rfl, rfl⟩
    · have E := Lib.hid (show decide (0 < s.size ∧ (bs s).headD 0 = c) = false from decide_eq_false (fun h => he (hb.symm.trans h.2)))
      have heq : ((s.extract 0 1).toList == [c]) = false := by
        rw [ByteArray.toList_eq, hx, beq_eq_false_iff_ne]; intro e
        have e' : [s[0]] = [c] := e
        injection e' with e' _; exact he e'
      clear hx hb he
      rw [E.out]
      go_enter Tryd.func78, Tryd.ntmps78
      go_wp2
      go_ret
      exact ⟨rfl, rfl⟩
  · have E := Lib.hid (show decide (0 < s.size ∧ (bs s).headD 0 = c) = false from decide_eq_false (fun h => h0 h.1))
    have hz : ¬ 1 ≤ s.size := by omega
    rw [E.out]
    go_enter Tryd.func78, Tryd.ntmps78
    go_wp2
    go_ret
    exact ⟨rfl, rfl⟩
set_option maxHeartbeats 1000000 in
set_option maxRecDepth 100000 in
theorem cutPre_any (s : ByteArray) (c : UInt8) (w : World) (hs : s.size ≤ 16777216) : Calls Tryd.prog 64 #[.string s, .string ⟨#[c]⟩] w fun e w' => e = .returned (prefV c s) ∧ w = w' := by
  have hH := fun w => hasPre_any s c w hs
  have h1 : (⟨#[c]⟩ : ByteArray).size = 1 := rfl
  by_cases h0 : 0 < s.size ∧ (bs s).headD 0 = c
  · have E := Lib.hid (show prefV c s = .tuple #[.string (mk ((bs s).tail)), .bool true] by unfold prefV; rw [if_pos h0])
    rw [decide_eq_true h0] at hH
    have HH := Lib.hid hH
    have hx := drop1_ext s
    have hz : 1 ≤ s.size := h0.1
    clear hH h0
    rw [E.out]
    go_enter Tryd.func64, Tryd.ntmps64
    go_wp2_with (go_at_call 78; refine (HH.out _).mono ?_; rintro e w' ⟨rfl, rfl⟩)
    go_ret2
    exact ⟨rfl, rfl⟩
  · have E := Lib.hid (show prefV c s = .tuple #[.string s, .bool false] by unfold prefV; rw [if_neg h0])
    rw [decide_eq_false h0] at hH
    have HH := Lib.hid hH
    clear hH h0
    rw [E.out]
    go_enter Tryd.func64, Tryd.ntmps64
    go_wp2_with (go_at_call 78; refine (HH.out _).mono ?_; rintro e w' ⟨rfl, rfl⟩)
    go_ret2
    exact ⟨rfl, rfl⟩
set_option maxHeartbeats 1000000 in
set_option maxRecDepth 100000 in
theorem CutPrefix_any (s : ByteArray) (c : UInt8) (w : World) (hs : s.size ≤ 16777216) : Calls Tryd.prog 48 #[.string s, .string ⟨#[c]⟩] w fun e w' => e = .returned (prefV c s) ∧ w = w' := by
  have hH := fun w => cutPre_any s c w hs
  unfold prefV at *
  by_cases h0 : 0 < s.size ∧ (bs s).headD 0 = c
  · simp only [if_pos h0] at hH ⊢
    have HH := Lib.hid hH
    clear hH h0
    go_enter Tryd.func48, Tryd.ntmps48
    go_wp2_with (go_at_call 64; refine (HH.out _).mono ?_; rintro e w' ⟨rfl, rfl⟩)
    go_ret2
    exact ⟨rfl, rfl⟩
  · simp only [if_neg h0] at hH ⊢
    have HH := Lib.hid hH
    clear hH h0
    go_enter Tryd.func48, Tryd.ntmps48
    go_wp2_with (go_at_call 64; refine (HH.out _).mono ?_; rintro e w' ⟨rfl, rfl⟩)
    go_ret2
    exact ⟨rfl, rfl⟩
theorem fitE_nil' : FitE [] := fun p hp => absurd hp List.not_mem_nil
def RfRes (r : Option (List En)) (w : World) (e : Ending) (w' : World) : Prop := ∃ v, e = .returned (.tuple #[v, .bool r.isSome]) ∧ Own w' w.heap.size 109 2 encE v (r.getD []) ∧ Below w.heap.size w w'
theorem RfRes.no {r : Option (List En)} (h : r = none) {w w' : World} (hb : Below w.heap.size w w') : RfRes r w (.returned (.tuple #[.slice none 0 0, .bool false])) w' := by
  subst h; exact ⟨_, rfl, Own.nil, hb⟩
theorem RfRes.yes {r : Option (List En)} {l : List En} (h : r = some l) {w w' : World} {v : Value} (ho : Own w' w.heap.size 109 2 encE v l) (hb : Below w.heap.size w w') : RfRes r w (.returned (.tuple #[v, .bool true])) w' := by
  subst h; exact ⟨_, rfl, ho, hb⟩
theorem readF_head {s : ByteArray} (h : ¬ (0 < s.size ∧ (bs s).headD 0 = 100)) : readF (bs s) = none := readF_none fun l _ e => by
  apply h
  have h2 := size_bs s
  rw [← e] at h2 ⊢
  unfold foldB at h2 ⊢
  rw [List.length_cons] at h2
  exact ⟨by omega, rfl⟩
end Go.Proofs.YtaeaccakkielmaaDoor

/- JoinPath and PathParts of the program: the library's Join and SplitN at a slash. -/
set_option linter.unusedVariables false
namespace Go.Proofs.YtaeaccakkielmaaDoor
open Go.RowKit
--BEGIN
theorem splitS_len (s : Bs) : 1 ≤ (splitS 47 s).length ∧ (splitS 47 s).length ≤ s.length + 1 := by
  induction s with
  | nil => simp [splitS]
  | cons c r ih =>
    rw [splitS]
    split
    · simp; omega
    · split
      · rename_i p ps h; rw [h] at ih; simp at ih ⊢; omega
      · simp
theorem splitK_splitS : ∀ (s : Bs) (k : Nat), (splitS 47 s).length ≤ k + 1 → Go.Lib.splitK [47] 0 k s = splitS 47 s
  | [], k, _ => by cases k <;> simp [Go.Lib.splitK, splitS, index_nil]
  | c :: r, k, h => by
    rw [splitS] at h ⊢
    by_cases e : c = 47
    · subst e
      rw [if_pos rfl] at h ⊢
      have := (splitS_len r).1
      cases k with
      | zero => rw [List.length_cons] at h; omega
      | succ k => rw [splitK_hit, splitK_splitS r k (by simpa using h)]
    · rw [if_neg e] at h ⊢
      rw [splitK_skip e, splitK_splitS r k ?_]
      · cases hs : splitS 47 r with
        | nil => exact absurd hs (splitS_ne 47 r)
        | cons p ps => rfl
      · cases hs : splitS 47 r with
        | nil => exact absurd hs (splitS_ne 47 r)
        | cons p ps => rw [hs] at h; simpa using h
def partsB (s : ByteArray) : List ByteArray := Go.Lib.splitB ⟨#[47]⟩ 0 (min 4 (s.size + 1) - 1) s
theorem partsB_map (s : ByteArray) : (partsB s).map bs = Go.Lib.splitK [47] 0 (min 4 (s.size + 1) - 1) (bs s) := Go.Lib.splitB_data ⟨#[47]⟩ 0 _ s
theorem partsB_len (s : ByteArray) : (partsB s).length ≤ min 4 (s.size + 1) := by
  have := Go.Lib.splitB_length_le ⟨#[47]⟩ 0 (min 4 (s.size + 1) - 1) s
  unfold partsB; omega
theorem pathP_back {s : Bs} {ps : List Bs} (h0 : s ≠ []) (h : joinP ps = s) : pathP s = some ps := by
  cases hv : partsV ps
  · unfold joinP at h; rw [hv] at h; exact absurd h.symm h0
  · rw [← h]; exact pathP_of hv
theorem path_parts {r : ByteArray} {s : Bs} (hs : s = 47 :: bs r) (h1 : s ≠ [47]) : (pathP s).isSome = decide (joinP ((partsB r).map bs) = s) := by
  have h0 : s ≠ [] := by rw [hs]; simp
  by_cases hj : joinP ((partsB r).map bs) = s
  · rw [pathP_back h0 hj, decide_eq_true hj]; rfl
  · rw [decide_eq_false hj]
    unfold pathP
    rw [if_neg h1, hs]
    rw [List.headD_cons, List.tail_cons, if_pos rfl]
    by_cases hv : partsV (splitS 47 (bs r)) = true
    case neg => rw [if_neg hv]; rfl
    case pos =>
      exfalso
      apply hj
      have hl := (partsV_iff.1 hv).1
      have h2 := (splitS_len (bs r)).2
      have h3 := size_bs r
      rw [partsB_map, splitK_splitS _ _ (by omega)]
      unfold joinP
      rw [hv, if_pos rfl, if_neg (splitS_ne _ _), joinB_split, hs]
theorem joinB_join (p : Bs) (r : List Bs) : 47 :: Go.Lib.join (p :: r) [47] = joinB (p :: r) := by
  induction r generalizing p with
  | nil => rw [Go.Lib.join_one]; simp [joinB]
  | cons q t ih =>
    have e : Go.Lib.join (p :: q :: t) [47] = p ++ 47 :: Go.Lib.join (q :: t) [47] := by simp [Go.Lib.join, List.intercalate]
    rw [e, ih q]; simp [joinB]
theorem joinB_size : ∀ (l : List ByteArray), (∀ p ∈ l, p.size ≤ 8) → (joinB (l.map bs)).length ≤ 9 * l.length
  | [], _ => by simp [joinB]
  | p :: r, h => by
    have ih := joinB_size r fun x hx => h x (by simp [hx])
    have hp := h p (by simp)
    have e : joinB ((p :: r).map bs) = 47 :: (bs p ++ joinB (r.map bs)) := by simp [joinB]
    rw [e, List.length_cons, List.length_append, List.length_cons, size_bs]
    omega
def joinT (l : List ByteArray) : ByteArray := mk (Go.Lib.join (l.map bs) [47])
theorem joinT_all {l : List ByteArray} (h3 : l.length ≤ 3) (h : ∀ j (hj : j < l.length), wordV (bs l[j]) = true) : mk [47] ++ joinT l = mk (joinP (l.map bs)) := by
  unfold joinP joinT
  rw [joinP_good h3 h, if_pos rfl, mk_append]
  cases l with
  | nil => rfl
  | cons p r => rw [if_neg (by simp)]; exact congrArg mk (joinB_join (bs p) (r.map bs))
theorem joinT_size {l : List ByteArray} (h3 : l.length ≤ 3) (h : ∀ p ∈ l, p.size ≤ 8) : (joinT l).size ≤ 27 := by
  unfold joinT
  rw [mk_size]
  cases l with
  | nil => simp [Go.Lib.join, List.intercalate]
  | cons p r =>
    have h1 := congrArg List.length (joinB_join (bs p) (r.map bs))
    have h2 := joinB_size (p :: r) h
    rw [List.length_cons] at h1
    simp only [List.map_cons, List.length_cons] at h1 h2 h3 ⊢
    omega
--END
theorem cell_lt {w : World} {b o : Nat} {v : Value} (h : w.cell? ⟨b, o, none⟩ = some v) : b < w.heap.size := by
  by_cases hb : b < w.heap.size
  · exact hb
  · have : w.heap[b]? = none := Array.getElem?_eq_none (by omega)
    simp [World.cell?, this] at h
theorem Join_any (A : Option Addr) (c : Nat) (l : List ByteArray) (w : World) (hs : Sl w encS 1 A l) (hle : l.length ≤ c) (h3 : l.length ≤ 3) (hf : ∀ p ∈ l, p.size ≤ 8) :
    Calls Tryd.prog 66 #[.slice A l.length c, .string ⟨#[47]⟩] w fun e w' => e = .returned (.string (joinT l)) ∧ Below w.heap.size w w' := by
  cases l with
  | nil => exact (Tryd.strings_Join_none A c ⟨#[47]⟩ w).mono fun e w' ⟨h1, h2⟩ => ⟨by rw [h1]; rfl, by rw [h2]; exact Below.refl _ _⟩
  | cons p r =>
    have hz := joinT_size h3 hf
    obtain ⟨b, o, rfl, hc0⟩ := hs.getS (k := 0) (by simp)
    refine (Tryd.strings_Join b o c (p :: r) ⟨#[47]⟩ w (fun j x hx => ?_) (cell_lt hc0) (by simp at h3 ⊢; omega) hle ?_).mono fun e w' h => ⟨h.1, h.2⟩
    · obtain ⟨hj, rfl⟩ := List.getElem?_eq_some_iff.1 hx
      obtain ⟨b2, o2, e, hc⟩ := hs.getS hj
      injection e with e; injection e with e1 e2
      subst e1 e2; exact hc
    · unfold joinT at hz
      rw [mk_size] at hz
      have e : (Go.Lib.join ((p :: r).map (·.data.toList)) (⟨#[47]⟩ : ByteArray).data.toList).length = (Go.Lib.join ((p :: r).map bs) [47]).length := rfl
      omega
theorem SplitN_any (s : ByteArray) (w : World) (hs : s.size ≤ 16777216) (hm : MaxL w) : Calls Tryd.prog 49 #[.string s, .string ⟨#[47]⟩, .int .i64 4] w fun e w' =>
    ∃ A c, e = .returned (.slice A (partsB s).length c) ∧ (partsB s).length ≤ c ∧ Sl w' encS 1 A (partsB s) ∧ Below w.heap.size w w' := by
  obtain ⟨m, hm⟩ := hm
  refine (Tryd.strings_SplitN s ⟨#[47]⟩ 4 m w (by omega) hm (by decide) (by decide) (by decide)).mono fun e w' ⟨h1, h2⟩ => ?_
  refine ⟨_, _, h1, partsB_len s, ?_, by rw [h2]; exact (Below.refl _ _).alloc (Nat.le_refl _) _⟩
  intro _
  refine ⟨w.heap.size, 0, rfl, fun j u hu => ?_⟩
  rw [h2, cell_of_row _ _ _ _ _ (0, 0) (heap_alloc_new w _)]
  rw [Nat.zero_add]
  have e : ∀ l : List ByteArray, flat encS l = l.map Value.string := fun l => by
    unfold flat
    induction l with
    | nil => rfl
    | cons x r ih => rw [List.flatMap_cons, ih]; rfl
  rw [e] at hu
  have hj := (List.getElem?_eq_some_iff.1 hu).1
  unfold partsB at hu hj
  unfold Go.Lib.cellsOf
  rw [List.getElem?_toArray, List.getElem?_append_left hj]
  exact hu
set_option maxHeartbeats 2000000 in
set_option maxRecDepth 100000 in
theorem iJoinPath_any (A : Option Addr) (c : Nat) (l : List ByteArray) (w : World) (hs : Sl w encS 1 A l) (hle : l.length ≤ c) (hl : l.length ≤ 16777216) (hf : ∀ p ∈ l, p.size ≤ 16777216) :
    Calls Tryd.prog 50 #[.slice A l.length c] w fun e w' => e = .returned (.string (mk (joinP (l.map bs)))) ∧ Below w.heap.size w w' := by
  have HS := Lib.hid hs
  have HF := Lib.hid hf
  by_cases h3 : 3 < l.length
  · have E := Lib.hid (joinP_long h3)
    rw [E.out, mk_nil]
    have h3' : (3 : Int) < (l.length : Int) := by omega
    clear hs hf
    go_enter Tryd.func50, Tryd.ntmps50
    go_wp2
    go_ret
    exact ⟨rfl, Below.refl _ _⟩
  · have h3b : ¬ (3 : Int) < (l.length : Int) := by omega
    have HB := Lib.hid (fun k (hk : k < l.length) h => @joinP_bad l k hk h)
    have HJN := Lib.hid (fun h8 => Join_any A c l w hs hle (by omega) h8)
    have HE := Lib.hid (@joinT_all l (by omega))
    have HZ := Lib.hid (@joinT_size l (by omega))
    generalize joinT l = T at *
    generalize hJ : mk (joinP (l.map bs)) = J at *
    have HJ := Lib.hid hJ
    clear hJ hs hf
    go_enter Tryd.func50, Tryd.ntmps50
    go_wp2
    go_loop [10] (fun i => ∃ (k : Nat), k ≤ l.length ∧ i = .int .i64 k ∧ Hid (∀ j (h : j < l.length), j < k → wordV (bs l[j]) = true)) (fun i => l.length - (intOf i).toNat)
    case atStart => exact ⟨0, Nat.zero_le _, rfl, fun j h h2 => by omega⟩
    case round =>
      obtain ⟨k, hk, rfl, HH⟩ := hrel
      by_cases hlt : k < l.length
      · obtain ⟨b, o, rfl, hc⟩ := HS.out.getS hlt
        have hzp := HF.out _ (List.getElem_mem hlt)
        have HBk := Lib.hid (fun h => HB.out k hlt h)
        have HSTk := Lib.hid (fun (h : wordV (bs l[k]) = true) => show ∀ j (hj : j < l.length), j < k + 1 → wordV (bs l[j]) = true from fun j hj h2 => by
          by_cases e : j = k
          · subst e; exact h
          · exact HH.out j hj (by omega))
        generalize l[k] = p at *
        have hW := fun w => iWordValid_any p w hzp
        cases hw : wordV (bs p)
        · have HN := Lib.hid (show J = ⟨#[]⟩ by rw [← HJ.out, HBk.out hw]; rfl)
          rw [hw] at hW
          have HW := Lib.hid hW
          clear hW hw HSTk HBk
          go_wp2_with (go_at_call 32; refine (HW.out _).mono ?_; rintro e w' ⟨rfl, rfl⟩)
          go_ret
          rw [HN.out]
          exact ⟨rfl, Below.refl _ _⟩
        · have HN := Lib.hid (HSTk.out hw)
          rw [hw] at hW
          have HW := Lib.hid hW
          clear hW hw HSTk HBk
          go_wp2_with (go_at_call 32; refine (HW.out _).mono ?_; rintro e w' ⟨rfl, rfl⟩)
          go_round
          case rel => exact ⟨k + 1, by omega, by go_num, HN.out⟩
          case measure => simp [intOf]; omega
      · have hall := fun j (hj : j < l.length) => HH.out j hj (by omega)
        have h8 : ∀ p ∈ l, p.size ≤ 8 := fun p hp => by
          obtain ⟨i, hi, rfl⟩ := List.getElem_of_mem hp
          exact word_size (hall i hi)
        have HN := Lib.hid (show J = ⟨#[47]⟩ ++ T from (HE.out hall).symm)
        have hz := HZ.out h8
        have HJ8 := Lib.hid (HJN.out h8)
        clear hall h8
        go_wp2_with fail
        refine HJ8.out.mono ?_
        rintro e w2 ⟨rfl, hb⟩
        have HB2 := Lib.hid hb
        clear hb
        go_wp2
        go_ret
        rw [HN.out]
        exact ⟨rfl, HB2.out⟩
end Go.Proofs.YtaeaccakkielmaaDoor

/- PathParts and QuotasValid of the program, walked. -/
set_option linter.unusedVariables false
namespace Go.Proofs.YtaeaccakkielmaaDoor
open Go.RowKit
theorem pre_yes (r : Bs) : Go.Lib.hasPrefix (47 :: r) [47] = true ∧ Go.Lib.trimPrefix (47 :: r) [47] = r := by
  constructor
  · simp [Go.Lib.hasPrefix]
  · simp [Go.Lib.trimPrefix, Go.Lib.hasPrefix]
theorem pre_no {s : Bs} (h : s.headD 0 ≠ 47) : Go.Lib.hasPrefix s [47] = false := by
  cases s with
  | nil => rfl
  | cons x r =>
    simp at h
    have h2 : ((47 : UInt8) == x) = false := beq_eq_false_iff_ne.2 (fun e => h (Eq.symm e))
    show ((47 : UInt8) == x && ([] : Bs).isPrefixOf r) = false
    rw [h2]; rfl
theorem path_head {s : Bs} (h1 : s ≠ [47]) (h : s.headD 0 ≠ 47) : pathP s = none := by
  unfold pathP; rw [if_neg h1, if_neg h]
theorem head_cons {s : ByteArray} (h : (bs s).headD 0 = 47) : ∃ r : ByteArray, bs s = 47 :: bs r ∧ r.size ≤ s.size := by
  cases hs : bs s with
  | nil => rw [hs] at h; exact absurd h (by decide)
  | cons x r =>
    rw [hs] at h; simp at h; subst h
    refine ⟨mk r, rfl, ?_⟩
    have := size_bs s
    rw [hs] at this; rw [mk_size]; simp at this; omega
theorem CutSl_yes {s r : ByteArray} (w : World) (h : bs s = 47 :: bs r) : Calls Tryd.prog 48 #[.string s, .string ⟨#[47]⟩] w fun e w' => e = .returned (.tuple #[.string r, .bool true]) ∧ w = w' := by
  refine (Tryd.strings_CutPrefix s ⟨#[47]⟩ w).mono fun e w' ⟨h1, h2⟩ => ⟨?_, h2.symm⟩
  rw [h1]
  have e1 : s.data.toList = 47 :: bs r := h
  rw [e1]
  have h3 := pre_yes (bs r)
  rw [show (⟨#[47]⟩ : ByteArray).data.toList = [47] from rfl, h3.1, h3.2]
theorem CutSl_no {s : ByteArray} (w : World) (h : (bs s).headD 0 ≠ 47) : Calls Tryd.prog 48 #[.string s, .string ⟨#[47]⟩] w fun e w' => (∃ x, e = .returned (.tuple #[.string x, .bool false])) ∧ w = w' := by
  refine (Tryd.strings_CutPrefix s ⟨#[47]⟩ w).mono fun e w' ⟨h1, h2⟩ => ⟨?_, h2.symm⟩
  rw [h1]
  have h3 := pre_no h
  rw [show (⟨#[47]⟩ : ByteArray).data.toList = [47] from rfl, h3]
  exact ⟨_, rfl⟩
theorem splitK_size : ∀ (s : Bs) (k : Nat) (p : Bs), p ∈ Go.Lib.splitK [47] 0 k s → p.length ≤ s.length
  | [], k, p, hp => by
    have e : Go.Lib.splitK [47] 0 k [] = [[]] := by cases k <;> simp [Go.Lib.splitK, index_nil]
    rw [e] at hp; rw [List.mem_singleton.1 hp]; exact Nat.le_refl _
  | c :: r, k, p, hp => by
    by_cases e : c = 47
    · subst e
      cases k with
      | zero =>
        have e : Go.Lib.splitK [47] 0 0 (47 :: r) = [47 :: r] := rfl
        rw [e] at hp; rw [List.mem_singleton.1 hp]; exact Nat.le_refl _
      | succ k =>
        rw [splitK_hit] at hp
        rcases List.mem_cons.1 hp with h | h
        · rw [h]; exact Nat.zero_le _
        · exact Nat.le_trans (splitK_size r k p h) (Nat.le_succ _)
    · rw [splitK_skip e] at hp
      have ih := splitK_size r k
      cases hs : Go.Lib.splitK [47] 0 k r with
      | nil => exact absurd hs (splitK_ne _ _ _)
      | cons q t =>
        rw [hs] at hp ih
        rcases List.mem_cons.1 hp with h | h
        · rw [h, List.length_cons, List.length_cons]; exact Nat.succ_le_succ (ih q (by simp))
        · exact Nat.le_trans (ih p (by simp [h])) (Nat.le_succ _)
theorem partsB_size {r p : ByteArray} (h : p ∈ partsB r) : p.size ≤ r.size := by
  have h2 : bs p ∈ (partsB r).map bs := List.mem_map.2 ⟨p, h, rfl⟩
  rw [partsB_map] at h2
  exact splitK_size _ _ _ h2
def PathI (s : ByteArray) (w : World) (e : Ending) (w' : World) : Prop := ∃ v, e = .returned (.tuple #[v, .bool (pathP (bs s)).isSome]) ∧ Below w.heap.size w w'
/-- The program's PathParts: the parts, as a slice, and whether there are some. -/
def PathS (s : ByteArray) (w : World) (e : Ending) (w' : World) : Prop :=
  ∃ (l : List ByteArray) (A : Option Addr) (c : Nat), l = ((pathP (bs s)).getD []).map mk ∧ e = .returned (.tuple #[.slice A l.length c, .bool (pathP (bs s)).isSome]) ∧ l.length ≤ c ∧ Sl w' encS 1 A l ∧ Below w.heap.size w w'
theorem PathS.bool {s : ByteArray} {w w' : World} {e : Ending} (h : PathS s w e w') : PathI s w e w' := by
  obtain ⟨l, A, c, _, rfl, _, _, hb⟩ := h
  exact ⟨_, rfl, hb⟩
theorem PathS.no {s : ByteArray} {w w' : World} (h : pathP (bs s) = none) (hb : Below w.heap.size w w') : PathS s w (.returned (.tuple #[.slice none 0 0, .bool false])) w' := by
  refine ⟨[], none, 0, by rw [h]; rfl, by rw [h]; rfl, Nat.le_refl _, Sl.none_, hb⟩
theorem PathS.root {s : ByteArray} {w w' : World} (h : pathP (bs s) = some []) (hb : Below w.heap.size w w') : PathS s w (.returned (.tuple #[.slice none 0 0, .bool true])) w' := by
  refine ⟨[], none, 0, by rw [h]; rfl, by rw [h]; rfl, Nat.le_refl _, Sl.none_, hb⟩
theorem map_mk_bs (l : List ByteArray) : (l.map bs).map mk = l := by
  rw [List.map_map]
  exact (List.map_congr_left fun x _ => mk_tx x).trans (List.map_id _)
theorem PathS.yes {s : ByteArray} {l : List ByteArray} {w w' : World} {A : Option Addr} {c : Nat} (h : pathP (bs s) = some (l.map bs)) (hle : l.length ≤ c) (hsl : Sl w' encS 1 A l) (hb : Below w.heap.size w w') : PathS s w (.returned (.tuple #[.slice A l.length c, .bool true])) w' := by
  refine ⟨l, A, c, by rw [h, Option.getD_some, map_mk_bs], by rw [h]; rfl, hle, hsl, hb⟩
theorem path_parts_no {r : ByteArray} {s : Bs} (hs : s = 47 :: bs r) (h1 : s ≠ [47]) (h : ¬ joinP ((partsB r).map bs) = s) : pathP s = none := by
  have := path_parts hs h1
  rw [decide_eq_false h] at this
  cases hp : pathP s with
  | none => rfl
  | some x => rw [hp] at this; cases this
set_option maxHeartbeats 4000000 in
set_option maxRecDepth 100000 in
theorem iPathPartsS_any (s : ByteArray) (w : World) (hs : s.size ≤ 1048576) (hm : MaxL w) : Calls Tryd.prog 28 #[.string s] w (PathS s w) := by
  cases h1 : (s.toList == [47])
  case true =>
    have hE : bs s = [47] := by rw [ByteArray.toList_eq] at h1; exact beq_iff_eq.1 h1
    have HE := Lib.hid (show pathP (bs s) = some [] by rw [hE]; decide)
    clear hE
    go_enter Tryd.func28, Tryd.ntmps28
    go_wp2
    go_ret2
    exact PathS.root HE.out (Below.refl _ _)
  case false =>
    have hne47 : bs s ≠ [47] := fun e => by rw [ByteArray.toList_eq] at h1; change (bs s == [47]) = false at h1; rw [e] at h1; cases h1
    by_cases hh : (bs s).headD 0 = 47
    case neg =>
      have HE := Lib.hid (path_head hne47 hh)
      have HC := Lib.hid (fun w => CutSl_no w hh)
      clear hne47 hh
      go_enter Tryd.func28, Tryd.ntmps28
      go_wp2_with fail
      refine (HC.out _).mono ?_
      rintro e w2 ⟨⟨x, rfl⟩, rfl⟩
      go_wp2
      go_ret2
      exact PathS.no HE.out (Below.refl _ _)
    case pos =>
      obtain ⟨r, hr, hrz⟩ := head_cons hh
      have hnn : bs s ≠ [] := by rw [hr]; simp
      have hNo := path_parts_no hr hne47
      have HC := Lib.hid (fun w => CutSl_yes w hr)
      have HSP := Lib.hid (SplitN_any r w (by omega) hm)
      have hpl := partsB_len r
      have hpz : ∀ p ∈ partsB r, p.size ≤ 16777216 := fun p hp => by
        have := partsB_size hp; omega
      have HJ := Lib.hid (fun A c w h h2 => iJoinPath_any A c (partsB r) w h h2 (by omega) hpz)
      clear hne47 hh hr hpz
      generalize partsB r = P at *
      by_cases he : joinP (P.map bs) = bs s
      · have heq : ((mk (joinP (P.map bs))).toList == s.toList) = true := by rw [eq_tlx]; exact beq_iff_eq.2 he
        have HE := Lib.hid (pathP_back hnn he)
        clear hNo he hnn
        generalize mk (joinP (P.map bs)) = JJ at *
        go_enter Tryd.func28, Tryd.ntmps28
        go_wp2_with (go_at_call 48; refine (HC.out _).mono ?_; rintro e w' ⟨rfl, rfl⟩)
        refine HSP.out.mono ?_
        rintro e w2 ⟨A, c, rfl, hle, hsl, hb⟩
        have HB := Lib.hid hb
        have HS := Lib.hid hsl
        clear hb hsl
        go_wp2_with fail
        refine (HJ.out _ _ _ HS.out hle).mono ?_
        rintro e w3 ⟨rfl, hb⟩
        have HB3 := Lib.hid (Below_then HB.out hb (Nat.le_refl _))
        have HS3 := Lib.hid (HS.out.below hb)
        clear hb
        go_wp2
        go_ret2
        exact PathS.yes HE.out hle HS3.out HB3.out
      · have heq : ((mk (joinP (P.map bs))).toList == s.toList) = false := by rw [eq_tlx]; exact beq_eq_false_iff_ne.2 he
        have HE := Lib.hid (hNo he)
        clear hNo he hnn
        generalize mk (joinP (P.map bs)) = JJ at *
        go_enter Tryd.func28, Tryd.ntmps28
        go_wp2_with (go_at_call 48; refine (HC.out _).mono ?_; rintro e w' ⟨rfl, rfl⟩)
        refine HSP.out.mono ?_
        rintro e w2 ⟨A, c, rfl, hle, hsl, hb⟩
        have HB := Lib.hid hb
        have HS := Lib.hid hsl
        clear hb hsl
        go_wp2_with fail
        refine (HJ.out _ _ _ HS.out hle).mono ?_
        rintro e w3 ⟨rfl, hb⟩
        have HB3 := Lib.hid (Below_then HB.out hb (Nat.le_refl _))
        have HS3 := Lib.hid (HS.out.below hb)
        clear hb
        go_wp2
        go_ret2
        exact PathS.no HE.out HB3.out
theorem iPathParts_any (s : ByteArray) (w : World) (hs : s.size ≤ 1048576) (hm : MaxL w) : Calls Tryd.prog 28 #[.string s] w (PathI s w) :=
  (iPathPartsS_any s w hs hm).mono fun _ _ h => h.bool
set_option maxHeartbeats 4000000 in
set_option maxRecDepth 100000 in
theorem iQuotasValid_any (A : Option Addr) (c : Nat) (l : List Qt) (w : World) (hs : Sl w encQ 2 A l) (hle : l.length ≤ c) (hl : l.length ≤ 16777216) (hf : FitQ l) (hm : MaxL w) :
    Calls Tryd.prog 10 #[.slice A l.length c] w fun e w' => e = .returned (.bool (quoV l)) ∧ Below w.heap.size w w' := by
  have HS := Lib.hid hs
  have HF := Lib.hid hf
  have HMX := Lib.hid hm
  have HNO := Lib.hid (fun k (hk : k < l.length) h => @quoV_no l k hk h)
  have HALL := Lib.hid (@quoV_all l)
  have HLG := Lib.hid (@quoV_long l)
  generalize quoV l = R at *
  clear hs hf hm
  by_cases h6 : 6 < l.length
  case pos =>
    have HR := Lib.hid (HLG.out (by omega))
    have h6' : (6 : Int) < (l.length : Int) := by omega
    go_enter Tryd.func10, Tryd.ntmps10
    go_wp2
    go_ret
    exact ⟨ret_bool HR.out.symm, Below.refl _ _⟩
  case neg =>
    have h6' : ¬ (6 : Int) < (l.length : Int) := by omega
    go_enter Tryd.func10, Tryd.ntmps10
    go_wp2_with fail
    go_loopw [14] (fun i wr => ∃ (k : Nat), k ≤ l.length ∧ i = .int .i64 k ∧ Hid (∀ j, j < k → quoAt l j = true) ∧ Hid (Below w.heap.size w wr)) (fun i _ => l.length - (intOf i).toNat)
    case atStart => exact ⟨0, Nat.zero_le _, rfl, fun j h => by omega, Below.refl _ _⟩
    case round =>
      obtain ⟨k, hk, rfl, HH, HBW⟩ := hrel
      by_cases hlt : k < l.length
      · have hlt' : (k : Int) < (l.length : Int) := by omega
        obtain ⟨b, o, rfl, hc0, hc1⟩ := (HS.out.below HBW.out).getQ hlt
        have HN := Lib.hid (HNO.out k hlt)
        have hz := HF.out _ (List.getElem_mem hlt)
        have hP := fun w => iPathParts_any l[k].1 w hz
        unfold PathI at hP
        have HQ := Lib.hid (fun h => @quoAt_path l k hlt h)
        have HM := Lib.hid (fun h => @quoAt_most l k hlt h)
        have HT := Lib.hid (fun j h1 h2 => @quoAt_twice l k j hlt h1 h2)
        have HY := Lib.hid (fun h1 h2 h3 => @quoAt_yes l k hlt h1 h2 h3)
        have hq : ∃ q : Qt, q = l[k] := ⟨_, rfl⟩
        obtain ⟨q, hq⟩ := hq
        rw [← hq] at hc0 hc1 hP HQ HM HT HY
        have HEQ := Lib.hid hq
        clear hq hz
        obtain ⟨p, x⟩ := q
        simp only at *
        have HMW := Lib.hid (HMX.out.below (HBW.out.alloc HBW.out.size (.cells #[.string p, .int .i64 x] 33)))
        cases hp : (pathP (bs p)).isSome
        · have HR := Lib.hid (HN.out (HQ.out hp))
          rw [hp] at hP
          have HP := Lib.hid hP
          clear hP hp HQ HM HT HY HN
          go_wp2_with fail
          refine (HP.out _ HMW.out).mono ?_
          rintro e w2 ⟨v, rfl, hb⟩
          have HB2 := Lib.hid (Below_then HBW.out (Below_of_alloc hb) (Nat.le_refl _))
          have hx1 := box_cell hb 1 rfl
          clear hb
          go_wp2
          go_ret
          exact ⟨ret_bool HR.out.symm, HB2.out⟩
        · have HPS := Lib.hid hp
          rw [hp] at hP
          have HP := Lib.hid hP
          clear hP hp
          by_cases hx : 0 ≤ x ∧ x ≤ 1000
          case neg =>
            have HR := Lib.hid (HN.out (HM.out (by unfold inI; exact decide_eq_false hx)))
            clear HQ HM HT HY HN
            have hx3 : x < 0 ∨ (¬ x < 0 ∧ 1000 < x) := by omega
            go_wp2_with fail
            refine (HP.out _ HMW.out).mono ?_
            rintro e w2 ⟨v, rfl, hb⟩
            have HB2 := Lib.hid (Below_then HBW.out (Below_of_alloc hb) (Nat.le_refl _))
            have hx1 : w2.cell? ⟨wr.heap.size, 1, none⟩ = some (.int .i64 x) := box_cell hb 1 rfl
            clear hb
            rcases hx3 with h | ⟨h, h'⟩
            · go_wp2
              go_ret
              exact ⟨ret_bool HR.out.symm, HB2.out⟩
            · go_wp2
              go_ret
              exact ⟨ret_bool HR.out.symm, HB2.out⟩
          case pos =>
            have HYY := Lib.hid (fun h3 => HY.out HPS.out (by unfold inI; exact decide_eq_true hx) h3)
            have hxa : ¬ x < 0 := by omega
            have hxb : ¬ 1000 < x := by omega
            clear HQ HM HY hx
            have hkc : k ≤ c := by omega
            go_wp2_with fail
            refine (HP.out _ HMW.out).mono ?_
            rintro e w2 ⟨v, rfl, hb⟩
            have HB2 := Lib.hid (Below_then HBW.out (Below_of_alloc hb) (Nat.le_refl _))
            have hx0 : w2.cell? ⟨wr.heap.size, 0, none⟩ = some (.string p) := box_cell hb 0 rfl
            have hx1 : w2.cell? ⟨wr.heap.size, 1, none⟩ = some (.int .i64 x) := box_cell hb 1 rfl
            have HX0 := Lib.hid hx0
            clear hb hc0 hc1 hx0
            go_wp2_with fail
            clear hx1
            go_loopw [41] (fun i wq => ∃ (j : Nat), j ≤ k ∧ i = .int .i64 j ∧ Hid (∀ i (h : i < l.length), i < j → bs l[i].1 ≠ bs p) ∧ Hid (Below w2.heap.size w2 wq)) (fun i _ => k - (intOf i).toNat)
            case atStart => exact ⟨0, Nat.zero_le _, rfl, fun i h h2 => by omega, Below.refl _ _⟩
            case round =>
              obtain ⟨j, hj, rfl, HJ, HBJ⟩ := hrel
              have HB3 := Lib.hid (Below_then HB2.out HBJ.out (Nat.le_refl _))
              by_cases hjl : j < k
              · have hjn : j < l.length := by omega
                have hjl' : (j : Int) < (k : Int) := by omega
                obtain ⟨b2, o2, e, hy0, hy1⟩ := (HS.out.below HB3.out).getQ hjn
                injection e with e; injection e with e1 e2
                subst e1 e2
                have hx0 := Below_cells HBJ.out _ _ _ HX0.out
                have HTj := Lib.hid (fun h => HN.out (HT.out j hjl h))
                have HSj := Lib.hid (fun (h : bs l[j].1 ≠ bs p) => show ∀ i (hi : i < l.length), i < j + 1 → bs l[i].1 ≠ bs p from fun i hi h2 => by
                  by_cases e : i = j
                  · subst e; exact h
                  · exact HJ.out i hi (by omega))
                generalize l[j].1 = pj at *
                generalize l[j].2 = xj at *
                have hx0a := cell_alloc (x := .cells #[.string pj, .int .i64 xj] 33) hx0
                cases hq : (pj.toList == p.toList)
                · have hne : bs pj ≠ bs p := by rw [eq_tlx] at hq; exact beq_eq_false_iff_ne.1 hq
                  have HNX := Lib.hid (HSj.out hne)
                  clear hne HTj HSj
                  go_wp2
                  go_roundw
                  case rel => exact ⟨j + 1, by omega, by go_num, HNX.out, HBJ.out.alloc HBJ.out.size _⟩
                  case measure => simp [intOf]; omega
                · have heq : bs pj = bs p := by rw [eq_tlx] at hq; exact beq_iff_eq.1 hq
                  have HR := Lib.hid (HTj.out heq)
                  clear heq HTj HSj
                  go_wp2
                  go_ret
                  exact ⟨ret_bool HR.out.symm, HB3.out.alloc HB3.out.size _⟩
              · have hjk : ¬ (j : Int) < (k : Int) := by omega
                have HNX := Lib.hid (show ∀ j, j < k + 1 → quoAt l j = true from fun i h => by
                  by_cases e : i = k
                  · subst e; exact HYY.out (fun i hi h2 => HJ.out i hi (by omega))
                  · exact HH.out i (by omega))
                go_wp2
                go_roundw
                case rel => exact ⟨k + 1, by omega, by go_num, HNX.out, HB3.out⟩
                case measure => simp [intOf]; omega
      · have HE := Lib.hid (show R = true by rw [HALL.out (fun j h => HH.out j (by omega))]; exact decide_eq_true (by omega))
        have hlt' : ¬ (k : Int) < (l.length : Int) := by omega
        go_wp2
        go_ret
        exact ⟨ret_bool HE.out.symm, HBW.out⟩
end Go.Proofs.YtaeaccakkielmaaDoor

/- Laws of quotas, plain. -/
set_option linter.unusedVariables false
namespace Go.Proofs.YtaeaccakkielmaaDoor
open Go.RowKit
theorem quoAt_iff {l : List Qt} {k : Nat} (hk : k < l.length) : quoAt l k = true ↔ (pathP (bs l[k].1)).isSome = true ∧ inI l[k].2 0 1000 = true ∧ ∀ j (hj : j < l.length), j < k → bs l[j].1 ≠ bs l[k].1 := by
  constructor
  · intro h
    refine ⟨?_, ?_, fun j hj hjk e => ?_⟩
    · cases hp : (pathP (bs l[k].1)).isSome
      · rw [quoAt_path hk hp] at h; cases h
      · rfl
    · cases hp : inI l[k].2 0 1000
      · rw [quoAt_most hk hp] at h; cases h
      · rfl
    · rw [quoAt_twice hk hjk e] at h; cases h
  · rintro ⟨h1, h2, h3⟩; exact quoAt_yes hk h1 h2 h3
theorem quoV_iff {l : List Qt} : quoV l = true ↔ l.length ≤ 6 ∧ ∀ k, k < l.length → quoAt l k = true := by
  unfold quoV
  rw [Bool.and_eq_true, decide_eq_true_eq, List.all_eq_true]
  exact ⟨fun ⟨h1, h2⟩ => ⟨h1, fun k hk => h2 k (List.mem_range.2 hk)⟩, fun ⟨h1, h2⟩ => ⟨h1, fun k hk => h2 k (List.mem_range.1 hk)⟩⟩
/-- Without the first quota valid ones are valid. -/
theorem quoV_tail {q : Qt} {l : List Qt} (h : quoV (q :: l) = true) : quoV l = true := by
  obtain ⟨h1, h2⟩ := quoV_iff.1 h
  refine quoV_iff.2 ⟨by simp at h1; omega, fun k hk => ?_⟩
  have h3 := (quoAt_iff (l := q :: l) (k := k + 1) (by simpa using hk)).1 (h2 (k + 1) (by simpa using hk))
  refine (quoAt_iff hk).2 ⟨h3.1, h3.2.1, fun j hj hjk => ?_⟩
  exact h3.2.2 (j + 1) (by simpa using hj) (by omega)
/-- With the first quota twice quotas are not valid. -/
theorem quoV_dup (q : Qt) (l : List Qt) : quoV (q :: q :: l) = false :=
  quoV_no (k := 1) (by simp) (quoAt_twice (k := 1) (j := 0) (by simp) (by omega) rfl)
end Go.Proofs.YtaeaccakkielmaaDoor
