/- Texts in one: Rj, Fl, Vb, Zd. -/
import Derived.Test.YtokelopllbaikaaGreatDoorGb6
import Derived.Test.YtokelopllbaikaaGreatDoorGa7
import Derived.Deep.RegionHeld3
import Derived.Test.YtokelopllbaikaaGreatDoorGb2
import Derived.Test.YtokelopllbaikaaGreatDoorGc2
import Derived.Test.YtokelopllbaikaaGreatDoorSto
import Derived.Test.YtokelopllbaikaaGreatDoorGa2
/- ReadFolder of the reference, walked. -/
set_option linter.unusedVariables false
namespace Go.Proofs.YtokelopllbaikaaGreatDoor
open Go.RowKit
theorem RfRes.made {r : Option (List En)} (h : r = none) {w w' : World} (hb : Below w.heap.size w w') : RfRes r w (.returned (.tuple #[.slice (some ⟨w'.heap.size, 0, none⟩) 0 0, .bool false])) (w'.alloc (.cells #[] 70)) := by
  subst h; exact ⟨_, rfl, Own.made hb.size, hb.alloc hb.size _⟩
theorem ext_drop (s : ByteArray) (a b : Nat) : s.extract a b = mk (((bs s).drop a).take (b - a)) := by
  apply ByteArray.ext
  apply Array.ext'
  rw [Lib.extract_data]; rfl
abbrev rowE (y : En) : Obj := .cells #[.string y.1, .int .i64 y.2] 70
section
variable {ops : Array Oper} {o : Oper} {a : Act} {K : Act → World → Prop} {Q : Exit → Act → World → Prop} {E' : Prop} {l : List En} {s x : Operand}
theorem one_rowE {W : World} {y : En} : Sl (W.alloc (rowE y)) encE 2 (some ⟨W.heap.size, 0, none⟩) [y] := by
  intro _
  refine ⟨W.heap.size, 0, rfl, fun j u hu => ?_⟩
  rw [cell_of_row _ _ _ _ _ (0, 0) (heap_alloc_new W _)]
  simpa [flat, encE] using hu
theorem step_en_g {w0 W : World} {v : Value} {y : En} (hown : Own W w0.heap.size 70 2 encE v l) (hb : Below w0.heap.size w0 W) (hl : l.length ≤ 16777216) (hw : Region.wanted o (yielded ops a.tmps) = true) (ho : o.op = .call { callee := .builtin .append, args := #[s, x], argTypes := #[62, 62] })
    (hs : a.eval s = v) (hx : a.eval x = .slice (some ⟨W.heap.size, 0, none⟩) 1 1)
    (h : ∀ v' w', Own w' w0.heap.size 70 2 encE v' (l ++ [y]) → Below w0.heap.size w0 w' → K (a.put o.dst v') w') : if Region.wanted o (yielded ops a.tmps) = true then Oper.wp Tryz.prog o a (W.drew.alloc (rowE y)) K Q else E' := by
  obtain ⟨i0, hi0, hz0, hz1, hz2⟩ := info_parts en_info
  exact step_appW (l := l) (m := [y]) Tryz.underlying62 hi0 hz0 hz1 hz2 rfl (by decide) (by decide) hw s x ho (hown.drew.alloc _) (hb.drew.alloc hb.size _) (Nat.le_refl _) (by simp; exact Nat.le_succ_of_le hb.size) (by simp; omega) (one_rowE (W := W.drew)) (by intro h; cases h) (fun _ => rfl) oneE hs hx fun v' w' h1 h2 _ => h v' w' h1 h2
end
set_option maxHeartbeats 2000000 in
set_option maxRecDepth 100000 in
theorem sReadFolder_any (s : ByteArray) (w : World) (hs : s.size ≤ 1048576) :
    Calls Tryz.prog 62 #[.string s] w (RfRes (readF (bs s)) w) := by
  have HC0 := Lib.hid (FC.start (bs s))
  go_enter Tryz.func62, Tryz.ntmps62
  go_wp2_with fail
  go_loopw [4, 5] (fun v i wr => ∃ (t : Nat) (acc : List En), i = .int .i64 t ∧ 1 ≤ t ∧ acc.length ≤ t ∧ t ≤ s.size + 1 ∧ Hid (FitE acc) ∧ Hid (FC (bs s) acc ((bs s).drop t)) ∧ Own wr w.heap.size 70 2 encE v acc ∧ Below w.heap.size w wr) (fun _ i _ => s.size + 1 - (intOf i).toNat)
  case atStart => exact ⟨1, [], rfl, Nat.le_refl _, by simp, by omega, fitE_nil', HC0.out, Own.made (Nat.le_refl _), (Below.refl _ _).alloc (Nat.le_refl _) _⟩
  case round =>
    obtain ⟨t, acc, rfl, ht1, hat, hts, HF, HC, hown, hb⟩ := hrel
    obtain ⟨X, d, rfl, hle, hsX, _⟩ := hown.sl
    have HW := Lib.hid hown
    have HSX := Lib.hid hsX
    have HB := Lib.hid hb
    clear hown hsX hb
    by_cases hlt : t < s.size
    · obtain ⟨rest, hrest⟩ : ∃ r, r = (bs s).drop t := ⟨_, rfl⟩
      have hrl : rest.length = s.size - t := by rw [hrest, List.length_drop, size_bs]
      have hne : rest ≠ [] := fun e => by rw [e] at hrl; simp at hrl; omega
      have hFC := HC.out
      rw [← hrest] at hFC
      have HSF := Lib.hid (hFC.sfail hne)
      have HSS := Lib.hid (hFC.sstep hne)
      have hh1 := headC_le 61 rest
      have HN1 := Lib.hid (headC_ne 61 rest)
      have HA1 := Lib.hid (headC_at 61 rest)
      obtain ⟨h1, hh⟩ : ∃ h, h = (headC 61 rest).length := ⟨_, rfl⟩
      rw [← hh] at HSF HSS hh1 HN1 HA1
      have hh2 := headC_le 59 (rest.drop h1)
      have HN2 := Lib.hid (headC_ne 59 (rest.drop h1))
      have HA2 := Lib.hid (headC_at 59 (rest.drop h1))
      obtain ⟨h2, hhh⟩ : ∃ h, h = (headC 59 (rest.drop h1)).length := ⟨_, rfl⟩
      rw [← hhh] at HSF HSS hh2 HN2 HA2
      rw [List.length_drop] at hh2
      have HR := Lib.hid hrest
      have HG := Lib.hid (show ∀ j (h : j < rest.length) (h' : t + j < s.size), rest[j] = s[t + j] from fun j h h' => by
        have e : rest[j]? = (bs s)[t + j]? := by rw [hrest, List.getElem?_drop]
        rw [List.getElem?_eq_getElem h, List.getElem?_eq_getElem (show t + j < (bs s).length from h')] at e
        injection e)
      have HRL := Lib.hid hrl
      clear hrest hFC hh hhh hne
      go_wp2_with fail
      go_loop [6] (fun j => ∃ (q : Nat), q ≤ h1 ∧ j = .int .i64 ((t + q : Nat) : Int)) (fun j => h1 + t - (intOf j).toNat)
      case atStart => exact ⟨0, Nat.zero_le _, rfl⟩
      case round =>
        obtain ⟨q, hq, rfl⟩ := hrel
        by_cases hqh : q < h1
        · have hin : t + q < s.size := by omega
          have hne : ¬ s[t + q].toNat = 61 := by
            have h3 := HN1.out q (by omega) hqh
            rw [HG.out q (by omega) hin] at h3
            intro e; exact h3 (UInt8.toNat_inj.1 e)
          have hne2 : ¬ ((s[t + q].toNat : Int) = 61) := by omega
          have hin2 : ((t + q : Nat) : Int) < (s.size : Int) := by omega
          go_wp2
          go_round
          case rel => exact ⟨q + 1, by omega, by go_num⟩
          case measure => simp [intOf]; omega
        · obtain rfl : q = h1 := by omega
          have hst1 : t + q < s.size → ∃ h : t + q < s.size, s[t + q].toNat = 61 := fun h => ⟨h, by
            have h3 := HA1.out (by omega)
            rw [HG.out q (by omega) h] at h3
            rw [h3]; rfl⟩
          have HS1 := Lib.hid hst1
          have HH2 := Lib.hid (show ∀ p, p < h2 → ∀ h : t + q + p < s.size, ¬ s[t + q + p].toNat = 59 from fun p hp h e => by
            have h3 := HN2.out p (by rw [List.length_drop]; omega) hp
            rw [List.getElem_drop, HG.out (q + p) (by omega) (by omega)] at h3
            apply h3
            have e2 : t + (q + p) = t + q + p := by omega
            simp only [e2]
            exact UInt8.toNat_inj.1 e)
          have HS2 := Lib.hid (show ∀ h : t + q + h2 < s.size, s[t + q + h2].toNat = 59 from fun h => by
            have h3 := HA2.out (by rw [List.length_drop]; omega)
            rw [List.getElem_drop, HG.out (q + h2) (by omega) (by omega)] at h3
            have e2 : t + (q + h2) = t + q + h2 := by omega
            simp only [e2] at h3
            rw [h3]; rfl)
          have HP1 := Lib.hid (show t + q + h2 < s.size → 1 ≤ h2 from fun h => by
            by_cases e : h2 = 0
            · obtain ⟨h5, h6⟩ := HS1.out (by omega)
              have h7 := HS2.out h
              simp only [e, Nat.add_zero] at h7
              rw [h6] at h7; cases h7
            · omega)
          have HE1 := Lib.hid (show s.extract t (t + q) = mk (rest.take q) by rw [ext_drop, ← HR.out]; congr 2; omega)
          have HE2 := Lib.hid (show s.extract (t + q + 1) (t + q + h2) = mk ((rest.drop (q + 1)).take (h2 - 1)) by
            rw [ext_drop, HR.out, List.drop_drop, show t + (q + 1) = t + q + 1 by omega]; congr 2; omega)
          have HE3 := Lib.hid (show rest.drop (q + h2 + 1) = (bs s).drop (t + q + h2 + 1) by rw [HR.out, List.drop_drop]; congr 1; omega)
          have hq2 : q + h2 ≤ rest.length := by omega
          clear hst1 HN1 HA1 HN2 HA2 HG HR
          have hsl : t + q + h2 ≤ s.size := by omega
          have HLT := Lib.hid (show t + q + h2 < s.size → q + h2 < rest.length from fun h => by omega)
          have HGE := Lib.hid (show ¬ t + q + h2 < s.size → ¬ q + h2 < rest.length from fun h => by omega)
          have htsg : t ≤ t + q := by omega
          have hnn : (mk (rest.take q)).size ≤ 16777216 := by rw [mk_size, List.length_take]; omega
          have hdd : (mk ((rest.drop (q + 1)).take (h2 - 1))).size ≤ 16777216 := by rw [mk_size, List.length_take, List.length_drop]; omega
          have hRH := fun w => sReadHex_any (mk ((rest.drop (q + 1)).take (h2 - 1))) w hdd
          rw [show bs (mk ((rest.drop (q + 1)).take (h2 - 1))) = (rest.drop (q + 1)).take (h2 - 1) from rfl] at hRH
          have HRH := Lib.hid hRH
          clear hRH
          rw [HE3.out] at HSS
          clear HE3
          generalize readH ((rest.drop (q + 1)).take (h2 - 1)) = hx at *
          generalize mk ((rest.drop (q + 1)).take (h2 - 1)) = DG at *
          generalize mk (rest.take q) = NN at *
          generalize hsg : t + q = sg at *
          have hex : (sg < s.size ∧ ∃ h : sg < s.size, s[sg].toNat = 61) ∨ ¬ sg < s.size := by
            by_cases h : sg < s.size
            · exact .inl ⟨h, HS1.out h⟩
            · exact .inr h
          rcases hex with ⟨hz, _, h61⟩ | hz
          case inr =>
            have hz2 : h2 = 0 := by omega
            subst hz2
            have hE := HSF.out (HGE.out (by omega))
            have heq : (sg : Int) = (s.size : Int) := by omega
            have HE := Lib.hid hE
            clear hE HSF HSS HH2 HS2 HP1 HS1 HE1 HE2 HRL HLT HGE
            go_wp2_with fail
            go_loop [7] (fun j => j = .int .i64 (s.size : Int)) (fun _ => 0)
            case atStart => rfl
            case round =>
              subst hrel
              go_wp2
              go_ret2
              exact RfRes.made HE.out HB.out
          case inl =>
            go_wp2_with fail
            go_loop [7] (fun j => ∃ (p : Nat), p ≤ h2 ∧ j = .int .i64 ((sg + p : Nat) : Int)) (fun j => h2 + sg - (intOf j).toNat)
            case atStart => exact ⟨0, Nat.zero_le _, rfl⟩
            case round =>
              obtain ⟨p, hp, rfl⟩ := hrel
              by_cases hph : p < h2
              · have hin : sg + p < s.size := by omega
                have hne := HH2.out p hph hin
                have hne2 : ¬ ((s[sg + p].toNat : Int) = 59) := by omega
                have hin2 : ((sg + p : Nat) : Int) < (s.size : Int) := by omega
                go_wp2
                go_round
                case rel => exact ⟨p + 1, by omega, by go_num⟩
                case measure => simp [intOf]; omega
              · obtain rfl : p = h2 := by omega
                by_cases hend : sg + p < s.size
                · have h59 := HS2.out hend
                  have hp1 := HP1.out hend
                  have hq3 := HLT.out hend
                  have HN := Lib.hid HSS.out
                  have HFN := Lib.hid (show FitE (acc ++ [(NN, hx)]) from fun z hz => by
                    rcases List.mem_append.1 hz with h | h
                    · exact HF.out z h
                    · rw [List.mem_singleton.1 h]; exact hnn)
                  have he1 := HE1.out
                  have he2 := HE2.out
                  have hnd : ¬ ((sg + p : Nat) : Int) = (s.size : Int) := by omega
                  have hw1 : IntKind.i64.wrap ((sg : Int) + 1) = (sg : Int) + 1 := IntWalk.i64_in _ (by omega)
                  have hw2 : (0 : Int) ≤ (sg : Int) + 1 := by omega
                  have hw3 : ((sg : Int) + 1).toNat = sg + 1 := by omega
                  have HL := Lib.hid (show acc.length ≤ 16777216 by omega)
                  have HTT := Lib.hid (show t ≤ sg ∧ acc.length ≤ t ∧ sg + p < s.size from ⟨htsg, hat, hend⟩)
                  have hsgs : sg < s.size := by omega
                  clear HH2 HS2 HP1 HS1 HSF HSS HE1 HE2 HRL HLT HGE hsg
                  generalize hen : sg + p = en at *
                  have hw4 : (sg : Int) + 1 ≤ (en : Int) := by omega
                  have hw5 : (en : Int) ≤ (s.size : Int) := by omega
                  have hw6 : sg + 1 ≤ en := by omega
                  have hw7 : en ≤ s.size := by omega
                  have hw8 : sg ≤ s.size := by omega
                  have hw9 : (t : Int) ≤ (sg : Int) := by omega
                  have hw10 : (sg : Int) ≤ (s.size : Int) := by omega
                  clear hen
                  go_wp2_with fail
                  first
                    | go_region_held3 (fun w' => True) (trivial)
                        ((first
                          | (go_at_call 85; refine (HRH.out _).mono ?_; rintro e w3 ⟨rfl, rfl⟩)
                          | (refine step_en_g (w0 := w) (y := (NN, hx)) HW.out HB.out HL.out (by rfl) rfl (by rfl) (by rfl) ?_; intro v4 w4 hown4 hb4; have HW4 := Lib.hid hown4; have HB4 := Lib.hid hb4; clear hown4 hb4)))
                    | fail
                  all_goals
                    go_wp2
                    go_roundw
                    case rel => exact ⟨en + 1, _, by go_num, by omega, by have := HTT.out; simp; omega, by omega, HFN.out, HN.out, HW4.out, HB4.out⟩
                    case measure => have := HTT.out; simp [intOf]; omega
                · have HE := Lib.hid (HSF.out (HGE.out hend))
                  have heq : ((sg + p : Nat) : Int) = (s.size : Int) := by omega
                  clear HSF HSS HH2 HS2 HP1 HS1 HE1 HE2 HRL HLT HGE
                  go_wp2
                  go_ret2
                  exact RfRes.made HE.out HB.out
    · have hnil : (bs s).drop t = [] := List.drop_eq_nil_of_le (by rw [size_bs]; omega)
      have hFC := HC.out
      rw [hnil] at hFC
      have HFT := Lib.hid (fun w h => sFolderText_any X d acc w h (by omega) HF.out)
      have hR : (0 < s.size ∧ (foldT acc = bs s) ∧ readF (bs s) = some acc) ∨ ((s.size = 0 ∨ foldT acc ≠ bs s) ∧ readF (bs s) = none) := by
        by_cases h0 : 0 < s.size
        · have hd := hFC.done (bs_ne_nil h0)
          by_cases he : foldT acc = bs s
          · rw [if_pos he] at hd; exact .inl ⟨h0, he, hd⟩
          · rw [if_neg he] at hd; exact .inr ⟨.inr he, hd⟩
        · exact .inr ⟨.inl (by omega), readF_head (fun h => h0 h.1)⟩
      clear hFC hnil
      rcases hR with ⟨h0, he, hr⟩ | ⟨h0, hr⟩
      · have HE := Lib.hid hr
        have heq : ((mk (foldT acc)).toList == s.toList) = true := by rw [eq_tlx]; exact beq_iff_eq.2 he
        obtain ⟨hne, hne2⟩ := ne_tl (s := s) h0
        clear hr he
        go_wp2_with fail
        refine (HFT.out _ HSX.out).mono ?_
        rintro e w1 ⟨rfl, hb1⟩
        have HW1 := Lib.hid (HW.out.below hb1)
        have HB1 := Lib.hid (Below_then HB.out hb1 (Nat.le_refl _))
        clear hb1
        go_wp2
        go_ret2
        exact RfRes.yes HE.out HW1.out HB1.out
      · have HE := Lib.hid hr
        clear hr
        cases heq : ((mk (foldT acc)).toList == s.toList)
        · clear h0
          go_wp2_with fail
          refine (HFT.out _ HSX.out).mono ?_
          rintro e w1 ⟨rfl, hb1⟩
          have HB1 := Lib.hid (Below_then HB.out hb1 (Nat.le_refl _))
          clear hb1
          go_wp2
          go_ret2
          exact RfRes.made HE.out HB1.out
        · have he : foldT acc = bs s := by rw [eq_tlx] at heq; exact beq_iff_eq.1 heq
          have hz := h0.resolve_right (fun h => h he)
          have hnil := nil_tl hz
          clear h0 he hz
          go_wp2_with fail
          refine (HFT.out _ HSX.out).mono ?_
          rintro e w1 ⟨rfl, hb1⟩
          have HB1 := Lib.hid (Below_then HB.out hb1 (Nat.le_refl _))
          clear hb1
          go_wp2
          all_goals
            go_ret2
            exact RfRes.made HE.out HB1.out
end Go.Proofs.YtokelopllbaikaaGreatDoor

/- ContentValid, ReadFile, TextKind, l4Get of the reference; folderOf of the program, walked. -/
set_option linter.unusedVariables false
namespace Go.Proofs.YtokelopllbaikaaGreatDoor
open Go.RowKit
set_option maxHeartbeats 1000000 in
set_option maxRecDepth 100000 in
theorem sContentValid_any (s : ByteArray) (w : World) (hs : s.size ≤ 16777216) :
    Calls Tryz.prog 65 #[.string s] w fun e w' => e = .returned (.bool (contV (bs s))) ∧ w = w' := by
  have hTV := fun w => sTextValid_any s w hs
  have E := Lib.hid (show contV (bs s) = (textV (bs s) && decide (s.size ≤ 40)) from rfl)
  rw [E.out]
  cases hv : textV (bs s)
  · rw [hv] at hTV
    have HTV := Lib.hid hTV
    clear hTV hv E
    go_enter Tryz.func65, Tryz.ntmps65
    go_wp2_with (go_at_call 58; refine (HTV.out _).mono ?_; rintro e w' ⟨rfl, rfl⟩)
    go_ret
    exact ⟨rfl, rfl⟩
  · rw [hv] at hTV
    have HTV := Lib.hid hTV
    clear hTV hv E
    by_cases h : s.size ≤ 40
    · have h' : (s.size : Int) ≤ 40 := by omega
      rw [decide_eq_true h]
      clear h
      go_enter Tryz.func65, Tryz.ntmps65
      go_wp2_with (go_at_call 58; refine (HTV.out _).mono ?_; rintro e w' ⟨rfl, rfl⟩)
      go_ret
      first | exact ⟨rfl, rfl⟩ | exact ⟨ret_bool (decide_eq_true h'), rfl⟩
    · have h' : ¬ (s.size : Int) ≤ 40 := by omega
      rw [decide_eq_false h]
      clear h
      go_enter Tryz.func65, Tryz.ntmps65
      go_wp2_with (go_at_call 58; refine (HTV.out _).mono ?_; rintro e w' ⟨rfl, rfl⟩)
      go_ret
      first | exact ⟨rfl, rfl⟩ | exact ⟨ret_bool (decide_eq_false (Int.not_le.2 h')), rfl⟩
def RdRes (r : Option Bs) (w : World) (e : Ending) (w' : World) : Prop := e = .returned (.tuple #[.string (mk (r.getD [])), .bool r.isSome]) ∧ w = w'
theorem readFi_head {s : ByteArray} (h : 0 < s.size) : readFi (bs s) = if s[0] = 102 ∧ contV (bs s).tail = true then some (bs s).tail else none := by
  have hh := head_bs0 h
  cases hb : bs s with
  | nil => have := size_bs s; rw [hb] at this; simp at this; omega
  | cons x r =>
    rw [hb] at hh
    have hx : x = s[0] := by simpa using hh
    unfold readFi
    simp only [List.tail_cons, ← hx]
    by_cases h1 : x = 102 <;> cases h2 : contV r <;> simp [h1]
set_option maxHeartbeats 1000000 in
set_option maxRecDepth 100000 in
theorem sReadFile_any (s : ByteArray) (w : World) (hs : s.size ≤ 16777216) : Calls Tryz.prog 35 #[.string s] w (RdRes (readFi (bs s)) w) := by
  unfold RdRes
  by_cases h0 : 0 < s.size
  · have hE := readFi_head h0
    obtain ⟨hne, hne2⟩ := ne_tl (s := s) h0
    have hx := drop1_ext s
    have hz : 1 ≤ s.size := h0
    have hts : (mk (bs s).tail).size ≤ 16777216 := by rw [mk_size, List.length_tail, size_bs]; omega
    have hCV := fun w => sContentValid_any (mk (bs s).tail) w hts
    rw [show bs (mk (bs s).tail) = (bs s).tail from rfl] at hCV
    by_cases h1 : s[0] = 102
    · have h1n : (s[0].toNat : Int) = 102 := by rw [h1]; rfl
      cases hc : contV (bs s).tail
      · rw [if_neg (by rw [hc]; simp)] at hE
        rw [hc] at hCV
        have HCV := Lib.hid hCV
        have HE := Lib.hid hE
        clear hCV hE hc h1
        rw [HE.out]
        generalize mk (bs s).tail = TT at *
        go_enter Tryz.func35, Tryz.ntmps35
        go_wp2_with (go_at_call 65; refine (HCV.out _).mono ?_; rintro e w' ⟨rfl, rfl⟩)
        go_ret2
        exact ⟨rfl, rfl⟩
      · rw [if_pos ⟨h1, hc⟩] at hE
        rw [hc] at hCV
        have HCV := Lib.hid hCV
        have HE := Lib.hid hE
        clear hCV hE hc h1
        rw [HE.out]
        show Calls _ _ _ _ fun e w' => e = .returned (.tuple #[.string (mk (bs s).tail), .bool true]) ∧ w = w'
        generalize mk (bs s).tail = TT at *
        go_enter Tryz.func35, Tryz.ntmps35
        go_wp2_with (go_at_call 65; refine (HCV.out _).mono ?_; rintro e w' ⟨rfl, rfl⟩)
        go_ret2
        exact ⟨rfl, rfl⟩
    · have h1n : ¬ (s[0].toNat : Int) = 102 := by
        intro e; apply h1; apply UInt8.toNat_inj.1; show s[0].toNat = 102; omega
      rw [if_neg (fun h => h1 h.1)] at hE
      have HE := Lib.hid hE
      clear hE hCV h1 hx
      rw [HE.out]
      go_enter Tryz.func35, Tryz.ntmps35
      go_wp2
      go_ret2
      exact ⟨rfl, rfl⟩
  · have hz : s.size = 0 := by omega
    have HE := Lib.hid (show readFi (bs s) = none by rw [show bs s = [] from List.eq_nil_of_length_eq_zero hz]; rfl)
    have hnil := nil_tl hz
    rw [HE.out]
    clear h0 hz
    go_enter Tryz.func35, Tryz.ntmps35
    go_wp2
    go_ret2
    exact ⟨rfl, rfl⟩
set_option maxHeartbeats 1000000 in
set_option maxRecDepth 100000 in
theorem sTextKind_any (s : ByteArray) (w : World) (hs : s.size ≤ 1048576) : Calls Tryz.prog 140 #[.string s] w fun e w' => e = .returned (.int .i64 (textK (bs s))) ∧ Below w.heap.size w w' := by
  have hRF := fun w => sReadFile_any s w (by omega)
  have hRd := fun w => sReadFolder_any s w hs
  have hE : textK (bs s) = if (readFi (bs s)).isSome then 1 else if (readF (bs s)).isSome then 2 else 0 := rfl
  unfold RdRes at hRF
  unfold RfRes at hRd
  rw [hE]
  generalize readFi (bs s) = P at *
  generalize readF (bs s) = Q at *
  clear hE
  have HRF := Lib.hid hRF
  have HRd := Lib.hid hRd
  clear hRF hRd
  cases P with
  | none =>
    cases Q with
    | none =>
      go_enter Tryz.func140, Tryz.ntmps140
      go_wp2_with (go_at_call 35; refine (HRF.out _).mono ?_; rintro e w' ⟨rfl, rfl⟩)
      refine (HRd.out _).mono ?_
      rintro e w1 ⟨v, rfl, hown, hb⟩
      have HB := Lib.hid hb
      clear hb hown
      go_wp2
      go_ret
      exact ⟨rfl, HB.out⟩
    | some q =>
      go_enter Tryz.func140, Tryz.ntmps140
      go_wp2_with (go_at_call 35; refine (HRF.out _).mono ?_; rintro e w' ⟨rfl, rfl⟩)
      refine (HRd.out _).mono ?_
      rintro e w1 ⟨v, rfl, hown, hb⟩
      have HB := Lib.hid hb
      clear hb hown
      go_wp2
      go_ret
      exact ⟨rfl, HB.out⟩
  | some p =>
    go_enter Tryz.func140, Tryz.ntmps140
    go_wp2_with (go_at_call 35; refine (HRF.out _).mono ?_; rintro e w' ⟨rfl, rfl⟩)
    refine (HRd.out _).mono ?_
    rintro e w1 ⟨v, rfl, hown, hb⟩
    have HB := Lib.hid hb
    clear hb hown
    go_wp2
    go_ret
    exact ⟨rfl, HB.out⟩
theorem getT_find {l : List Pc} {p : Int} {k : Nat} (hk : k < l.length) (h : ∀ j (h : j < l.length), j < k → l[j].1 ≠ p) (he : l[k].1 = p) : getT l p = some l[k].2 := by
  unfold getT
  have : l.find? (fun x => x.1 == p) = some l[k] := by
    rw [List.find?_eq_some_iff_getElem]
    refine ⟨by simpa using he, k, hk, rfl, fun j hj => ?_⟩
    simpa using h j (by omega) hj
  rw [this]; rfl
set_option maxHeartbeats 1000000 in
set_option maxRecDepth 100000 in
theorem sl4Get_any (A : Option Addr) (c : Nat) (l : List Pc) (p : Int) (w : World) (hs : Sl w encP 2 A l) (hl : l.length ≤ 16777216) :
    Calls Tryz.prog 60 #[.slice A l.length c, .int .i64 p] w fun e w' => e = .returned (.tuple #[.string ((getT l p).getD ⟨#[]⟩), .bool (getT l p).isSome]) ∧ w = w' := by
  have HS := Lib.hid hs
  clear hs
  generalize hr : getT l p = R at *
  have HR := Lib.hid hr
  clear hr
  go_enter Tryz.func60, Tryz.ntmps60
  go_wp2_with fail
  go_loop [6] (fun i => ∃ (k : Nat), k ≤ l.length ∧ i = .int .i64 k ∧ Hid (∀ j (h : j < l.length), j < k → l[j].1 ≠ p)) (fun i => l.length - (intOf i).toNat)
  case atStart => exact ⟨0, Nat.zero_le _, rfl, fun j h h2 => by omega⟩
  case round =>
    obtain ⟨k, hk, rfl, HH⟩ := hrel
    by_cases hlt : k < l.length
    · obtain ⟨b, o, rfl, hc0, hc1⟩ := HS.out.getP hlt
      have HF := Lib.hid (fun (he : l[k].1 = p) => getT_find hlt HH.out he)
      have HN := Lib.hid (fun (hne : l[k].1 ≠ p) => show ∀ j (h : j < l.length), j < k + 1 → l[j].1 ≠ p from fun j h h2 => by
        by_cases e : j = k
        · subst e; exact hne
        · exact HH.out j h (by omega))
      generalize l[k] = q at *
      obtain ⟨a, t⟩ := q
      simp only at *
      by_cases he : a = p
      · have HE := Lib.hid (show R = some t by rw [← HR.out]; exact HF.out he)
        subst he
        go_wp2
        go_ret2
        rw [HE.out]
        exact ⟨rfl, rfl⟩
      · have HNN := Lib.hid (HN.out he)
        go_wp2
        go_round
        case rel => exact ⟨k + 1, by omega, by go_num, HNN.out⟩
        case measure => simp [intOf]; omega
    · have HE := Lib.hid (show R = none by
        rw [← HR.out]
        refine getT_none_iff.2 fun x hx => ?_
        obtain ⟨j, hj, rfl⟩ := List.getElem_of_mem hx
        exact HH.out j hj (by omega))
      go_wp2
      go_ret2
      rw [HE.out]
      exact ⟨rfl, rfl⟩
set_option maxHeartbeats 1000000 in
set_option maxRecDepth 100000 in
theorem ifolderOf_any (A : Option Addr) (c : Nat) (l : List Pc) (p : Int) (w : World) (hs : Sl w encP 2 A l) (hv : storeV l = true) (ht : TzL w) (hm : MaxL w) :
    Calls Tryz.prog 40 #[.slice A l.length c, .int .i64 p] w (RfRes (folderOf l p) w) := by
  have HS := Lib.hid hs
  have HT := Lib.hid ht
  have HM := Lib.hid hm
  have hl := storeV_len hv
  have hX := fun w h => itextOf_any A c l p w h (by omega) (storeV_sorted hv)
  have hsz : ∀ t, getT l p = some t → t.size ≤ 60 := fun t h => textV_size (getT_valid hv h).1
  clear hs ht hm
  unfold GtRes at hX
  unfold folderOf
  cases hg : getT l p with
  | none =>
    rw [hg] at hX
    have HX := Lib.hid hX
    clear hX hg hsz hv
    go_enter Tryz.func40, Tryz.ntmps40
    go_wp2_with fail
    refine (HX.out _ HS.out).mono ?_
    rintro e w1 ⟨rfl, hb⟩
    have HB := Lib.hid hb
    clear hb
    go_wp2
    go_ret2
    exact RfRes.no rfl HB.out
  | some t =>
    have hts := hsz t hg
    rw [hg] at hX
    have HX := Lib.hid hX
    have hRF := fun w h h2 => iReadFolder_any t w (by omega) h h2
    rw [Option.bind_some]
    unfold RfRes at *
    rw [show readF (tx t) = readF (bs t) from rfl]
    generalize readF (bs t) = R at *
    have HRF := Lib.hid hRF
    clear hX hg hsz hv hRF
    go_enter Tryz.func40, Tryz.ntmps40
    go_wp2_with fail
    refine (HX.out _ HS.out).mono ?_
    rintro e w1 ⟨rfl, hb⟩
    have HB := Lib.hid hb
    clear hb
    go_wp2_with fail
    refine (HRF.out _ (HT.out.below HB.out) (HM.out.below HB.out)).mono ?_
    rintro e w2 ⟨v, rfl, hown, hb⟩
    have HW := Lib.hid (hown.mono HB.out.size)
    have HB2 := Lib.hid (Below_then HB.out hb (Nat.le_refl _))
    clear hown hb
    go_wp2
    go_ret2
    exact ⟨_, rfl, HW.out, HB2.out⟩
end Go.Proofs.YtokelopllbaikaaGreatDoor

/- Stores that are drawn: some steps from the empty folder on. Plain Lean, no program in sight. -/
set_option linter.unusedVariables false
namespace Go.Proofs.YtokelopllbaikaaGreatDoor
def paths7 : List Bs := [[47, 97], [47, 98], [47, 99], [47, 97, 47, 98], [47, 98, 47, 97], [47, 98, 47, 98, 47, 97], [47, 97, 47, 98, 47, 99]]
def conts4 : List Bs := [[104, 105], [114, 101, 100, 32, 103, 114, 101, 101, 110], [], [120]]
/-- One step: nothing, a drop, a write. -/
def StepS (s : List Pc) (r : Int) (s' : List Pc) (r' : Int) : Prop :=
  (s' = s ∧ r' = r) ∨ ∃ path ∈ paths7, (∃ b, dropA s r path = (s', r', b)) ∨ ∃ c ∈ conts4, ∃ b, writeA s r path c = (s', r', b)
inductive DrawnS : Nat → List Pc → Int → Prop
  | base : DrawnS 0 (putT [] foldE).1 (putT [] foldE).2.1
  | step {k : Nat} {s s' : List Pc} {r r' : Int} : DrawnS k s r → StepS s r s' r' → DrawnS (k + 1) s' r'
def NoZ (n : Bs) : Prop := n ≠ nameZ
theorem paths7_ok : ∀ p ∈ paths7, (pathP p).isSome = true ∧ pathP p ≠ some [] ∧ ∀ n ∈ (pathP p).getD [], n ≠ nameZ := by decide +kernel
theorem conts4_ok : ∀ c ∈ conts4, contV c = true := by decide +kernel
theorem dropA_no {s s' : List Pc} {r r' : Int} {p : Bs} (hs : storeV s = true) (hp : p ∈ paths7) (h : dropA s r p = (s', r', false)) : s' = s ∧ r' = r := by
  obtain ⟨h1, h2, _⟩ := paths7_ok p hp
  obtain ⟨ps, hps⟩ := Option.isSome_iff_exists.1 h1
  unfold dropA at h
  rw [if_pos hs, hps] at h
  cases ps with
  | nil => exact absurd hps h2
  | cons n t =>
    simp only at h
    split at h
    · simp at h
    · simp only [Prod.mk.injEq, and_true] at h; exact ⟨h.1.symm, h.2.symm⟩
theorem writeA_no {s s' : List Pc} {r r' : Int} {p c : Bs} (hs : storeV s = true) (hp : p ∈ paths7) (hc : c ∈ conts4) (h : writeA s r p c = (s', r', false)) : s' = s ∧ r' = r := by
  obtain ⟨h1, h2, _⟩ := paths7_ok p hp
  obtain ⟨ps, hps⟩ := Option.isSome_iff_exists.1 h1
  unfold writeA at h
  rw [hs, conts4_ok c hc, Bool.true_and, if_pos rfl, hps] at h
  cases ps with
  | nil => exact absurd hps h2
  | cons n t =>
    simp only at h
    split at h
    · simp at h
    · simp only [Prod.mk.injEq, and_true] at h; exact ⟨h.1.symm, h.2.symm⟩
theorem path7_names {p : Bs} (hp : p ∈ paths7) : ∀ ps, pathP p = some ps → ∀ n ∈ ps, NoZ n := fun ps h n hn => by
  have := (paths7_ok p hp).2.2 n
  rw [h] at this
  exact this hn
theorem step_keeps {s s' : List Pc} {r r' : Int} (h : StepS s r s' r') (hs : storeV s = true) (hg : Good NoZ s) : storeV s' = true ∧ Good NoZ s' := by
  rcases h with ⟨rfl, rfl⟩ | ⟨path, hp, ⟨b, h⟩ | ⟨c, hc, b, h⟩⟩
  · exact ⟨hs, hg⟩
  · cases b
    · obtain ⟨rfl, rfl⟩ := dropA_no hs hp h; exact ⟨hs, hg⟩
    · exact ⟨(drop_chg h).valid, drop_good h hg (path7_names hp)⟩
  · cases b
    · obtain ⟨rfl, rfl⟩ := writeA_no hs hp hc h; exact ⟨hs, hg⟩
    · exact ⟨(write_chg h).valid, write_good h hg (path7_names hp)⟩
theorem drawnS_ok {k : Nat} {s : List Pc} {r : Int} (h : DrawnS k s r) : storeV s = true ∧ Good NoZ s := by
  induction h with
  | base =>
    have h1 : (newA []).2 = true := by decide +kernel
    have h2 := newA_good (good_nil NoZ)
    have h3 := newA_ok h1
    have e : (newA []).1.ps = (putT [] foldE).1 := by
      unfold newA at h1 ⊢
      split
      · rfl
      · rename_i hn; rw [if_neg hn] at h1; cases h1
    rw [e] at h2
    refine ⟨?_, h2⟩
    rw [← e]
    exact (archV_iff.1 h3.1).1
  | step _ hst ih => exact step_keeps hst ih.1 ih.2
/-! ### a piece turned -/
theorem turned_print {s : List Pc} {k : Nat} {p : Int} (hk : k < s.length) (hs : storeV s = true) (h : storeV (s.set k (p, s[k].2)) = true) : s.set k (p, s[k].2) = s := by
  have h1 := (pieceOk_iff.1 (storeV_piece hs (List.getElem_mem hk))).2
  have h2 : prOf (tx s[k].2) = p := (pieceOk_iff.1 (storeV_piece h (List.mem_set hk _))).2
  rw [← h2, h1]
  exact List.set_getElem_self hk
theorem turned_text {N : Bs → Prop} {s : List Pc} {k : Nat} {t : ByteArray} (hk : k < s.length) (hs : storeV s = true) (hg : Good N s) (ht : readF (tx t) = none) (h : storeV (s.set k (s[k].1, t)) = true) : Good N (s.set k (s[k].1, t)) := by
  have hso := storeV_sorted hs
  have hso' := storeV_sorted h
  have hthere : ∀ q, (getT s q).isSome = true → (getT (s.set k (s[k].1, t)) q).isSome = true := fun q hq => by
    obtain ⟨u, hu⟩ := Option.isSome_iff_exists.1 hq
    obtain ⟨i, hi, hie⟩ := List.getElem_of_mem (getT_some hu)
    by_cases e : i = k
    · subst e
      have : (q, t) ∈ s.set i (s[i].1, t) := by
        have h2 := List.mem_set hi (s[i].1, t)
        rwa [show s[i].1 = q by rw [hie]] at h2 ⊢
      rw [getT_mem hso' this]; rfl
    · have : (q, u) ∈ s.set k (s[k].1, t) := by
        rw [List.mem_iff_getElem]
        exact ⟨i, by rw [List.length_set]; exact hi, by rw [List.getElem_set_ne (fun h => e h.symm)]; exact hie⟩
      rw [getT_mem hso' this]; rfl
  intro p l hf e he
  unfold folderOf at hf
  obtain ⟨u, hu, hr⟩ := Option.bind_eq_some_iff.1 hf
  rcases List.mem_or_eq_of_mem_set (getT_some hu) with hm | hm
  · have hf2 : folderOf s p = some l := by unfold folderOf; rw [getT_mem hso hm]; exact hr
    obtain ⟨h1, h2⟩ := hg p l hf2 e he
    exact ⟨hthere _ h1, h2⟩
  · injection hm with h1 h2
    subst h2
    rw [ht] at hr; cases hr
theorem twice_bad {s : List Pc} (h : s ≠ []) : storeV (s ++ [s[0]'(List.length_pos_iff.2 h)]) = false := by
  cases hv : storeV (s ++ [s[0]'(List.length_pos_iff.2 h)])
  · rfl
  · have := storeV_sorted hv
    unfold Sorted at this
    rw [List.pairwise_append] at this
    have h2 := this.2.2 (s[0]'(List.length_pos_iff.2 h)) (List.getElem_mem _) (s[0]'(List.length_pos_iff.2 h)) (by simp)
    omega
end Go.Proofs.YtokelopllbaikaaGreatDoor

/- Bundles: their prints go on, they can be read. Plain Lean, no program in sight. -/
set_option linter.unusedVariables false
namespace Go.Proofs.YtokelopllbaikaaGreatDoor
end Go.Proofs.YtokelopllbaikaaGreatDoor
