/- Written by merge.py: Rj, Gt, Fl, Wk1, Wk2, Wk3, Wk4, Us, Qv, Uo. -/
import Derived.Deep.RegionHeld3
import Derived.Maps.AppendAt
import Derived.Test.YtaghiefokmapmaaGreatDoorMgExactOverQuotas5
/- ReadFolder of the reference, walked. -/
set_option linter.unusedVariables false
namespace Go.Proofs.YtaghiefokmapmaaGreatDoor
open Go.RowKit
theorem RfRes.made {r : Option (List En)} (h : r = none) {w w' : World} (hb : Below w.heap.size w w') : RfRes r w (.returned (.tuple #[.slice (some ⟨w'.heap.size, 0, none⟩) 0 0, .bool false])) (w'.alloc (.cells #[] 160)) := by
  subst h; exact ⟨_, rfl, Own.made hb.size, hb.alloc hb.size _⟩
theorem ext_drop (s : ByteArray) (a b : Nat) : s.extract a b = mk (((bs s).drop a).take (b - a)) := by
  apply ByteArray.ext
  apply Array.ext'
  rw [Lib.extract_data]; rfl
abbrev rowE (y : En) : Obj := .cells #[.string y.1, .int .i64 y.2] 160
section
variable {ops : Array Oper} {o : Oper} {a : Act} {K : Act → World → Prop} {Q : Exit → Act → World → Prop} {E' : Prop} {l : List En} {s x : Operand}
theorem one_rowE {W : World} {y : En} : Sl (W.alloc (rowE y)) encE 2 (some ⟨W.heap.size, 0, none⟩) [y] := by
  intro _
  refine ⟨W.heap.size, 0, rfl, fun j u hu => ?_⟩
  rw [cell_of_row _ _ _ _ _ (0, 0) (heap_alloc_new W _)]
  simpa [flat, encE] using hu
theorem step_en_g {w0 W : World} {v : Value} {y : En} (hown : Own W w0.heap.size 160 2 encE v l) (hb : Below w0.heap.size w0 W) (hl : l.length ≤ 16777216) (hw : Region.wanted o (yielded ops a.tmps) = true) (ho : o.op = .call { callee := .builtin .append, args := #[s, x], argTypes := #[116, 116] })
    (hs : a.eval s = v) (hx : a.eval x = .slice (some ⟨W.heap.size, 0, none⟩) 1 1)
    (h : ∀ v' w', Own w' w0.heap.size 160 2 encE v' (l ++ [y]) → Below w0.heap.size w0 w' → K (a.put o.dst v') w') : if Region.wanted o (yielded ops a.tmps) = true then Oper.wp Tryz.prog o a (W.drew.alloc (rowE y)) K Q else E' := by
  obtain ⟨i0, hi0, hz0, hz1, hz2⟩ := info_parts en_info
  exact step_appW (l := l) (m := [y]) Tryz.underlying116 hi0 hz0 hz1 hz2 rfl (by decide) (by decide) hw s x ho (hown.drew.alloc _) (hb.drew.alloc hb.size _) (Nat.le_refl _) (by simp; exact Nat.le_succ_of_le hb.size) (by simp; omega) (one_rowE (W := W.drew)) (by intro h; cases h) (fun _ => rfl) oneE hs hx fun v' w' h1 h2 _ => h v' w' h1 h2
end
set_option maxHeartbeats 2000000 in
set_option maxRecDepth 100000 in
theorem sReadFolder_any (s : ByteArray) (w : World) (hs : s.size ≤ 1048576) :
    Calls Tryz.prog 183 #[.string s] w (RfRes (readF (bs s)) w) := by
  have HC0 := Lib.hid (FC.start (bs s))
  go_enter Tryz.func183, Tryz.ntmps183
  go_wp2_with fail
  go_loopw [4, 5] (fun v i wr => ∃ (t : Nat) (acc : List En), i = .int .i64 t ∧ 1 ≤ t ∧ acc.length ≤ t ∧ t ≤ s.size + 1 ∧ Hid (FitE acc) ∧ Hid (FC (bs s) acc ((bs s).drop t)) ∧ Own wr w.heap.size 160 2 encE v acc ∧ Below w.heap.size w wr) (fun _ i _ => s.size + 1 - (intOf i).toNat)
  case atStart => exact ⟨1, [], rfl, Nat.le_refl _, by simp, by omega, fitE_nil', HC0.out, Own.made (Nat.le_refl _), (Below.refl _ _).alloc (Nat.le_refl _) _⟩
  case round =>
    obtain ⟨t, acc, rfl, ht1, hat, hts, HF, HC, hown, hb⟩ := hrel
    obtain ⟨X, d, rfl, hle, hsX, _⟩ := hown.sl
    have HW := Lib.hid hown
    have HSX := Lib.hid hsX
    have HB := Lib.hid hb
    clear hown hsX hb
    by_cases hlt : t < s.size
    · obtain ⟨rest, hrest⟩ : ∃ r, r = (bs s).drop t := ⟨_, rfl⟩
      have hrl : rest.length = s.size - t := by rw [hrest, List.length_drop, size_bs]
      have hne : rest ≠ [] := fun e => by rw [e] at hrl; simp at hrl; omega
      have hFC := HC.out
      rw [← hrest] at hFC
      have HSF := Lib.hid (hFC.sfail hne)
      have HSS := Lib.hid (hFC.sstep hne)
      have hh1 := headC_le 61 rest
      have HN1 := Lib.hid (headC_ne 61 rest)
      have HA1 := Lib.hid (headC_at 61 rest)
      obtain ⟨h1, hh⟩ : ∃ h, h = (headC 61 rest).length := ⟨_, rfl⟩
      rw [← hh] at HSF HSS hh1 HN1 HA1
      have hh2 := headC_le 59 (rest.drop h1)
      have HN2 := Lib.hid (headC_ne 59 (rest.drop h1))
      have HA2 := Lib.hid (headC_at 59 (rest.drop h1))
      obtain ⟨h2, hhh⟩ : ∃ h, h = (headC 59 (rest.drop h1)).length := ⟨_, rfl⟩
      rw [← hhh] at HSF HSS hh2 HN2 HA2
      rw [List.length_drop] at hh2
      have HR := Lib.hid hrest
      have HG := Lib.hid (show ∀ j (h : j < rest.length) (h' : t + j < s.size), rest[j] = s[t + j] from fun j h h' => by
        have e : rest[j]? = (bs s)[t + j]? := by rw [hrest, List.getElem?_drop]
        rw [List.getElem?_eq_getElem h, List.getElem?_eq_getElem (show t + j < (bs s).length from h')] at e
        injection e)
      have HRL := Lib.hid hrl
      clear hrest hFC hh hhh hne
      go_wp2_with fail
      go_loop [6] (fun j => ∃ (q : Nat), q ≤ h1 ∧ j = .int .i64 ((t + q : Nat) : Int)) (fun j => h1 + t - (intOf j).toNat)
      case atStart => exact ⟨0, Nat.zero_le _, rfl⟩
      case round =>
        obtain ⟨q, hq, rfl⟩ := hrel
        by_cases hqh : q < h1
        · have hin : t + q < s.size := by omega
          have hne : ¬ s[t + q].toNat = 61 := by
            have h3 := HN1.out q (by omega) hqh
            rw [HG.out q (by omega) hin] at h3
            intro e; exact h3 (UInt8.toNat_inj.1 e)
          have hne2 : ¬ ((s[t + q].toNat : Int) = 61) := by omega
          have hin2 : ((t + q : Nat) : Int) < (s.size : Int) := by omega
          go_wp2
          go_round
          case rel => exact ⟨q + 1, by omega, by go_num⟩
          case measure => simp [intOf]; omega
        · obtain rfl : q = h1 := by omega
          have hst1 : t + q < s.size → ∃ h : t + q < s.size, s[t + q].toNat = 61 := fun h => ⟨h, by
            have h3 := HA1.out (by omega)
            rw [HG.out q (by omega) h] at h3
            rw [h3]; rfl⟩
          have HS1 := Lib.hid hst1
          have HH2 := Lib.hid (show ∀ p, p < h2 → ∀ h : t + q + p < s.size, ¬ s[t + q + p].toNat = 59 from fun p hp h e => by
            have h3 := HN2.out p (by rw [List.length_drop]; omega) hp
            rw [List.getElem_drop, HG.out (q + p) (by omega) (by omega)] at h3
            apply h3
            have e2 : t + (q + p) = t + q + p := by omega
            simp only [e2]
            exact UInt8.toNat_inj.1 e)
          have HS2 := Lib.hid (show ∀ h : t + q + h2 < s.size, s[t + q + h2].toNat = 59 from fun h => by
            have h3 := HA2.out (by rw [List.length_drop]; omega)
            rw [List.getElem_drop, HG.out (q + h2) (by omega) (by omega)] at h3
            have e2 : t + (q + h2) = t + q + h2 := by omega
            simp only [e2] at h3
            rw [h3]; rfl)
          have HP1 := Lib.hid (show t + q + h2 < s.size → 1 ≤ h2 from fun h => by
            by_cases e : h2 = 0
            · obtain ⟨h5, h6⟩ := HS1.out (by omega)
              have h7 := HS2.out h
              simp only [e, Nat.add_zero] at h7
              rw [h6] at h7; cases h7
            · omega)
          have HE1 := Lib.hid (show s.extract t (t + q) = mk (rest.take q) by rw [ext_drop, ← HR.out]; congr 2; omega)
          have HE2 := Lib.hid (show s.extract (t + q + 1) (t + q + h2) = mk ((rest.drop (q + 1)).take (h2 - 1)) by
            rw [ext_drop, HR.out, List.drop_drop, show t + (q + 1) = t + q + 1 by omega]; congr 2; omega)
          have HE3 := Lib.hid (show rest.drop (q + h2 + 1) = (bs s).drop (t + q + h2 + 1) by rw [HR.out, List.drop_drop]; congr 1; omega)
          have hq2 : q + h2 ≤ rest.length := by omega
          clear hst1 HN1 HA1 HN2 HA2 HG HR
          have hsl : t + q + h2 ≤ s.size := by omega
          have HLT := Lib.hid (show t + q + h2 < s.size → q + h2 < rest.length from fun h => by omega)
          have HGE := Lib.hid (show ¬ t + q + h2 < s.size → ¬ q + h2 < rest.length from fun h => by omega)
          have htsg : t ≤ t + q := by omega
          have hnn : (mk (rest.take q)).size ≤ 16777216 := by rw [mk_size, List.length_take]; omega
          have hdd : (mk ((rest.drop (q + 1)).take (h2 - 1))).size ≤ 16777216 := by rw [mk_size, List.length_take, List.length_drop]; omega
          have hRH := fun w => sReadHex_any (mk ((rest.drop (q + 1)).take (h2 - 1))) w hdd
          rw [show bs (mk ((rest.drop (q + 1)).take (h2 - 1))) = (rest.drop (q + 1)).take (h2 - 1) from rfl] at hRH
          have HRH := Lib.hid hRH
          clear hRH
          rw [HE3.out] at HSS
          clear HE3
          generalize readH ((rest.drop (q + 1)).take (h2 - 1)) = hx at *
          generalize mk ((rest.drop (q + 1)).take (h2 - 1)) = DG at *
          generalize mk (rest.take q) = NN at *
          generalize hsg : t + q = sg at *
          have hex : (sg < s.size ∧ ∃ h : sg < s.size, s[sg].toNat = 61) ∨ ¬ sg < s.size := by
            by_cases h : sg < s.size
            · exact .inl ⟨h, HS1.out h⟩
            · exact .inr h
          rcases hex with ⟨hz, _, h61⟩ | hz
          case inr =>
            have hz2 : h2 = 0 := by omega
            subst hz2
            have hE := HSF.out (HGE.out (by omega))
            have heq : (sg : Int) = (s.size : Int) := by omega
            have HE := Lib.hid hE
            clear hE HSF HSS HH2 HS2 HP1 HS1 HE1 HE2 HRL HLT HGE
            go_wp2_with fail
            go_loop [7] (fun j => j = .int .i64 (s.size : Int)) (fun _ => 0)
            case atStart => rfl
            case round =>
              subst hrel
              go_wp2
              go_ret2
              exact RfRes.made HE.out HB.out
          case inl =>
            go_wp2_with fail
            go_loop [7] (fun j => ∃ (p : Nat), p ≤ h2 ∧ j = .int .i64 ((sg + p : Nat) : Int)) (fun j => h2 + sg - (intOf j).toNat)
            case atStart => exact ⟨0, Nat.zero_le _, rfl⟩
            case round =>
              obtain ⟨p, hp, rfl⟩ := hrel
              by_cases hph : p < h2
              · have hin : sg + p < s.size := by omega
                have hne := HH2.out p hph hin
                have hne2 : ¬ ((s[sg + p].toNat : Int) = 59) := by omega
                have hin2 : ((sg + p : Nat) : Int) < (s.size : Int) := by omega
                go_wp2
                go_round
                case rel => exact ⟨p + 1, by omega, by go_num⟩
                case measure => simp [intOf]; omega
              · obtain rfl : p = h2 := by omega
                by_cases hend : sg + p < s.size
                · have h59 := HS2.out hend
                  have hp1 := HP1.out hend
                  have hq3 := HLT.out hend
                  have HN := Lib.hid HSS.out
                  have HFN := Lib.hid (show FitE (acc ++ [(NN, hx)]) from fun z hz => by
                    rcases List.mem_append.1 hz with h | h
                    · exact HF.out z h
                    · rw [List.mem_singleton.1 h]; exact hnn)
                  have he1 := HE1.out
                  have he2 := HE2.out
                  have hnd : ¬ ((sg + p : Nat) : Int) = (s.size : Int) := by omega
                  have hw1 : IntKind.i64.wrap ((sg : Int) + 1) = (sg : Int) + 1 := IntWalk.i64_in _ (by omega)
                  have hw2 : (0 : Int) ≤ (sg : Int) + 1 := by omega
                  have hw3 : ((sg : Int) + 1).toNat = sg + 1 := by omega
                  have HL := Lib.hid (show acc.length ≤ 16777216 by omega)
                  have HTT := Lib.hid (show t ≤ sg ∧ acc.length ≤ t ∧ sg + p < s.size from ⟨htsg, hat, hend⟩)
                  have hsgs : sg < s.size := by omega
                  clear HH2 HS2 HP1 HS1 HSF HSS HE1 HE2 HRL HLT HGE hsg
                  generalize hen : sg + p = en at *
                  have hw4 : (sg : Int) + 1 ≤ (en : Int) := by omega
                  have hw5 : (en : Int) ≤ (s.size : Int) := by omega
                  have hw6 : sg + 1 ≤ en := by omega
                  have hw7 : en ≤ s.size := by omega
                  have hw8 : sg ≤ s.size := by omega
                  have hw9 : (t : Int) ≤ (sg : Int) := by omega
                  have hw10 : (sg : Int) ≤ (s.size : Int) := by omega
                  clear hen
                  go_wp2_with fail
                  first
                    | go_region_held3 (fun w' => True) (trivial)
                        ((first
                          | (go_at_call 82; refine (HRH.out _).mono ?_; rintro e w3 ⟨rfl, rfl⟩)
                          | (refine step_en_g (w0 := w) (y := (NN, hx)) HW.out HB.out HL.out (by rfl) rfl (by rfl) (by rfl) ?_; intro v4 w4 hown4 hb4; have HW4 := Lib.hid hown4; have HB4 := Lib.hid hb4; clear hown4 hb4)))
                    | fail
                  all_goals
                    go_wp2
                    go_roundw
                    case rel => exact ⟨en + 1, _, by go_num, by omega, by have := HTT.out; simp; omega, by omega, HFN.out, HN.out, HW4.out, HB4.out⟩
                    case measure => have := HTT.out; simp [intOf]; omega
                · have HE := Lib.hid (HSF.out (HGE.out hend))
                  have heq : ((sg + p : Nat) : Int) = (s.size : Int) := by omega
                  clear HSF HSS HH2 HS2 HP1 HS1 HE1 HE2 HRL HLT HGE
                  go_wp2
                  go_ret2
                  exact RfRes.made HE.out HB.out
    · have hnil : (bs s).drop t = [] := List.drop_eq_nil_of_le (by rw [size_bs]; omega)
      have hFC := HC.out
      rw [hnil] at hFC
      have HFT := Lib.hid (fun w h => sFolderText_any X d acc w h (by omega) HF.out)
      have hR : (0 < s.size ∧ (foldT acc = bs s) ∧ readF (bs s) = some acc) ∨ ((s.size = 0 ∨ foldT acc ≠ bs s) ∧ readF (bs s) = none) := by
        by_cases h0 : 0 < s.size
        · have hd := hFC.done (bs_ne_nil h0)
          by_cases he : foldT acc = bs s
          · rw [if_pos he] at hd; exact .inl ⟨h0, he, hd⟩
          · rw [if_neg he] at hd; exact .inr ⟨.inr he, hd⟩
        · exact .inr ⟨.inl (by omega), readF_head (fun h => h0 h.1)⟩
      clear hFC hnil
      rcases hR with ⟨h0, he, hr⟩ | ⟨h0, hr⟩
      · have HE := Lib.hid hr
        have heq : ((mk (foldT acc)).toList == s.toList) = true := by rw [eq_tlx]; exact beq_iff_eq.2 he
        obtain ⟨hne, hne2⟩ := ne_tl (s := s) h0
        clear hr he
        go_wp2_with fail
        refine (HFT.out _ HSX.out).mono ?_
        rintro e w1 ⟨rfl, hb1⟩
        have HW1 := Lib.hid (HW.out.below hb1)
        have HB1 := Lib.hid (Below_then HB.out hb1 (Nat.le_refl _))
        clear hb1
        go_wp2
        go_ret2
        exact RfRes.yes HE.out HW1.out HB1.out
      · have HE := Lib.hid hr
        clear hr
        cases heq : ((mk (foldT acc)).toList == s.toList)
        · clear h0
          go_wp2_with fail
          refine (HFT.out _ HSX.out).mono ?_
          rintro e w1 ⟨rfl, hb1⟩
          have HB1 := Lib.hid (Below_then HB.out hb1 (Nat.le_refl _))
          clear hb1
          go_wp2
          go_ret2
          exact RfRes.made HE.out HB1.out
        · have he : foldT acc = bs s := by rw [eq_tlx] at heq; exact beq_iff_eq.1 heq
          have hz := h0.resolve_right (fun h => h he)
          have hnil := nil_tl hz
          clear h0 he hz
          go_wp2_with fail
          refine (HFT.out _ HSX.out).mono ?_
          rintro e w1 ⟨rfl, hb1⟩
          have HB1 := Lib.hid (Below_then HB.out hb1 (Nat.le_refl _))
          clear hb1
          go_wp2
          all_goals
            go_ret2
            exact RfRes.made HE.out HB1.out
end Go.Proofs.YtaghiefokmapmaaGreatDoor

/- textOf and GetText of the program, walked. -/
set_option linter.unusedVariables false
namespace Go.Proofs.YtaghiefokmapmaaGreatDoor
open Go.RowKit

def GtRes (r : Option ByteArray) (w : World) (e : Ending) (w' : World) : Prop := e = .returned (.tuple #[.string (r.getD ⟨#[]⟩), .bool r.isSome]) ∧ Below w.heap.size w w'
set_option maxHeartbeats 4000000 in
set_option maxRecDepth 100000 in
theorem itextOf_any (A : Option Addr) (c : Nat) (l : List Pc) (x : Int) (w : World) (hs : Sl w encP 2 A l) (hl : l.length ≤ 16777216) (hso : Sorted l) :
    Calls Tryz.prog 163 #[.slice A l.length c, .int .i64 x] w (GtRes (getT l x) w) := by
  have hX := fun w h => findPiece_any A c l x w h hl hso
  have HS := Lib.hid hs
  have hg := getT_here hso (p := x)
  clear hs
  unfold FpRes at hX
  unfold GtRes
  rw [hg]
  cases hh : hereP l x
  · rw [hh] at hX
    have HX := Lib.hid hX
    clear hX hg hso hh
    go_enter Tryz.func163, Tryz.ntmps163
    go_wp2_with fail
    refine (HX.out _ HS.out).mono ?_
    rintro e w1 ⟨rfl, hb⟩
    have HB := Lib.hid hb
    clear hb
    go_wp2
    go_ret2
    exact ⟨rfl, HB.out⟩
  · have hlt : below l x < l.length := by unfold hereP at hh; simp at hh; exact hh.1
    rw [hh] at hX
    rw [getD_pc hlt]
    have HX := Lib.hid hX
    have HG := Lib.hid (fun (w : World) (h : Sl w encP 2 A l) => h.getP hlt)
    generalize l[below l x] = q at *
    obtain ⟨a, t⟩ := q
    simp only at *
    generalize below l x = B at *
    obtain ⟨b, o, rfl, _, _⟩ := HG.out w HS.out
    clear hX hg hso hh
    go_enter Tryz.func163, Tryz.ntmps163
    go_wp2_with fail
    refine (HX.out _ HS.out).mono ?_
    rintro e w1 ⟨rfl, hb⟩
    have HB := Lib.hid hb
    obtain ⟨b', o', e', hc0, hc1⟩ := HG.out _ (HS.out.below hb)
    have hbb : b' = b ∧ o' = o := by injection e' with e'; injection e' with e1 e2; exact ⟨e1.symm, e2.symm⟩
    obtain ⟨rfl, rfl⟩ := hbb
    clear hb e'
    go_wp2
    go_ret2
    exact ⟨rfl, HB.out⟩
end Go.Proofs.YtaghiefokmapmaaGreatDoor

/- ContentValid, ReadFile, TextKind, l4Get of the reference; folderOf of the program, walked. -/
set_option linter.unusedVariables false
namespace Go.Proofs.YtaghiefokmapmaaGreatDoor
open Go.RowKit
set_option maxHeartbeats 1000000 in
set_option maxRecDepth 100000 in
theorem sContentValid_any (s : ByteArray) (w : World) (hs : s.size ≤ 16777216) :
    Calls Tryz.prog 139 #[.string s] w fun e w' => e = .returned (.bool (contV (bs s))) ∧ w = w' := by
  have hTV := fun w => sTextValid_any s w hs
  have E := Lib.hid (show contV (bs s) = (textV (bs s) && decide (s.size ≤ 40)) from rfl)
  rw [E.out]
  cases hv : textV (bs s)
  · rw [hv] at hTV
    have HTV := Lib.hid hTV
    clear hTV hv E
    go_enter Tryz.func139, Tryz.ntmps139
    go_wp2_with (go_at_call 133; refine (HTV.out _).mono ?_; rintro e w' ⟨rfl, rfl⟩)
    go_ret
    exact ⟨rfl, rfl⟩
  · rw [hv] at hTV
    have HTV := Lib.hid hTV
    clear hTV hv E
    by_cases h : s.size ≤ 40
    · have h' : (s.size : Int) ≤ 40 := by omega
      rw [decide_eq_true h]
      clear h
      go_enter Tryz.func139, Tryz.ntmps139
      go_wp2_with (go_at_call 133; refine (HTV.out _).mono ?_; rintro e w' ⟨rfl, rfl⟩)
      go_ret
      first | exact ⟨rfl, rfl⟩ | exact ⟨ret_bool (decide_eq_true h'), rfl⟩
    · have h' : ¬ (s.size : Int) ≤ 40 := by omega
      rw [decide_eq_false h]
      clear h
      go_enter Tryz.func139, Tryz.ntmps139
      go_wp2_with (go_at_call 133; refine (HTV.out _).mono ?_; rintro e w' ⟨rfl, rfl⟩)
      go_ret
      first | exact ⟨rfl, rfl⟩ | exact ⟨ret_bool (decide_eq_false (Int.not_le.2 h')), rfl⟩
def RdRes (r : Option Bs) (w : World) (e : Ending) (w' : World) : Prop := e = .returned (.tuple #[.string (mk (r.getD [])), .bool r.isSome]) ∧ w = w'
theorem readFi_head {s : ByteArray} (h : 0 < s.size) : readFi (bs s) = if s[0] = 102 ∧ contV (bs s).tail = true then some (bs s).tail else none := by
  have hh := head_bs0 h
  cases hb : bs s with
  | nil => have := size_bs s; rw [hb] at this; simp at this; omega
  | cons x r =>
    rw [hb] at hh
    have hx : x = s[0] := by simpa using hh
    unfold readFi
    simp only [List.tail_cons, ← hx]
    by_cases h1 : x = 102 <;> cases h2 : contV r <;> simp [h1]
set_option maxHeartbeats 1000000 in
set_option maxRecDepth 100000 in
theorem sReadFile_any (s : ByteArray) (w : World) (hs : s.size ≤ 16777216) : Calls Tryz.prog 148 #[.string s] w (RdRes (readFi (bs s)) w) := by
  unfold RdRes
  by_cases h0 : 0 < s.size
  · have hE := readFi_head h0
    obtain ⟨hne, hne2⟩ := ne_tl (s := s) h0
    have hx := drop1_ext s
    have hz : 1 ≤ s.size := h0
    have hts : (mk (bs s).tail).size ≤ 16777216 := by rw [mk_size, List.length_tail, size_bs]; omega
    have hCV := fun w => sContentValid_any (mk (bs s).tail) w hts
    rw [show bs (mk (bs s).tail) = (bs s).tail from rfl] at hCV
    by_cases h1 : s[0] = 102
    · have h1n : (s[0].toNat : Int) = 102 := by rw [h1]; rfl
      cases hc : contV (bs s).tail
      · rw [if_neg (by rw [hc]; simp)] at hE
        rw [hc] at hCV
        have HCV := Lib.hid hCV
        have HE := Lib.hid hE
        clear hCV hE hc h1
        rw [HE.out]
        generalize mk (bs s).tail = TT at *
        go_enter Tryz.func148, Tryz.ntmps148
        go_wp2_with (go_at_call 139; refine (HCV.out _).mono ?_; rintro e w' ⟨rfl, rfl⟩)
        go_ret2
        exact ⟨rfl, rfl⟩
      · rw [if_pos ⟨h1, hc⟩] at hE
        rw [hc] at hCV
        have HCV := Lib.hid hCV
        have HE := Lib.hid hE
        clear hCV hE hc h1
        rw [HE.out]
        show Calls _ _ _ _ fun e w' => e = .returned (.tuple #[.string (mk (bs s).tail), .bool true]) ∧ w = w'
        generalize mk (bs s).tail = TT at *
        go_enter Tryz.func148, Tryz.ntmps148
        go_wp2_with (go_at_call 139; refine (HCV.out _).mono ?_; rintro e w' ⟨rfl, rfl⟩)
        go_ret2
        exact ⟨rfl, rfl⟩
    · have h1n : ¬ (s[0].toNat : Int) = 102 := by
        intro e; apply h1; apply UInt8.toNat_inj.1; show s[0].toNat = 102; omega
      rw [if_neg (fun h => h1 h.1)] at hE
      have HE := Lib.hid hE
      clear hE hCV h1 hx
      rw [HE.out]
      go_enter Tryz.func148, Tryz.ntmps148
      go_wp2
      go_ret2
      exact ⟨rfl, rfl⟩
  · have hz : s.size = 0 := by omega
    have HE := Lib.hid (show readFi (bs s) = none by rw [show bs s = [] from List.eq_nil_of_length_eq_zero hz]; rfl)
    have hnil := nil_tl hz
    rw [HE.out]
    clear h0 hz
    go_enter Tryz.func148, Tryz.ntmps148
    go_wp2
    go_ret2
    exact ⟨rfl, rfl⟩
set_option maxHeartbeats 1000000 in
set_option maxRecDepth 100000 in
theorem sTextKind_any (s : ByteArray) (w : World) (hs : s.size ≤ 1048576) : Calls Tryz.prog 138 #[.string s] w fun e w' => e = .returned (.int .i64 (textK (bs s))) ∧ Below w.heap.size w w' := by
  have hRF := fun w => sReadFile_any s w (by omega)
  have hRd := fun w => sReadFolder_any s w hs
  have hE : textK (bs s) = if (readFi (bs s)).isSome then 1 else if (readF (bs s)).isSome then 2 else 0 := rfl
  unfold RdRes at hRF
  unfold RfRes at hRd
  rw [hE]
  generalize readFi (bs s) = P at *
  generalize readF (bs s) = Q at *
  clear hE
  have HRF := Lib.hid hRF
  have HRd := Lib.hid hRd
  clear hRF hRd
  cases P with
  | none =>
    cases Q with
    | none =>
      go_enter Tryz.func138, Tryz.ntmps138
      go_wp2_with (go_at_call 148; refine (HRF.out _).mono ?_; rintro e w' ⟨rfl, rfl⟩)
      refine (HRd.out _).mono ?_
      rintro e w1 ⟨v, rfl, hown, hb⟩
      have HB := Lib.hid hb
      clear hb hown
      go_wp2
      go_ret
      exact ⟨rfl, HB.out⟩
    | some q =>
      go_enter Tryz.func138, Tryz.ntmps138
      go_wp2_with (go_at_call 148; refine (HRF.out _).mono ?_; rintro e w' ⟨rfl, rfl⟩)
      refine (HRd.out _).mono ?_
      rintro e w1 ⟨v, rfl, hown, hb⟩
      have HB := Lib.hid hb
      clear hb hown
      go_wp2
      go_ret
      exact ⟨rfl, HB.out⟩
  | some p =>
    go_enter Tryz.func138, Tryz.ntmps138
    go_wp2_with (go_at_call 148; refine (HRF.out _).mono ?_; rintro e w' ⟨rfl, rfl⟩)
    refine (HRd.out _).mono ?_
    rintro e w1 ⟨v, rfl, hown, hb⟩
    have HB := Lib.hid hb
    clear hb hown
    go_wp2
    go_ret
    exact ⟨rfl, HB.out⟩
theorem getT_find {l : List Pc} {p : Int} {k : Nat} (hk : k < l.length) (h : ∀ j (h : j < l.length), j < k → l[j].1 ≠ p) (he : l[k].1 = p) : getT l p = some l[k].2 := by
  unfold getT
  have : l.find? (fun x => x.1 == p) = some l[k] := by
    rw [List.find?_eq_some_iff_getElem]
    refine ⟨by simpa using he, k, hk, rfl, fun j hj => ?_⟩
    simpa using h j (by omega) hj
  rw [this]; rfl
set_option maxHeartbeats 1000000 in
set_option maxRecDepth 100000 in
theorem sl4Get_any (A : Option Addr) (c : Nat) (l : List Pc) (p : Int) (w : World) (hs : Sl w encP 2 A l) (hl : l.length ≤ 16777216) :
    Calls Tryz.prog 137 #[.slice A l.length c, .int .i64 p] w fun e w' => e = .returned (.tuple #[.string ((getT l p).getD ⟨#[]⟩), .bool (getT l p).isSome]) ∧ w = w' := by
  have HS := Lib.hid hs
  clear hs
  generalize hr : getT l p = R at *
  have HR := Lib.hid hr
  clear hr
  go_enter Tryz.func137, Tryz.ntmps137
  go_wp2_with fail
  go_loop [6] (fun i => ∃ (k : Nat), k ≤ l.length ∧ i = .int .i64 k ∧ Hid (∀ j (h : j < l.length), j < k → l[j].1 ≠ p)) (fun i => l.length - (intOf i).toNat)
  case atStart => exact ⟨0, Nat.zero_le _, rfl, fun j h h2 => by omega⟩
  case round =>
    obtain ⟨k, hk, rfl, HH⟩ := hrel
    by_cases hlt : k < l.length
    · obtain ⟨b, o, rfl, hc0, hc1⟩ := HS.out.getP hlt
      have HF := Lib.hid (fun (he : l[k].1 = p) => getT_find hlt HH.out he)
      have HN := Lib.hid (fun (hne : l[k].1 ≠ p) => show ∀ j (h : j < l.length), j < k + 1 → l[j].1 ≠ p from fun j h h2 => by
        by_cases e : j = k
        · subst e; exact hne
        · exact HH.out j h (by omega))
      generalize l[k] = q at *
      obtain ⟨a, t⟩ := q
      simp only at *
      by_cases he : a = p
      · have HE := Lib.hid (show R = some t by rw [← HR.out]; exact HF.out he)
        subst he
        go_wp2
        go_ret2
        rw [HE.out]
        exact ⟨rfl, rfl⟩
      · have HNN := Lib.hid (HN.out he)
        go_wp2
        go_round
        case rel => exact ⟨k + 1, by omega, by go_num, HNN.out⟩
        case measure => simp [intOf]; omega
    · have HE := Lib.hid (show R = none by
        rw [← HR.out]
        refine getT_none_iff.2 fun x hx => ?_
        obtain ⟨j, hj, rfl⟩ := List.getElem_of_mem hx
        exact HH.out j hj (by omega))
      go_wp2
      go_ret2
      rw [HE.out]
      exact ⟨rfl, rfl⟩
set_option maxHeartbeats 1000000 in
set_option maxRecDepth 100000 in
theorem ifolderOf_any (A : Option Addr) (c : Nat) (l : List Pc) (p : Int) (w : World) (hs : Sl w encP 2 A l) (hv : storeV l = true) (ht : TzL w) (hm : MaxL w) :
    Calls Tryz.prog 104 #[.slice A l.length c, .int .i64 p] w (RfRes (folderOf l p) w) := by
  have HS := Lib.hid hs
  have HT := Lib.hid ht
  have HM := Lib.hid hm
  have hl := storeV_len hv
  have hX := fun w h => itextOf_any A c l p w h (by omega) (storeV_sorted hv)
  have hsz : ∀ t, getT l p = some t → t.size ≤ 60 := fun t h => textV_size (getT_valid hv h).1
  clear hs ht hm
  unfold GtRes at hX
  unfold folderOf
  cases hg : getT l p with
  | none =>
    rw [hg] at hX
    have HX := Lib.hid hX
    clear hX hg hsz hv
    go_enter Tryz.func104, Tryz.ntmps104
    go_wp2_with fail
    refine (HX.out _ HS.out).mono ?_
    rintro e w1 ⟨rfl, hb⟩
    have HB := Lib.hid hb
    clear hb
    go_wp2
    go_ret2
    exact RfRes.no rfl HB.out
  | some t =>
    have hts := hsz t hg
    rw [hg] at hX
    have HX := Lib.hid hX
    have hRF := fun w h h2 => iReadFolder_any t w (by omega) h h2
    rw [Option.bind_some]
    unfold RfRes at *
    rw [show readF (tx t) = readF (bs t) from rfl]
    generalize readF (bs t) = R at *
    have HRF := Lib.hid hRF
    clear hX hg hsz hv hRF
    go_enter Tryz.func104, Tryz.ntmps104
    go_wp2_with fail
    refine (HX.out _ HS.out).mono ?_
    rintro e w1 ⟨rfl, hb⟩
    have HB := Lib.hid hb
    clear hb
    go_wp2_with fail
    refine (HRF.out _ (HT.out.below HB.out) (HM.out.below HB.out)).mono ?_
    rintro e w2 ⟨v, rfl, hown, hb⟩
    have HW := Lib.hid (hown.mono HB.out.size)
    have HB2 := Lib.hid (Below_then HB.out hb (Nat.le_refl _))
    clear hown hb
    go_wp2
    go_ret2
    exact ⟨_, rfl, HW.out, HB2.out⟩
end Go.Proofs.YtaghiefokmapmaaGreatDoor

/- Walks by names: files, WalkTo, ReadAt. -/
set_option linter.unusedVariables false
namespace Go.Proofs.YtaghiefokmapmaaGreatDoor
open Go.RowKit
set_option maxHeartbeats 1000000 in
set_option maxRecDepth 100000 in
theorem iContentValid_any (s : ByteArray) (w : World) (hs : s.size ≤ 16777216) :
    Calls Tryz.prog 122 #[.string s] w fun e w' => e = .returned (.bool (contV (bs s))) ∧ w = w' := by
  have hTV := fun w => iTextValid_any s w hs
  have E := Lib.hid (show contV (bs s) = (textV (bs s) && decide (s.size ≤ 40)) from rfl)
  rw [E.out]
  cases hv : textV (bs s)
  · rw [hv] at hTV
    have HTV := Lib.hid hTV
    clear hTV hv E
    go_enter Tryz.func122, Tryz.ntmps122
    go_wp2_with (go_at_call 120; refine (HTV.out _).mono ?_; rintro e w' ⟨rfl, rfl⟩)
    go_ret
    exact ⟨rfl, rfl⟩
  · rw [hv] at hTV
    have HTV := Lib.hid hTV
    clear hTV hv E
    by_cases h : s.size ≤ 40
    · have h' : (s.size : Int) ≤ 40 := by omega
      rw [decide_eq_true h]
      clear h
      go_enter Tryz.func122, Tryz.ntmps122
      go_wp2_with (go_at_call 120; refine (HTV.out _).mono ?_; rintro e w' ⟨rfl, rfl⟩)
      go_ret
      first | exact ⟨rfl, rfl⟩ | exact ⟨ret_bool (decide_eq_true h'), rfl⟩
    · have h' : ¬ (s.size : Int) ≤ 40 := by omega
      rw [decide_eq_false h]
      clear h
      go_enter Tryz.func122, Tryz.ntmps122
      go_wp2_with (go_at_call 120; refine (HTV.out _).mono ?_; rintro e w' ⟨rfl, rfl⟩)
      go_ret
      first | exact ⟨rfl, rfl⟩ | exact ⟨ret_bool (decide_eq_false (Int.not_le.2 h')), rfl⟩
set_option maxHeartbeats 1000000 in
set_option maxRecDepth 100000 in
theorem iReadFile_any (s : ByteArray) (w : World) (hs : s.size ≤ 16777216) : Calls Tryz.prog 177 #[.string s] w (RdRes (readFi (bs s)) w) := by
  unfold RdRes
  have hCP := fun w => CutPrefix_any s 102 w hs
  unfold prefV at hCP
  by_cases h0 : 0 < s.size ∧ (bs s).headD 0 = 102
  · have hE := readFi_head h0.1
    have h1 : s[0]'h0.1 = 102 := (head_bs0 h0.1).symm.trans h0.2
    have hts : (mk (bs s).tail).size ≤ 16777216 := by rw [mk_size, List.length_tail, size_bs]; omega
    have hCV := fun w => iContentValid_any (mk (bs s).tail) w hts
    rw [show bs (mk (bs s).tail) = (bs s).tail from rfl] at hCV
    simp only [if_pos h0] at hCP
    cases hc : contV (bs s).tail
    · rw [if_neg (by rw [hc]; simp)] at hE
      rw [hc] at hCV
      have HCV := Lib.hid hCV
      have HCP := Lib.hid hCP
      have HE := Lib.hid hE
      clear hCV hE hc h1 hCP
      rw [HE.out]
      generalize mk (bs s).tail = TT at *
      go_enter Tryz.func177, Tryz.ntmps177
      go_wp2_with (first | (go_at_call 170; refine (HCP.out _).mono ?_; rintro e w' ⟨rfl, rfl⟩) | (go_at_call 122; refine (HCV.out _).mono ?_; rintro e w' ⟨rfl, rfl⟩))
      go_ret2
      exact ⟨rfl, rfl⟩
    · rw [if_pos ⟨h1, hc⟩] at hE
      rw [hc] at hCV
      have HCV := Lib.hid hCV
      have HCP := Lib.hid hCP
      have HE := Lib.hid hE
      clear hCV hE hc h1 hCP
      rw [HE.out]
      show Calls _ _ _ _ fun e w' => e = .returned (.tuple #[.string (mk (bs s).tail), .bool true]) ∧ w = w'
      generalize mk (bs s).tail = TT at *
      go_enter Tryz.func177, Tryz.ntmps177
      go_wp2_with (first | (go_at_call 170; refine (HCP.out _).mono ?_; rintro e w' ⟨rfl, rfl⟩) | (go_at_call 122; refine (HCV.out _).mono ?_; rintro e w' ⟨rfl, rfl⟩))
      go_ret2
      exact ⟨rfl, rfl⟩
  · have hE : readFi (bs s) = none := by
      by_cases hz : 0 < s.size
      · rw [readFi_head hz, if_neg]
        rintro ⟨h1, _⟩
        exact h0 ⟨hz, (head_bs0 hz).trans h1⟩
      · rw [show bs s = [] from List.eq_nil_of_length_eq_zero (by rw [size_bs]; omega)]; rfl
    simp only [if_neg h0] at hCP
    have HCP := Lib.hid hCP
    have HE := Lib.hid hE
    clear hE hCP h0
    rw [HE.out]
    go_enter Tryz.func177, Tryz.ntmps177
    go_wp2_with (go_at_call 170; refine (HCP.out _).mono ?_; rintro e w' ⟨rfl, rfl⟩)
    go_ret2
    exact ⟨rfl, rfl⟩
def FoRes (r : Option Bs) (w : World) (e : Ending) (w' : World) : Prop := e = .returned (.tuple #[.string (mk (r.getD [])), .bool r.isSome]) ∧ Below w.heap.size w w'
set_option maxHeartbeats 1000000 in
set_option maxRecDepth 100000 in
theorem ifileOf_any (A : Option Addr) (c : Nat) (l : List Pc) (p : Int) (w : World) (hs : Sl w encP 2 A l) (hv : storeV l = true) :
    Calls Tryz.prog 118 #[.slice A l.length c, .int .i64 p] w (FoRes (fileOf l p) w) := by
  have HS := Lib.hid hs
  have hl := storeV_len hv
  have hX := fun w h => itextOf_any A c l p w h (by omega) (storeV_sorted hv)
  have hsz : ∀ t, getT l p = some t → t.size ≤ 60 := fun t h => textV_size (getT_valid hv h).1
  clear hs
  unfold GtRes at hX
  unfold fileOf FoRes
  cases hg : getT l p with
  | none =>
    rw [hg] at hX
    have HX := Lib.hid hX
    clear hX hg hsz hv
    go_enter Tryz.func118, Tryz.ntmps118
    go_wp2_with fail
    refine (HX.out _ HS.out).mono ?_
    rintro e w1 ⟨rfl, hb⟩
    have HB := Lib.hid hb
    clear hb
    go_wp2
    go_ret2
    exact ⟨rfl, HB.out⟩
  | some t =>
    have hts := hsz t hg
    rw [hg] at hX
    have HX := Lib.hid hX
    have hRF := fun w => iReadFile_any t w (by omega)
    rw [Option.bind_some]
    unfold RdRes at hRF
    rw [show readFi (tx t) = readFi (bs t) from rfl]
    generalize readFi (bs t) = R at *
    generalize mk (R.getD []) = TT at *
    generalize R.isSome = B at *
    have HRF := Lib.hid hRF
    clear hX hg hsz hv hRF
    go_enter Tryz.func118, Tryz.ntmps118
    go_wp2_with fail
    refine (HX.out _ HS.out).mono ?_
    rintro e w1 ⟨rfl, hb⟩
    have HB := Lib.hid hb
    clear hb
    go_wp2_with (go_at_call 177; refine (HRF.out _).mono ?_; rintro e w' ⟨rfl, rfl⟩)
    go_ret2
    exact ⟨rfl, HB.out⟩
def WkRes (r : Option Int) (w : World) (e : Ending) (w' : World) : Prop := e = .returned (.tuple #[.int .i64 (r.getD (-1)), .bool r.isSome]) ∧ Below w.heap.size w w'
theorem WkRes.no {r : Option Int} (h : r = none) {w w' : World} (hb : Below w.heap.size w w') : WkRes r w (.returned (.tuple #[.int .i64 (-1), .bool false])) w' := by
  subst h; exact ⟨rfl, hb⟩
theorem WkRes.yes {r : Option Int} {p : Int} (h : r = some p) {w w' : World} (hb : Below w.heap.size w w') : WkRes r w (.returned (.tuple #[.int .i64 p, .bool true])) w' := by
  subst h; exact ⟨rfl, hb⟩
theorem pathParts_len {s : Bs} {l : List ByteArray} (h : l = ((pathP s).getD []).map mk) : l.length ≤ 3 := by
  subst h
  rw [List.length_map]
  cases hp : pathP s with
  | none => simp
  | some ps => exact (partsV_iff.1 (pathP_join hp).1).1
set_option maxHeartbeats 4000000 in
set_option maxRecDepth 100000 in
theorem iWalkTo_any (A : Option Addr) (c : Nat) (l : List Pc) (root : Int) (path : ByteArray) (w : World) (hs : Sl w encP 2 A l) (hl : l.length ≤ 16777216) (hf : FitP l) (hp : path.size ≤ 1048576) (ht : TzL w) (hm : MaxL w) :
    Calls Tryz.prog 117 #[.slice A l.length c, .int .i64 root, .string path] w (WkRes (walkTo l root (bs path)) w) := by
  have HS := Lib.hid hs
  have HT := Lib.hid ht
  have HM := Lib.hid hm
  have HP := Lib.hid (fun w h => iPathPartsS_any path w hp h)
  have hSV := fun w h => iStoreValid_any A c l w h hl hf
  clear hs ht hm
  cases hpp : pathP (bs path) with
  | none =>
    have HE := Lib.hid (walkTo_path (s := l) (root := root) hpp)
    go_enter Tryz.func117, Tryz.ntmps117
    go_wp2_with fail
    refine (HP.out _ HM.out).mono ?_
    rintro e w1 ⟨pl, PA, pc, hpl, rfl, hple, hps, hb⟩
    rw [hpp] at hpl ⊢
    have HB := Lib.hid hb
    clear hb hpl hps hSV
    simp only [Option.isSome_none]
    go_wp2
    go_ret2
    exact WkRes.no HE.out HB.out
  | some ps =>
    cases hv : storeV l
    · have HE := Lib.hid (walkTo_store (root := root) (path := bs path) hv)
      rw [hv] at hSV
      have HSV := Lib.hid hSV
      go_enter Tryz.func117, Tryz.ntmps117
      go_wp2_with fail
      refine (HP.out _ HM.out).mono ?_
      rintro e w1 ⟨pl, PA, pc, hpl, rfl, hple, hps, hb⟩
      rw [hpp] at hpl ⊢
      have HB := Lib.hid hb
      have HS1 := Lib.hid (HS.out.below hb)
      clear hb hpl hps hSV
      simp only [Option.isSome_some]
      go_wp2_with fail
      refine (HSV.out _ HS1.out).mono ?_
      rintro e w2 ⟨rfl, hb2⟩
      have HB2 := Lib.hid (Below_then HB.out hb2 (Nat.le_refl _))
      clear hb2
      go_wp2
      go_ret2
      exact WkRes.no HE.out HB2.out
    · rw [hv] at hSV
      have HSV := Lib.hid hSV
      have HV := Lib.hid hv
      have hl60 := storeV_len hv
      go_enter Tryz.func117, Tryz.ntmps117
      go_wp2_with fail
      refine (HP.out _ HM.out).mono ?_
      rintro e w1 ⟨pl, PA, pc, hpl, rfl, hple, hps, hb⟩
      have hp3 := pathParts_len hpl
      rw [hpp] at hpl ⊢
      have HE := Lib.hid (walkTo_yes (root := root) hv hpp hpl)
      have HPS := Lib.hid hps
      have HB := Lib.hid hb
      have HS1 := Lib.hid (HS.out.below hb)
      have HT1 := Lib.hid (HT.out.below hb)
      have HM1 := Lib.hid (HM.out.below hb)
      clear hb hpl hps hSV hpp hv hple
      simp only [Option.isSome_some]
      go_wp2_with fail
      refine (HSV.out _ HS1.out).mono ?_
      rintro e w2 ⟨rfl, hb2⟩
      have HB2 := Lib.hid (Below_then HB.out hb2 (Nat.le_refl _))
      have HPS2 := Lib.hid (HPS.out.below hb2)
      have HS2 := Lib.hid (HS1.out.below hb2)
      have HT2 := Lib.hid (HT1.out.below hb2)
      have HM2 := Lib.hid (HM1.out.below hb2)
      clear hb2
      go_wp2_with fail
      go_loopw [10, 34] (fun va vi wr => ∃ (k : Nat) (at_ : Int), k ≤ pl.length ∧ va = .int .i64 at_ ∧ vi = .int .i64 k ∧ Hid (walkTo l root (bs path) = walkB l at_ (pl.drop k)) ∧ Hid (Below w2.heap.size w2 wr)) (fun _ vi _ => pl.length - (intOf vi).toNat)
      case atStart => exact ⟨0, root, Nat.zero_le _, rfl, rfl, HE.out, Below.refl _ _⟩
      case round =>
        obtain ⟨k, at_, hk, rfl, rfl, HW, HBW⟩ := hrel
        have HBA := Lib.hid (Below_then HB2.out HBW.out (Nat.le_refl _))
        have HSW := Lib.hid (HS2.out.below HBW.out)
        by_cases hlt : k < pl.length
        · obtain ⟨b, o, rfl, hc⟩ := (HPS2.out.below HBW.out).getS hlt
          have hFO := fun w h h2 h3 => ifolderOf_any A c l at_ w h HV.out h2 h3
          unfold RfRes at hFO
          cases hfo : folderOf l at_ with
          | none =>
            have HE2 := Lib.hid (HW.out.trans (walkB_none hlt hfo))
            rw [hfo] at hFO
            have HFO := Lib.hid hFO
            clear hFO hfo
            generalize pl[k] = nm at *
            go_wp2_with fail
            refine (HFO.out _ HSW.out (HT2.out.below HBW.out) (HM2.out.below HBW.out)).mono ?_
            rintro e w3 ⟨v3, rfl, hown3, hb3⟩
            have HB3 := Lib.hid (Below_then HBA.out hb3 (Nat.le_refl _))
            clear hown3 hb3
            go_wp2
            go_ret2
            exact WkRes.no HE2.out HB3.out
          | some en =>
            have hen3 : en.length ≤ 3 := entsV_len (folder_valid hfo)
            have hso : SortE en := entsV_sorted (folder_valid hfo)
            rw [hfo] at hFO
            have HFO := Lib.hid hFO
            have hPN := fun A c w h => printNamed_any A c en pl[k] w h (by omega) hso
            unfold PnRes at hPN
            cases hge : getE en (tx pl[k]) with
            | none =>
              have HE2 := Lib.hid (HW.out.trans (walkB_miss hlt hfo hge))
              rw [hge] at hPN
              have HPN := Lib.hid hPN
              clear hFO hfo hge hPN hso
              generalize pl[k] = nm at *
              go_wp2_with fail
              refine (HFO.out _ HSW.out (HT2.out.below HBW.out) (HM2.out.below HBW.out)).mono ?_
              rintro e w3 ⟨v3, rfl, hown3, hb3⟩
              obtain ⟨A3, c3, rfl, _, hs3, _⟩ := hown3.sl
              have HX3 := Lib.hid hs3
              have HB3 := Lib.hid (Below_then HBA.out hb3 (Nat.le_refl _))
              clear hown3 hb3 hs3
              go_wp2_with fail
              refine (HPN.out _ _ _ HX3.out).mono ?_
              rintro e w4 ⟨rfl, hb4⟩
              have HB4 := Lib.hid (Below_then HB3.out hb4 (Nat.le_refl _))
              clear hb4
              go_wp2
              go_ret2
              exact WkRes.no HE2.out HB4.out
            | some q =>
              have HE2 := Lib.hid (HW.out.trans (walkB_next hlt hfo hge))
              rw [hge] at hPN
              have HPN := Lib.hid hPN
              clear hFO hfo hge hPN hso
              generalize pl[k] = nm at *
              go_wp2_with fail
              refine (HFO.out _ HSW.out (HT2.out.below HBW.out) (HM2.out.below HBW.out)).mono ?_
              rintro e w3 ⟨v3, rfl, hown3, hb3⟩
              obtain ⟨A3, c3, rfl, _, hs3, _⟩ := hown3.sl
              have HX3 := Lib.hid hs3
              have HB3 := Lib.hid (Below_then HBW.out hb3 (Nat.le_refl _))
              clear hown3 hb3 hs3
              go_wp2_with fail
              refine (HPN.out _ _ _ HX3.out).mono ?_
              rintro e w4 ⟨rfl, hb4⟩
              have HB4 := Lib.hid (Below_then HB3.out hb4 (Nat.le_refl _))
              clear hb4
              go_wp2
              go_roundw
              case rel => exact ⟨k + 1, q, by omega, rfl, by go_num, HE2.out, HB4.out⟩
              case measure => simp [intOf]; omega
        · have hX := fun w h => itextOf_any A c l at_ w h (by omega) (storeV_sorted HV.out)
          unfold GtRes at hX
          have hE2 := HW.out.trans (walkB_end (by omega))
          cases hg : getT l at_ with
          | none =>
            rw [hg] at hX hE2
            have HX := Lib.hid hX
            have HE2 := Lib.hid (show walkTo l root (bs path) = none from hE2)
            clear hX hE2 hg
            go_wp2_with fail
            refine (HX.out _ HSW.out).mono ?_
            rintro e w3 ⟨rfl, hb3⟩
            have HB3 := Lib.hid (Below_then HBA.out hb3 (Nat.le_refl _))
            clear hb3
            go_wp2
            go_ret2
            exact WkRes.no HE2.out HB3.out
          | some t =>
            rw [hg] at hX hE2
            have HX := Lib.hid hX
            have HE2 := Lib.hid (show walkTo l root (bs path) = some at_ from hE2)
            clear hX hE2 hg
            go_wp2_with fail
            refine (HX.out _ HSW.out).mono ?_
            rintro e w3 ⟨rfl, hb3⟩
            have HB3 := Lib.hid (Below_then HBA.out hb3 (Nat.le_refl _))
            clear hb3
            go_wp2
            go_ret2
            exact WkRes.yes HE2.out HB3.out
theorem walkTo_store_yes {s : List Pc} {root p : Int} {path : Bs} (h : walkTo s root path = some p) : storeV s = true := by
  cases hv : storeV s
  · rw [walkTo_store hv] at h; cases h
  · rfl
set_option maxHeartbeats 4000000 in
set_option maxRecDepth 100000 in
theorem iReadAt_any (A : Option Addr) (c : Nat) (l : List Pc) (root : Int) (path : ByteArray) (w : World) (hs : Sl w encP 2 A l) (hl : l.length ≤ 16777216) (hf : FitP l) (hp : path.size ≤ 1048576) (ht : TzL w) (hm : MaxL w) :
    Calls Tryz.prog 54 #[.slice A l.length c, .int .i64 root, .string path] w (FoRes (readAt l root (bs path)) w) := by
  have HS := Lib.hid hs
  have HT := Lib.hid ht
  have HM := Lib.hid hm
  have hW := fun w h h2 h3 => iWalkTo_any A c l root path w h hl hf hp h2 h3
  clear hs ht hm
  unfold WkRes at hW
  unfold readAt
  cases hw : walkTo l root (bs path) with
  | none =>
    rw [hw] at hW
    have HW := Lib.hid hW
    clear hW hw
    unfold FoRes
    go_enter Tryz.func54, Tryz.ntmps54
    go_wp2_with fail
    refine (HW.out _ HS.out HT.out HM.out).mono ?_
    rintro e w1 ⟨rfl, hb⟩
    have HB := Lib.hid hb
    clear hb
    go_wp2
    go_ret2
    exact ⟨rfl, HB.out⟩
  | some q =>
    have hFO := fun w h => ifileOf_any A c l q w h (walkTo_store_yes hw)
    rw [hw] at hW
    have HW := Lib.hid hW
    rw [Option.bind_some]
    unfold FoRes at hFO ⊢
    generalize fileOf l q = R at *
    generalize mk (R.getD []) = TT at *
    generalize R.isSome = B at *
    have HFO := Lib.hid hFO
    clear hW hw hFO
    go_enter Tryz.func54, Tryz.ntmps54
    go_wp2_with fail
    refine (HW.out _ HS.out HT.out HM.out).mono ?_
    rintro e w1 ⟨rfl, hb⟩
    have HB := Lib.hid hb
    have HS1 := Lib.hid (HS.out.below hb)
    clear hb
    go_wp2_with fail
    refine (HFO.out _ HS1.out).mono ?_
    rintro e w2 ⟨rfl, hb2⟩
    have HB2 := Lib.hid (Below_then HB.out hb2 (Nat.le_refl _))
    clear hb2
    go_wp2
    go_ret2
    exact ⟨rfl, HB2.out⟩
end Go.Proofs.YtaghiefokmapmaaGreatDoor

/- Walks by names, the reference's: GetText, l9Walk, WalkTo, ReadAt. -/
set_option linter.unusedVariables false
namespace Go.Proofs.YtaghiefokmapmaaGreatDoor
open Go.RowKit
set_option maxHeartbeats 1000000 in
set_option maxRecDepth 100000 in
theorem sGetText_any (A : Option Addr) (c : Nat) (l : List Pc) (p : Int) (w : World) (hs : Sl w encP 2 A l) (hl : l.length ≤ 16777216) (hf : FitP l) :
    Calls Tryz.prog 147 #[.slice A l.length c, .int .i64 p] w (GtRes (if storeV l then getT l p else none) w) := by
  have HS := Lib.hid hs
  have hSV := fun w h => sStoreValid_any A c l w h hl hf
  have hG := fun w h => sl4Get_any A c l p w h hl
  unfold GtRes
  clear hs
  cases hv : storeV l
  · rw [hv] at hSV
    have HSV := Lib.hid hSV
    clear hSV hG hv
    go_enter Tryz.func147, Tryz.ntmps147
    go_wp2_with fail
    refine (HSV.out _ HS.out).mono ?_
    rintro e w1 ⟨rfl, hb⟩
    have HB := Lib.hid hb
    clear hb
    go_wp2
    go_ret2
    exact ⟨rfl, HB.out⟩
  · rw [hv] at hSV
    rw [if_pos rfl]
    generalize getT l p = R at *
    generalize R.getD ⟨#[]⟩ = TT at *
    generalize R.isSome = B at *
    have HSV := Lib.hid hSV
    have HG := Lib.hid hG
    clear hSV hv hG
    go_enter Tryz.func147, Tryz.ntmps147
    go_wp2_with fail
    refine (HSV.out _ HS.out).mono ?_
    rintro e w1 ⟨rfl, hb⟩
    have HB := Lib.hid hb
    have HS1 := Lib.hid (HS.out.below hb)
    clear hb
    go_wp2_with (go_at_call 137; refine (HG.out _ HS1.out).mono ?_; rintro e w' ⟨rfl, rfl⟩)
    go_ret2
    exact ⟨rfl, HB.out⟩
def folT (t : ByteArray) : List En := (readF (bs t)).getD []
theorem folT_of {l : List Pc} {p : Int} : folT ((getT l p).getD ⟨#[]⟩) = (folderOf l p).getD [] := by
  unfold folT folderOf
  cases getT l p with
  | none => rfl
  | some t => rfl
theorem folT_some {l : List Pc} {p : Int} : (readF (bs ((getT l p).getD ⟨#[]⟩))).isSome = (folderOf l p).isSome := by
  unfold folderOf
  cases getT l p with
  | none => rfl
  | some t => rfl
theorem getT_size {l : List Pc} (hv : storeV l = true) {p : Int} : ((getT l p).getD ⟨#[]⟩).size ≤ 1048576 := by
  cases hg : getT l p with
  | none => decide
  | some t => exact Nat.le_trans (textV_size (getT_valid hv hg).1) (by omega)
/-- A name is looked up in no folder: nothing is found. -/
theorem bindE {l : List Pc} {p : Int} {n : Bs} : ((folderOf l p).bind fun e => getE e n) = getE ((folderOf l p).getD []) n := by
  cases folderOf l p with
  | none => rfl
  | some e => rfl
theorem walkB_none2 {s : List Pc} {p : Int} {l : List ByteArray} {k : Nat} (hk : k < l.length) (h : getE ((folderOf s p).getD []) (tx l[k]) = none) : walkB s p (l.drop k) = none := by
  cases hf : folderOf s p with
  | none => exact walkB_none hk hf
  | some e => rw [hf] at h; exact walkB_miss hk hf h
theorem walkB_next2 {s : List Pc} {p q : Int} {l : List ByteArray} {k : Nat} (hk : k < l.length) (h : getE ((folderOf s p).getD []) (tx l[k]) = some q) : walkB s p (l.drop k) = walkB s q (l.drop (k + 1)) := by
  cases hf : folderOf s p with
  | none => rw [hf] at h; cases h
  | some e => rw [hf] at h; exact walkB_next hk hf h
set_option maxHeartbeats 4000000 in
set_option maxRecDepth 100000 in
theorem sl9Walk_any (A PA : Option Addr) (c pc : Nat) (l : List Pc) (pl : List ByteArray) (root : Int) (w : World) (hs : Sl w encP 2 A l) (hps : Sl w encS 1 PA pl) (hv : storeV l = true) (hp : pl.length ≤ 3) :
    Calls Tryz.prog 143 #[.slice A l.length c, .int .i64 root, .slice PA pl.length pc] w (WkRes (walkB l root (pl.drop 0)) w) := by
  have HS2 := Lib.hid hs
  have HPS2 := Lib.hid hps
  have HF := Lib.hid hv
  have hl : l.length ≤ 16777216 := by have := storeV_len hv; omega
  have HG := Lib.hid (fun p w h => sl4Get_any A c l p w h hl)
  generalize hE : walkB l root (pl.drop 0) = R
  have HE := Lib.hid hE.symm
  clear hs hps hv hE
  go_enter Tryz.func143, Tryz.ntmps143
  go_wp2_with fail
  go_loopw [1, 8] (fun va vi wr => ∃ (k : Nat) (at_ : Int), k ≤ pl.length ∧ va = .int .i64 at_ ∧ vi = .int .i64 k ∧ Hid (R = walkB l at_ (pl.drop k)) ∧ Hid (Below w.heap.size w wr)) (fun _ vi _ => pl.length - (intOf vi).toNat)
  case atStart => exact ⟨0, root, Nat.zero_le _, rfl, rfl, HE.out, Below.refl _ _⟩
  case round =>
    obtain ⟨k, at_, hk, rfl, rfl, HW, HBW⟩ := hrel
    have HSW := Lib.hid (HS2.out.below HBW.out)
    have HPW := Lib.hid (HPS2.out.below HBW.out)
    have hGA := HG.out at_
    by_cases hlt : k < pl.length
    · obtain ⟨bp, op, rfl, hc⟩ := HPW.out.getS hlt
      have hsz := getT_size HF.out (p := at_)
      have hRF := fun w => sReadFolder_any ((getT l at_).getD ⟨#[]⟩) w hsz
      have HNO := Lib.hid (fun h => HW.out.trans (walkB_none2 (s := l) (p := at_) hlt h))
      have HYES := Lib.hid (fun q h => HW.out.trans (walkB_next2 (q := q) (s := l) (p := at_) hlt h))
      have hFT := folT_of (l := l) (p := at_)
      have hen3 : ((folderOf l at_).getD []).length ≤ 3 := folder_len
      have hSome := folT_some (l := l) (p := at_)
      have hcase : (folderOf l at_).isSome = true ∨ ((folderOf l at_).isSome = false ∧ ((folderOf l at_).getD []) = []) := by
        cases folderOf l at_ with
        | none => exact .inr ⟨rfl, rfl⟩
        | some e => exact .inl rfl
      unfold RfRes at hRF
      unfold folT at hFT
      rw [hFT, hSome] at hRF
      generalize (folderOf l at_).getD [] = en at *
      generalize (folderOf l at_).isSome = okf at *
      generalize (getT l at_).getD ⟨#[]⟩ = TT at *
      generalize (getT l at_).isSome = okg at *
      have HRF := Lib.hid hRF
      have HGA := Lib.hid hGA
      clear hRF hGA hFT hSome hsz
      generalize pl[k] = nm at *
      go_wp2_with (go_at_call 137; refine (HGA.out _ HSW.out).mono ?_; rintro e w' ⟨rfl, rfl⟩)
      refine (HRF.out _).mono ?_
      rintro e w3 ⟨v3, rfl, hown3, hb3⟩
      obtain ⟨A3, c3, rfl, _, hs3, _⟩ := hown3.sl
      have HX3 := Lib.hid hs3
      have HB3 := Lib.hid (Below_then HBW.out hb3 (Nat.le_refl _))
      have hc3 := Below_cells hb3 _ _ _ hc
      clear hown3 hb3 hs3
      go_wp2_with fail
      go_loopw [1, 13, 14] (fun va vf vj wr => ∃ (j : Nat), j ≤ en.length ∧ va = .int .i64 at_ ∧ vf = .bool false ∧ vj = .int .i64 j ∧ Hid (∀ i (h : i < en.length), i < j → tx en[i].1 ≠ tx nm) ∧ Hid (Below w3.heap.size w3 wr)) (fun _ _ vj _ => en.length - (intOf vj).toNat)
      case atStart => exact ⟨0, Nat.zero_le _, rfl, rfl, rfl, fun i h h2 => by omega, Below.refl _ _⟩
      case round =>
        obtain ⟨j, hj, rfl, rfl, rfl, HJ, HBJ⟩ := hrel
        have HB4 := Lib.hid (Below_then HB3.out HBJ.out (Nat.le_refl _))
        have hd := Below_cells HBJ.out _ _ _ hc3
        by_cases hjl : j < en.length
        · obtain rfl : okf = true := by
            rcases hcase with h | ⟨_, h⟩
            · exact h
            · rw [h] at hjl; exact absurd hjl (by simp)
          obtain ⟨b2, o2, rfl, hy0, hy1⟩ := (HX3.out.below HBJ.out).getE hjl
          have hkl : (k : Int) < (pl.length : Int) := by omega
          have hjl' : (j : Int) < (en.length : Int) := by omega
          cases heq : (en[j].1.toList == nm.toList)
          · have hne : tx en[j].1 ≠ tx nm := by rw [eq_tlx] at heq; exact beq_eq_false_iff_ne.1 heq
            have HNX := Lib.hid (show ∀ i (h : i < en.length), i < j + 1 → tx en[i].1 ≠ tx nm from fun i h h2 => by
              by_cases e : i = j
              · subst e; exact hne
              · exact HJ.out i h (by omega))
            clear hne
            generalize en[j] = q at *
            obtain ⟨t, a⟩ := q
            simp only at *
            go_wp2_with fail
            go_quiet (fail)
            all_goals
              go_wp2
              go_round
              case rel => exact ⟨j + 1, by omega, rfl, rfl, by go_num, HNX.out, Below_drewN HBJ.out _⟩
              case measure => simp [intOf]; omega
          · have he : tx en[j].1 = tx nm := by rw [eq_tlx] at heq; exact beq_iff_eq.1 heq
            have HR := Lib.hid (HYES.out _ (getE_find hjl HJ.out he))
            clear he
            generalize en[j] = q at *
            obtain ⟨t, a⟩ := q
            simp only at *
            go_wp2_with fail
            go_quiet (fail)
            all_goals
              go_wp2
              go_roundw
              case rel => exact ⟨k + 1, a, by omega, rfl, by go_num, HR.out, Below_drewN HB4.out _⟩
              case measure => simp [intOf]; omega
        · have hjk : ¬ (j : Int) < (en.length : Int) := by omega
          have HR := Lib.hid (HNO.out (getE_end fun i h => HJ.out i h (by omega)))
          go_wp2
          go_ret2
          exact WkRes.no HR.out HB4.out
    · have hE2 := HW.out.trans (walkB_end (by omega))
      cases hg : getT l at_ with
      | none =>
        rw [hg] at hGA hE2
        have HGA := Lib.hid hGA
        have HE2 := Lib.hid (show R = none from hE2)
        clear hGA hE2 hg
        go_wp2_with (go_at_call 137; refine (HGA.out _ HSW.out).mono ?_; rintro e w' ⟨rfl, rfl⟩)
        go_ret2
        exact WkRes.no HE2.out HBW.out
      | some t =>
        rw [hg] at hGA hE2
        have HGA := Lib.hid hGA
        have HE2 := Lib.hid (show R = some at_ from hE2)
        clear hGA hE2 hg
        go_wp2_with (go_at_call 137; refine (HGA.out _ HSW.out).mono ?_; rintro e w' ⟨rfl, rfl⟩)
        go_ret2
        exact WkRes.yes HE2.out HBW.out
set_option maxHeartbeats 4000000 in
set_option maxRecDepth 100000 in
theorem sWalkTo_any (A : Option Addr) (c : Nat) (l : List Pc) (root : Int) (path : ByteArray) (w : World) (hs : Sl w encP 2 A l) (hl : l.length ≤ 16777216) (hf : FitP l) (hp : path.size ≤ 1048576) :
    Calls Tryz.prog 146 #[.slice A l.length c, .int .i64 root, .string path] w (WkRes (walkTo l root (bs path)) w) := by
  have HS := Lib.hid hs
  have hP := fun w => sPathParts_any path w hp
  unfold PathR at hP
  have hSV := fun w h => sStoreValid_any A c l w h hl hf
  clear hs
  cases hpp : pathP (bs path) with
  | none =>
    have HE := Lib.hid (walkTo_path (s := l) (root := root) hpp)
    rw [hpp] at hP
    have HP := Lib.hid hP
    clear hP hSV hpp
    go_enter Tryz.func146, Tryz.ntmps146
    go_wp2_with fail
    refine (HP.out _).mono ?_
    rintro e w1 ⟨v1, rfl, hown, hb⟩
    have HB := Lib.hid hb
    clear hb hown
    simp only [Option.isSome_none]
    go_wp2
    go_ret2
    exact WkRes.no HE.out HB.out
  | some ps =>
    have hp3 : (ps.map mk).length ≤ 3 := by rw [List.length_map]; exact (partsV_iff.1 (pathP_join hpp).1).1
    rw [hpp] at hP
    rw [show (some ps).getD [] = ps from rfl] at hP
    cases hv : storeV l
    · have HE := Lib.hid (walkTo_store (root := root) (path := bs path) hv)
      rw [hv] at hSV
      have HSV := Lib.hid hSV
      have HP := Lib.hid hP
      clear hP hSV hpp hv
      go_enter Tryz.func146, Tryz.ntmps146
      go_wp2_with fail
      refine (HP.out _).mono ?_
      rintro e w1 ⟨v1, rfl, hown, hb⟩
      have HB := Lib.hid hb
      have HS1 := Lib.hid (HS.out.below hb)
      clear hb hown
      simp only [Option.isSome_some]
      go_wp2_with fail
      refine (HSV.out _ HS1.out).mono ?_
      rintro e w2 ⟨rfl, hb2⟩
      have HB2 := Lib.hid (Below_then HB.out hb2 (Nat.le_refl _))
      clear hb2
      go_wp2
      go_ret2
      exact WkRes.no HE.out HB2.out
    · rw [hv] at hSV
      have HE := Lib.hid (walkTo_yes (root := root) hv hpp rfl)
      have HV := Lib.hid hv
      have HSV := Lib.hid hSV
      have HP := Lib.hid hP
      clear hP hSV hpp
      generalize ps.map mk = pl at *
      have HN := Lib.hid (fun PA pc w h h2 => sl9Walk_any A PA c pc l pl root w h h2 HV.out hp3)
      unfold WkRes at HN ⊢
      rw [HE.out]
      generalize walkB l root (pl.drop 0) = R at *
      generalize R.getD (-1) = RV at *
      generalize R.isSome = RB at *
      clear HE hv
      go_enter Tryz.func146, Tryz.ntmps146
      go_wp2_with fail
      refine (HP.out _).mono ?_
      rintro e w1 ⟨v1, rfl, hown, hb⟩
      obtain ⟨PA, pc, rfl, _, hps, _⟩ := hown.sl
      have HPS := Lib.hid hps
      have HB := Lib.hid hb
      have HS1 := Lib.hid (HS.out.below hb)
      clear hb hown hps
      simp only [Option.isSome_some]
      go_wp2_with fail
      refine (HSV.out _ HS1.out).mono ?_
      rintro e w2 ⟨rfl, hb2⟩
      have HB2 := Lib.hid (Below_then HB.out hb2 (Nat.le_refl _))
      have HS2 := Lib.hid (HS1.out.below hb2)
      have HPS2 := Lib.hid (HPS.out.below hb2)
      clear hb2
      go_wp2_with fail
      refine (HN.out _ _ _ HS2.out HPS2.out).mono ?_
      rintro e w3 ⟨rfl, hb3⟩
      have HB3 := Lib.hid (Below_then HB2.out hb3 (Nat.le_refl _))
      clear hb3
      go_wp2
      go_ret2
      exact ⟨rfl, HB3.out⟩
set_option maxHeartbeats 4000000 in
set_option maxRecDepth 100000 in
theorem sReadAt_any (A : Option Addr) (c : Nat) (l : List Pc) (root : Int) (path : ByteArray) (w : World) (hs : Sl w encP 2 A l) (hl : l.length ≤ 16777216) (hf : FitP l) (hp : path.size ≤ 1048576) :
    Calls Tryz.prog 84 #[.slice A l.length c, .int .i64 root, .string path] w (FoRes (readAt l root (bs path)) w) := by
  have HS := Lib.hid hs
  have hW := fun w h => sWalkTo_any A c l root path w h hl hf hp
  have hG := fun p w h => sGetText_any A c l p w h hl hf
  clear hs
  unfold WkRes at hW
  unfold GtRes at hG
  unfold readAt
  cases hw : walkTo l root (bs path) with
  | none =>
    rw [hw] at hW
    have HW := Lib.hid hW
    have HG := Lib.hid (hG (-1))
    generalize (if storeV l = true then getT l (-1) else none) = G at *
    generalize G.getD ⟨#[]⟩ = GV at *
    generalize G.isSome = GB at *
    clear hW hw hG
    unfold FoRes
    go_enter Tryz.func84, Tryz.ntmps84
    go_wp2_with fail
    refine (HW.out _ HS.out).mono ?_
    rintro e w1 ⟨rfl, hb⟩
    have HB := Lib.hid hb
    have HS1 := Lib.hid (HS.out.below hb)
    clear hb
    go_wp2_with fail
    refine (HG.out _ HS1.out).mono ?_
    rintro e w2 ⟨rfl, hb2⟩
    have HB2 := Lib.hid (Below_then HB.out hb2 (Nat.le_refl _))
    clear hb2
    go_wp2
    go_ret2
    exact ⟨rfl, HB2.out⟩
  | some q =>
    have hv := walkTo_store_yes hw
    rw [hw] at hW
    have hGQ := hG q
    rw [hv, if_pos rfl] at hGQ
    have hsz := getT_size hv (p := q)
    have hRF := fun w => sReadFile_any ((getT l q).getD ⟨#[]⟩) w (by omega)
    have hfo : readFi (bs ((getT l q).getD ⟨#[]⟩)) = fileOf l q := by
      unfold fileOf
      cases getT l q with
      | none => rfl
      | some t => rfl
    rw [hfo] at hRF
    rw [Option.bind_some]
    unfold FoRes
    unfold RdRes at hRF
    generalize (getT l q).getD ⟨#[]⟩ = GV at *
    generalize (getT l q).isSome = GB at *
    generalize fileOf l q = R at *
    generalize mk (R.getD []) = TT at *
    generalize R.isSome = B at *
    have HRF := Lib.hid hRF
    have HW := Lib.hid hW
    have HG := Lib.hid hGQ
    clear hW hw hG hGQ hRF hfo hv
    go_enter Tryz.func84, Tryz.ntmps84
    go_wp2_with fail
    refine (HW.out _ HS.out).mono ?_
    rintro e w1 ⟨rfl, hb⟩
    have HB := Lib.hid hb
    have HS1 := Lib.hid (HS.out.below hb)
    clear hb
    go_wp2_with fail
    refine (HG.out _ HS1.out).mono ?_
    rintro e w2 ⟨rfl, hb2⟩
    have HB2 := Lib.hid (Below_then HB.out hb2 (Nat.le_refl _))
    clear hb2
    go_wp2_with (go_at_call 148; refine (HRF.out _).mono ?_; rintro e w' ⟨rfl, rfl⟩)
    go_ret2
    exact ⟨rfl, HB2.out⟩
end Go.Proofs.YtaghiefokmapmaaGreatDoor

/- All files below a folder, the program's: filesBelow, AllFiles. -/
set_option linter.unusedVariables false
namespace Go.Proofs.YtaghiefokmapmaaGreatDoor
open Go.RowKit
set_option maxHeartbeats 2000000 in
set_option maxRecDepth 100000 in
theorem CloneS_any (A : Option Addr) (c : Nat) (l : List ByteArray) (w : World) (hs : Sl w encS 1 A l) (hcz : A = none → c = 0) (hl : l.length ≤ 16777216) :
    Calls Tryz.prog 165 #[.slice A l.length c] w (OwnRes 9 1 encS l w) := by
  have HS := Lib.hid hs
  have HC := Lib.hid hcz
  clear hs hcz
  have hnil := fun (W : World) (A : Option Addr) (n c : Nat) => Lib.run_eql_slice_nil (P := Tryz.prog) W 26 9 A n c 0 0 Tryz.underlying26
  cases A with
  | none =>
    have hm : l = [] := by
      cases l with
      | nil => rfl
      | cons y r => obtain ⟨b, o, e, _⟩ := HS.out (by simp); cases e
    subst hm
    go_enter Tryz.func165, Tryz.ntmps165
    go_wp2
    go_ret
    exact ⟨_, rfl, Own.nil, Below.refl _ _⟩
  | some ad =>
    go_enter Tryz.func165, Tryz.ntmps165
    go_wp2_with (at_builtin; refine app_strN rfl rfl (Own.made (Nat.le_refl _)) ((Below.refl _ _).alloc (Nat.le_refl _) _) (by simp; omega) (HS.out.alloc _) HC.out (by rfl) (by rfl) ?_; intro v1 w2 hown2 hb2 hg2; have HW2 := Lib.hid hown2; have HB2 := Lib.hid hb2; clear hown2 hb2 hg2)
    go_ret
    exact ⟨_, rfl, by have h := HW2.out; rwa [List.nil_append] at h, HB2.out⟩
def RowE (w : World) (g : Nat) (y : En) : Prop := w.cell? ⟨g, 0, none⟩ = some (.string y.1) ∧ w.cell? ⟨g, 1, none⟩ = some (.int .i64 y.2)
theorem RowE.new (w : World) (y : En) : RowE (w.alloc (rowE y)) w.heap.size y := ⟨new_cell rfl, new_cell rfl⟩
theorem RowE.below {w w' : World} {g : Nat} {y : En} (h : RowE w g y) (hb : Below w.heap.size w w') : RowE w' g y := ⟨Below_cells hb _ _ _ h.1, Below_cells hb _ _ _ h.2⟩
theorem StrAt.below {w w' : World} {g : Nat} {y : ByteArray} (h : StrAt w g y) (hb : Below w.heap.size w w') : StrAt w' g y := Below_cells hb _ _ _ h
theorem entOk_size {e : En} (h : entOk e = true) : e.1.size ≤ 8 := by
  have := (entOk_iff.1 h).1
  unfold wordV at this
  rw [Bool.and_eq_true, Bool.and_eq_true, decide_eq_true_eq] at this
  exact this.1.1.2
set_option maxHeartbeats 8000000 in
set_option maxRecDepth 100000 in
theorem ifilesBelow_any (A : Option Addr) (c : Nat) (l : List Pc) (hv : storeV l = true) : ∀ (f : Nat) (p : Int) (PA : Option Addr) (pc : Nat) (pl : List ByteArray) (w : World), Sl w encP 2 A l → Sl w encS 1 PA pl → (PA = none → pc = 0) → pl.length ≤ pc → pl.length + f = 3 → (∀ x ∈ pl, x.size ≤ 8) → TzL w → MaxL w →
    Calls Tryz.prog 105 #[.slice A l.length c, .int .i64 p, .slice PA pl.length pc] w (OwnRes 9 1 encS ((filesP l f p (pl.map tx)).map mk) w) := by
  intro f
  induction f with
  | zero =>
    intro p PA pc pl w _ _ _ _ hf _ _ _
    have h3 : (pl.length : Int) = 3 := by omega
    rw [show (filesP l 0 p (pl.map tx)).map mk = [] from rfl]
    go_enter Tryz.func105, Tryz.ntmps105
    go_wp2
    go_ret
    exact ⟨_, rfl, Own.nil, Below.refl _ _⟩
  | succ f ih =>
    intro p PA pc pl w hs hps hcz hple hf hsz ht hm
    have h3 : ¬ (pl.length : Int) = 3 := by omega
    have HS := Lib.hid hs
    have HPS := Lib.hid hps
    have HCZ := Lib.hid hcz
    have HSZ := Lib.hid hsz
    have HT := Lib.hid ht
    have HM := Lib.hid hm
    have HV := Lib.hid hv
    have HIH := Lib.hid ih
    have HFO := Lib.hid (fun w h h2 h3 => ifolderOf_any A c l p w h hv h2 h3)
    have hen3 : ((folderOf l p).getD []).length ≤ 3 := folder_len
    have HOK := Lib.hid (show ∀ e ∈ (folderOf l p).getD [], entOk e = true by
      cases hfo : folderOf l p with
      | none => intro e he; cases he
      | some en => intro e he; exact entsV_ok (folder_valid hfo) he)
    rw [filesP_succ]
    clear hs hps hcz hsz ht hm hv ih
    unfold RfRes at HFO
    generalize (folderOf l p).getD [] = en at *
    generalize (folderOf l p).isSome = okf at *
    have HFA := Lib.hid (show 3 ^ f * 3 ≤ 27 by
      have : f ≤ 2 := by omega
      have h := Nat.pow_le_pow_right (n := 3) (by omega) this
      omega)
    have HLA := Lib.hid (fun k => accF_len (s := l) (f := f) (ps := pl.map tx) (l := en) (k := k) hen3)
    have HLS := Lib.hid (fun e => stepF_len l f (pl.map tx) e)
    go_enter Tryz.func105, Tryz.ntmps105
    go_wp2_with fail
    refine (HFO.out _ HS.out HT.out HM.out).mono ?_
    rintro e w1 ⟨v1, rfl, hown1, hb1⟩
    obtain ⟨EA, ec, rfl, _, hes, _⟩ := hown1.sl
    have HES := Lib.hid hes
    have HB1 := Lib.hid hb1
    clear hes hown1 hb1
    go_wp2_with fail
    go_loopw [9, 26] (fun v i wr => ∃ (k : Nat), k ≤ en.length ∧ i = .int .i64 k ∧ Own wr w1.heap.size 9 1 encS v (accF l f (pl.map tx) en k) ∧ Hid (Below w1.heap.size w1 wr)) (fun _ i _ => en.length - (intOf i).toNat)
    case atStart => exact ⟨0, Nat.zero_le _, rfl, Own.nil, Below.refl _ _⟩
    case round =>
      obtain ⟨k, hk, rfl, hown, HBW⟩ := hrel
      have HBA := Lib.hid (Below_then HB1.out HBW.out (Nat.le_refl _))
      by_cases hlt : k < en.length
      · obtain ⟨b, o, rfl, hc0, hc1⟩ := (HES.out.below HBW.out).getE hlt
        have hN := accF_next (s := l) (f := f) (ps := pl.map tx) hlt
        have hok := HOK.out _ (List.getElem_mem hlt)
        have hst := HLS.out en[k]
        have hla := HLA.out k
        have hfa := HFA.out
        generalize en[k] = y at *
        have HW0 := Lib.hid hown
        have HBOX := Lib.hid (RowE.new wr y)
        have HW5 := Lib.hid (hown.alloc (rowE y))
        have HB5 := Lib.hid (HBA.out.alloc HBA.out.size (rowE y))
        have hysz := entOk_size hok
        clear hown
        obtain ⟨t, a⟩ := y
        simp only at hc0 hc1 hysz
        have HB15 := Lib.hid (HBW.out.alloc HBW.out.size (rowE (t, a)))
        have HLEN := Lib.hid (show (pl ++ [t]).length = pl.length + 1 by simp)
        have HMAP := Lib.hid (show (pl ++ [t]).map bs = pl.map tx ++ [tx t] by simp)
        have HSZ2 := Lib.hid (show ∀ x ∈ pl ++ [t], x.size ≤ 8 from fun x hx => by
          rw [List.mem_append, List.mem_singleton] at hx
          rcases hx with hx | rfl
          · exact HSZ.out x hx
          · exact hysz)
        have HL := Lib.hid (show pl.length ≤ 16777216 by omega)
        have HCL := Lib.hid (fun w h => CloneS_any PA pc pl w h HCZ.out HL.out)
        have HFI := Lib.hid (fun w h => ifileOf_any A c l a w h HV.out)
        go_wp2_with fail
        revert HBOX HW5 HB5 HB15
        generalize wr.alloc (rowE (t, a)) = w5
        intro HBOX HW5 HB5 HB15
        have HD := Lib.hid (Below.refl w5.heap.size w5).drew
        have HDa := Lib.hid (((Below.refl w5.heap.size w5).alloc (Nat.le_refl _) (rowS t)).drew)
        have HPd := Lib.hid ((HPS.out.below HB5.out).drew)
        have HPa := Lib.hid (((HPS.out.below HB5.out).alloc (rowS t)).drew)
        have HRa := Lib.hid (show StrAt (w5.alloc (rowS t)).drew w5.heap.size t from StrAt.new w5 t)
        go_region_held3 (fun w' => w'.cell? ⟨wr.heap.size, 0, none⟩ = some (.string t) ∧ w'.cell? ⟨wr.heap.size, 1, none⟩ = some (.int .i64 a))
          (first | assumption | exact HBOX.out | exact HBOX.out.below HB3.out | exact HBOX.out.below HBR.out | exact HBOX.out.below HB2.out | exact HBOX.out.below HDa.out | exact HBOX.out.below HD.out)
          ((first
            | (go_at_call 165; refine (HCL.out _ HPd.out).mono ?_; rintro e w2 ⟨v2, rfl, hown2, hb2⟩; have HW2 := Lib.hid ((hown2.mono HD.out.size).alloc (rowS t)); have HB2 := Lib.hid (Below_then HD.out hb2 (Nat.le_refl _)); have HBR := Lib.hid (HB2.out.alloc HB2.out.size (rowS t)); have HRR := Lib.hid (StrAt.new w2 t); clear hown2 hb2)
            | (go_at_call 165; refine (HCL.out _ HPa.out).mono ?_; rintro e w2 ⟨v2, rfl, hown2, hb2⟩; have HB2 := Lib.hid (Below_then HDa.out hb2 (Nat.le_refl _)); have HW2 := Lib.hid (hown2.mono HDa.out.size); have HBR := HB2; have HRR := Lib.hid (HRa.out.below hb2); clear hown2 hb2)
            | (refine step_str_d HW2.out HBR.out HRR.out HL.out (by rfl) rfl (by rfl) (by rfl) ?_; intro v3 w3 hown3 hb3; have HW3 := Lib.hid hown3; have HB3 := Lib.hid hb3; clear hown3 hb3)))
        all_goals
          obtain ⟨X, d, ev, hle3, hs3, _⟩ := HW3.out.sl
          rw [HLEN.out] at ev hle3
          subst ev
          have HX3 := Lib.hid hs3
          have HCW := Lib.hid HW3.out.cz
          have HB03 := Lib.hid (Below_then HB5.out HB3.out (Nat.le_refl _))
          have HB13 := Lib.hid (Below_then HB15.out HB3.out (Nat.le_refl _))
          have HS3 := Lib.hid (HS.out.below HB03.out)
          have HWA := Lib.hid (HW5.out.below HB3.out)
          have hk3 := HBOX.out.below HB3.out
          have hk0 := hk3.1
          have hk1 := hk3.2
          clear hs3 hk3
          have hFI := HFI.out w3 HS3.out
          unfold FoRes at hFI
          cases hfi : (fileOf l a).isSome
          · rw [hfi] at hFI
            have HN := Lib.hid (show accF l f (pl.map tx) en (k + 1) = accF l f (pl.map tx) en k ++ (filesP l f a ((pl ++ [t]).map tx)).map mk by
              rw [hN]; unfold stepF; rw [hfi, if_neg (by simp)]; rw [show (pl ++ [t]).map tx = pl.map tx ++ [tx t] from HMAP.out])
            have hfl : ((filesP l f a ((pl ++ [t]).map tx)).map mk).length ≤ 3 ^ f := by rw [List.length_map]; exact filesP_len l f a ((pl ++ [t]).map tx)
            have HFI3 := Lib.hid hFI
            have hIH := fun w h h2 h3 h4 => HIH.out a X d (pl ++ [t]) w h h2 HCW.out (by rw [HLEN.out]; exact hle3) (by rw [HLEN.out]; omega) HSZ2.out h3 h4
            rw [HLEN.out] at hIH
            generalize (filesP l f a ((pl ++ [t]).map tx)).map mk = FM at *
            have HI3 := Lib.hid hIH
            clear hFI hIH hN hfi
            generalize mk ((fileOf l a).getD []) = CT at *
            go_wp2_with fail
            refine HFI3.out.mono ?_
            rintro e w4 ⟨rfl, hb4⟩
            have HB04 := Lib.hid (Below_then HB03.out hb4 (Nat.le_refl _))
            have HB14 := Lib.hid (Below_then HB13.out hb4 (Nat.le_refl _))
            have HS4 := Lib.hid (HS.out.below HB04.out)
            have HX4 := Lib.hid (HX3.out.below hb4)
            have HWA4 := Lib.hid (HWA.out.below hb4)
            have hm1 := Below_cells hb4 _ _ _ hk1
            clear hb4 hk0 hk1
            go_wp2_with fail
            refine (HI3.out _ HS4.out HX4.out (HT.out.below HB04.out) (HM.out.below HB04.out)).mono ?_
            rintro e w5' ⟨v5, rfl, hown5, hb5⟩
            obtain ⟨X5, d5, rfl, hle5, hs5, _⟩ := hown5.sl
            have HC5 := Lib.hid hown5.cz
            have HX5 := Lib.hid hs5
            have HB05 := Lib.hid (Below_then HB04.out hb5 (Nat.le_refl _))
            have HB15 := Lib.hid (Below_then HB14.out hb5 (Nat.le_refl _))
            have HWA5 := Lib.hid (HWA4.out.below hb5)
            have hbound : (accF l f (pl.map tx) en k).length + FM.length ≤ 33554432 := by
              have : 3 ^ f ≤ 27 := by omega
              omega
            have HBD := Lib.hid hbound
            clear hown5 hs5 hb5 hm1
            go_wp2_with (at_builtin; refine app_strN (w0 := w1) rfl rfl HWA5.out HB15.out HBD.out HX5.out HC5.out (by rfl) (by rfl) ?_; intro v6 w6 hown6 hb6 hg6; have HW6 := Lib.hid hown6; have HB6 := Lib.hid hb6; clear hown6 hb6 hg6)
            go_roundw
            case rel => exact ⟨k + 1, by omega, by go_num, by rw [HN.out]; exact HW6.out, HB6.out⟩
            case measure => simp [intOf]; omega
          · rw [hfi] at hFI
            have HN := Lib.hid (show accF l f (pl.map tx) en (k + 1) = accF l f (pl.map tx) en k ++ [mk (joinP ((pl ++ [t]).map bs))] by
              rw [hN]; unfold stepF; rw [hfi, if_pos rfl, HMAP.out]; rfl)
            have HFI3 := Lib.hid hFI
            have hJ := fun w h => iJoinPath_any X d (pl ++ [t]) w h (by rw [HLEN.out]; exact hle3) (by rw [HLEN.out]; omega) (fun x hx => Nat.le_trans (HSZ2.out x hx) (by omega))
            rw [HLEN.out] at hJ
            generalize mk (joinP ((pl ++ [t]).map bs)) = JP at *
            have HJ := Lib.hid hJ
            have HBD := Lib.hid (show (accF l f (pl.map tx) en k).length ≤ 16777216 by omega)
            clear hFI hJ hN hfi
            generalize mk ((fileOf l a).getD []) = CT at *
            go_wp2_with fail
            refine HFI3.out.mono ?_
            rintro e w4 ⟨rfl, hb4⟩
            have HB04 := Lib.hid (Below_then HB03.out hb4 (Nat.le_refl _))
            have HB14 := Lib.hid (Below_then HB13.out hb4 (Nat.le_refl _))
            have HX4 := Lib.hid (HX3.out.below hb4)
            have HWA4 := Lib.hid (HWA.out.below hb4)
            clear hb4 hk0 hk1
            go_wp2_with fail
            refine (HJ.out _ HX4.out).mono ?_
            rintro e w5' ⟨rfl, hb5⟩
            have HB05 := Lib.hid (Below_then HB04.out hb5 (Nat.le_refl _))
            have HB15 := Lib.hid (Below_then HB14.out hb5 (Nat.le_refl _))
            have HWA5 := Lib.hid (HWA4.out.below hb5)
            clear hb5
            go_wp2_with (at_builtin; refine app_str (w0 := w1) rfl rfl rfl rfl HWA5.out HB15.out HBD.out ?_; intro v6 w6 hown6 hb6; have HW6 := Lib.hid hown6; have HB6 := Lib.hid hb6; clear hown6 hb6)
            go_roundw
            case rel => exact ⟨k + 1, by omega, by go_num, by rw [HN.out]; exact HW6.out, HB6.out⟩
            case measure => simp [intOf]; omega
      · have HE := Lib.hid (accF_all (s := l) (f := f) (ps := pl.map tx) (l := en) (k := k) (by omega))
        go_wp2
        go_ret
        exact ⟨_, rfl, HE.out ▸ hown.mono HB1.out.size, HBA.out⟩
set_option maxHeartbeats 2000000 in
set_option maxRecDepth 100000 in
theorem iAllFiles_any (A : Option Addr) (c : Nat) (l : List Pc) (root : Int) (w : World) (hs : Sl w encP 2 A l) (hl : l.length ≤ 16777216) (hf : FitP l) (ht : TzL w) (hm : MaxL w) :
    Calls Tryz.prog 45 #[.slice A l.length c, .int .i64 root] w (OwnRes 9 1 encS ((allF l root).map mk) w) := by
  have HS := Lib.hid hs
  have HT := Lib.hid ht
  have HM := Lib.hid hm
  have hSV := fun w h => iStoreValid_any A c l w h hl hf
  clear hs ht hm
  unfold allF
  cases hv : storeV l
  · rw [hv] at hSV
    rw [if_neg (by simp)]
    have HSV := Lib.hid hSV
    clear hSV hv
    go_enter Tryz.func45, Tryz.ntmps45
    go_wp2_with fail
    refine (HSV.out _ HS.out).mono ?_
    rintro e w1 ⟨rfl, hb⟩
    have HB := Lib.hid hb
    clear hb
    go_wp2
    go_ret
    exact ⟨_, rfl, Own.nil, HB.out⟩
  · have hFB := fun w h h2 h3 => ifilesBelow_any A c l hv 3 root none 0 [] w h Sl.none_ (fun _ => rfl) (Nat.le_refl _) rfl (by intro x hx; cases hx) h2 h3
    rw [if_pos rfl]
    rw [hv] at hSV
    rw [show ([] : List ByteArray).map tx = [] from rfl] at hFB
    generalize (filesP l 3 root []).map mk = FM at *
    have HSV := Lib.hid hSV
    have HFB := Lib.hid hFB
    clear hSV hv hFB
    go_enter Tryz.func45, Tryz.ntmps45
    go_wp2_with fail
    refine (HSV.out _ HS.out).mono ?_
    rintro e w1 ⟨rfl, hb⟩
    have HB := Lib.hid hb
    have HS1 := Lib.hid (HS.out.below hb)
    have HT1 := Lib.hid (HT.out.below hb)
    have HM1 := Lib.hid (HM.out.below hb)
    clear hb
    go_wp2_with fail
    refine (HFB.out _ HS1.out HT1.out HM1.out).mono ?_
    rintro e w2 ⟨v2, rfl, hown2, hb2⟩
    have HW2 := Lib.hid (hown2.mono HB.out.size)
    have HB2 := Lib.hid (Below_then HB.out hb2 (Nat.le_refl _))
    clear hown2 hb2
    go_wp2
    go_ret
    exact ⟨_, rfl, HW2.out, HB2.out⟩
end Go.Proofs.YtaghiefokmapmaaGreatDoor

/- All files below a folder, the reference's: l11Files, AllFiles. -/
set_option linter.unusedVariables false
namespace Go.Proofs.YtaghiefokmapmaaGreatDoor
open Go.RowKit
section
variable {ops : Array Oper} {o : Oper} {a : Act} {K : Act → World → Prop} {Q : Exit → Act → World → Prop} {E' : Prop} {w0 wr : World} {v : Value}
set_option maxRecDepth 100000 in
theorem step_strK {l m : List ByteArray} {A : Option Addr} {c : Nat} {s x : Operand} (hw : Region.wanted o (yielded ops a.tmps) = true) (ho : o.op = .call { callee := .builtin .append, args := #[s, x], argTypes := #[26, 26] })
    (hown : Own wr w0.heap.size 9 1 encS v l) (hb : Below w0.heap.size w0 wr) (hn : l.length + m.length ≤ 33554432) (hsl : Sl wr encS 1 A m) (hcz : A = none → c = 0)
    (hs : a.eval s = v) (hx : a.eval x = .slice A m.length c)
    (h : ∀ v' w', Own w' w0.heap.size 9 1 encS v' (l ++ m) → Below w0.heap.size w0 w' → Grew v wr w' → Kin v wr v' → K (a.put o.dst v') w') : if Region.wanted o (yielded ops a.tmps) = true then Oper.wp Tryz.prog o a wr K Q else E' := by
  obtain ⟨i0, hi0, hz0, hz1, hz2⟩ := info_parts str_info
  rw [if_pos hw]
  cases A with
  | none =>
    have hm : m = [] := by
      cases m with
      | nil => rfl
      | cons y r => obtain ⟨b, o, e, _⟩ := hsl (by simp); cases e
    subst hm
    rw [hcz rfl] at hx
    have hrun := run_append_owned_none (P := Tryz.prog) (w := wr) w0.heap.size 26 o.type 9 i0 1 Tryz.underlying26 hi0 v l.length (flat encS l) hown
    have hK := h v wr (by rw [List.append_nil]; exact hown) hb (Grew.refl _ _) (fun b _ h => h)
    simp at hx
    unfold Oper.wp
    simp [execOp, ho, resolve, invoke, builtin, hs, hx, hrun, Result.andThen]
    exact hK
  | some ad =>
    obtain ⟨v', w', hr, h2, h3, h4, h5⟩ := run_append_own_at (P := Tryz.prog) wr w0.heap.size 26 o.type 9 i0 _ 1 16 Tryz.underlying26 hi0 hz0 hz1 hz2 rfl (by decide) v l.length (flat encS l) hown ad m.length c (flat encS m) (flat_length (enc := encS) (size := 1) (fun _ => rfl) m) (by
        intro j u hu
        have hpos : 0 < m.length := by
          have hlt := (List.getElem?_eq_some_iff.1 hu).1
          rw [flat_length (enc := encS) (size := 1) (fun _ => rfl)] at hlt
          cases m with
          | nil => simp at hlt
          | cons y r => simp
        obtain ⟨b, o', e, hc⟩ := hsl hpos
        injection e with e
        subst e
        have hadd : (⟨b, o', none⟩ : Addr).add j = ⟨b, o' + j, none⟩ := by unfold Addr.add; split <;> simp_all
        rw [hadd]; exact hc j u hu) (by
        intro u hu
        unfold flat at hu
        obtain ⟨y, _, hy⟩ := List.mem_flatMap.1 hu
        exact oneS y u hy) (by unfold maxLen; omega) (by omega) hb.size
    unfold Oper.wp execOp
    simp only [ho, resolve, invoke, builtin, Sem.run_bind, Sem.run_pure, Result.andThen_ok, List.map_toArray, List.map_cons, List.map_nil, hs, hx, hr]
    refine h v' w' ?_ (hb.grown h3 hb.size (fun k hk => (World.ownsRow.lt hown k hk).1)) h3 ?_
    · show w'.ownsRow _ _ _ v' (l ++ m).length (flat encS (l ++ m))
      rw [flat_append, List.length_append]; exact h2
    · intro b hb2 hne hv'
      rcases h5 with h5 | h5
      · exact hne (h5 ▸ hv')
      · rw [h5] at hv'; injection hv' with e; omega
end
theorem strAt_one (w : World) (t : ByteArray) : StrAt ((w.alloc (.cells #[] 9)).drew.alloc (rowS t)) (w.heap.size + 1) t := by
  have h := StrAt.new (w.alloc (.cells #[] 9)).drew t
  have e : (w.alloc (.cells #[] 9)).drew.heap.size = w.heap.size + 1 := by
    show (w.alloc (.cells #[] 9)).heap.size = _
    simp
  rw [e] at h; exact h
theorem own_one (w : World) (t : ByteArray) : Own ((w.alloc (rowS t)).drew.alloc (.cells #[] 9)) w.heap.size 9 1 encS (.slice (some ⟨w.heap.size + 1, 0, none⟩) 0 0) [] := by
  have e : (w.alloc (rowS t)).drew.heap.size = w.heap.size + 1 := by
    show (w.alloc (rowS t)).heap.size = _
    simp
  have h := Own.made (w := (w.alloc (rowS t)).drew) (base := w.heap.size) (enc := encS) (E := 9) (size := 1) (by omega)
  rw [e] at h; exact h
theorem own_lit {α : Type} {enc : α → List Value} {W : World} {b base size : Nat} {E : TypeId} {l : List α} (he : ∀ x, (enc x).length = size) (h : W.heap[b]? = some (.cells (flat enc l).toArray E (0, 0))) (hb : base ≤ b) (hm : l.length ≤ maxLen) :
    Own W base E size enc (.slice (some ⟨b, 0, none⟩) l.length l.length) l := by
  refine Filled.own ⟨(flat enc l).toArray, h, ?_, ?_, ?_⟩ he hb hm
  · simp [flat_length he]
  · simp [flat_length he]
  · simp
def CellE (w : World) (b o : Nat) (y : En) : Prop := w.cell? ⟨b, o, none⟩ = some (.string y.1) ∧ w.cell? ⟨b, o + 1, none⟩ = some (.int .i64 y.2)
theorem CellE.below {w w' : World} {b o : Nat} {y : En} (h : CellE w b o y) (hb : Below w.heap.size w w') : CellE w' b o y := ⟨Below_cells hb _ _ _ h.1, Below_cells hb _ _ _ h.2⟩
theorem CellE.grew {w w' : World} {b o : Nat} {y : En} {v : Value} (h : CellE w b o y) (hg : Grew v w w') (hv : v.ownBlock ≠ some b) : CellE w' b o y := ⟨hg.cell hv h.1, hg.cell hv h.2⟩
theorem fileOf_text {l : List Pc} {p : Int} : readFi (bs ((getT l p).getD ⟨#[]⟩)) = fileOf l p := by
  unfold fileOf
  cases getT l p with
  | none => rfl
  | some t => rfl
theorem fileOf_got {l : List Pc} {p : Int} (h : (fileOf l p).isSome = true) : (getT l p).isSome = true := by
  unfold fileOf at h
  cases hg : getT l p with
  | none => rw [hg] at h; cases h
  | some t => rfl
theorem folderOf_got {l : List Pc} {p : Int} (h : (folderOf l p).getD [] ≠ []) : (getT l p).isSome = true ∧ (folderOf l p).isSome = true := by
  unfold folderOf at *
  cases hg : getT l p with
  | none => rw [hg] at h; exact absurd rfl h
  | some t =>
    rw [hg] at h
    refine ⟨rfl, ?_⟩
    cases hr : readF (tx t) with
    | none => rw [Option.bind_some, hr] at h; exact absurd rfl h
    | some e => rw [Option.bind_some, hr]; rfl
def L11 (A : Option Addr) (c : Nat) (l : List Pc) (p : Int) (PA : Option Addr) (pc : Nat) (pl : List ByteArray) (w : World) : Prop :=
  Sl w encP 2 A l → Sl w encS 1 PA pl → (PA = none → pc = 0) → (∀ x ∈ pl, x.size ≤ 8) →
    Calls Tryz.prog 149 #[.slice A l.length c, .int .i64 p, .slice PA pl.length pc] w (OwnRes 9 1 encS ((specF l p (pl.map tx)).map mk) w)
set_option maxHeartbeats 16000000 in
set_option maxRecDepth 100000 in
theorem sl11_step (A : Option Addr) (c : Nat) (l : List Pc) (hv : storeV l = true) (pl : List ByteArray) (hl3 : pl.length ≤ 3)
    (ih : pl.length < 3 → ∀ (p : Int) (PA : Option Addr) (pc : Nat) (pl2 : List ByteArray) (w : World), pl2.length = pl.length + 1 → L11 A c l p PA pc pl2 w)
    (p : Int) (PA : Option Addr) (pc : Nat) (w : World) : L11 A c l p PA pc pl w := by
  intro hs hps hcz hsz
  have HS := Lib.hid hs
  have HPS := Lib.hid hps
  have HCZ := Lib.hid hcz
  have HSZ := Lib.hid hsz
  have HIH := Lib.hid ih
  have HV := Lib.hid hv
  have hl : l.length ≤ 16777216 := by have := storeV_len hv; omega
  have hG := fun w h => sl4Get_any A c l p w h hl
  have htz := getT_size hv (p := p)
  have hRF := fun w => sReadFile_any ((getT l p).getD ⟨#[]⟩) w (by omega)
  have hRD := fun w => sReadFolder_any ((getT l p).getD ⟨#[]⟩) w htz
  have hFT := folT_of (l := l) (p := p)
  have hSome := folT_some (l := l) (p := p)
  have hGot := fileOf_got (l := l) (p := p)
  have hFG := folderOf_got (l := l) (p := p)
  have hen3 : ((folderOf l p).getD []).length ≤ 3 := folder_len
  have HOK := Lib.hid (show ∀ e ∈ (folderOf l p).getD [], entOk e = true by
    cases hfo : folderOf l p with
    | none => intro e he; cases he
    | some en => intro e he; exact entsV_ok (folder_valid hfo) he)
  unfold RdRes at hRF
  unfold RfRes at hRD
  unfold folT at hFT
  rw [fileOf_text] at hRF
  rw [hFT, hSome] at hRD
  have hmt : (pl.map tx).length = pl.length := List.length_map ..
  have HFILE := Lib.hid (fun h h2 => specF_file (s := l) (p := p) (ps := pl.map tx) h h2)
  have HR0 := Lib.hid (show ((folderOf l p).getD [] = [] ∨ 3 ≤ pl.length) → ((fileOf l p).isSome = false ∨ pl.map tx = []) → (specF l p (pl.map tx)).map mk = [] from fun h1 h2 => by
    by_cases h3 : 3 ≤ pl.length
    · rw [specF_long h2 (by omega)]; rfl
    · have h4 := h1.resolve_right h3
      rw [specF_folder h2 (by omega), h4]; rfl)
  have HR1 := Lib.hid (show pl.length < 3 → ((fileOf l p).isSome = false ∨ pl.map tx = []) → (specF l p (pl.map tx)).map mk = accF l (2 - pl.length) (pl.map tx) ((folderOf l p).getD []) ((folderOf l p).getD []).length from fun h1 h2 => by
    rw [accF_all (Nat.le_refl _), specF_folder h2 (by omega), hmt])
  have HNEXT := Lib.hid (fun k (hk : k < ((folderOf l p).getD []).length) (h : pl.length < 3) => show accF l (2 - pl.length) (pl.map tx) ((folderOf l p).getD []) (k + 1) = accF l (2 - pl.length) (pl.map tx) ((folderOf l p).getD []) k ++ (specF l (((folderOf l p).getD [])[k]).2 (pl.map tx ++ [tx (((folderOf l p).getD [])[k]).1])).map mk by
    rw [accF_next hk, specF_step (by omega), hmt])
  have HLA := Lib.hid (fun k => accF_len (s := l) (f := 2 - pl.length) (ps := pl.map tx) (l := (folderOf l p).getD []) (k := k) hen3)
  clear hs hps hcz hsz ih hFT hSome htz
  generalize (getT l p).getD ⟨#[]⟩ = TT at *
  generalize (getT l p).isSome = okg at *
  generalize (folderOf l p).getD [] = en at *
  generalize (folderOf l p).isSome = okf at *
  generalize hSP : (specF l p (pl.map tx)).map mk = SP at *
  generalize mk ((fileOf l p).getD []) = CT at *
  generalize (fileOf l p).isSome = okc at *
  have HG := Lib.hid hG
  have HRF := Lib.hid hRF
  have HRD := Lib.hid hRD
  have HSP := Lib.hid hSP
  clear hG hRF hRD hSP
  by_cases hfile : okc = true ∧ 0 < pl.length
  · obtain ⟨rfl, hpos⟩ := hfile
    obtain rfl := hGot rfl
    have hne : pl.map tx ≠ [] := fun e => by rw [← List.length_eq_zero_iff, hmt] at e; omega
    rw [← HSP.out, HFILE.out rfl hne]
    have hJ := fun w h => sJoinPath_any PA pc pl w h (by omega) (fun x hx => Nat.le_trans (HSZ.out x hx) (by omega))
    show Calls _ _ _ _ (OwnRes _ _ _ [mk (joinP (pl.map bs))] _)
    generalize mk (joinP (pl.map bs)) = JP at *
    have HJ := Lib.hid hJ
    clear hJ HR0 HR1 HNEXT HLA
    go_enter Tryz.func149, Tryz.ntmps149
    go_wp2_with (first | (go_at_call 137; refine (HG.out _ HS.out).mono ?_; rintro e w' ⟨rfl, rfl⟩) | (go_at_call 148; refine (HRF.out _).mono ?_; rintro e w' ⟨rfl, rfl⟩) | (go_at_call 172; refine (HJ.out _ HPS.out).mono ?_; rintro e w' ⟨rfl, rfl⟩))
    go_ret
    exact ⟨_, rfl, own_lit (enc := encS) (l := [JP]) (fun _ => rfl) (heap_alloc_new w _) (Nat.le_refl _) (by unfold maxLen; simp), (Below.refl _ _).alloc (Nat.le_refl _) _⟩
  · have hor : okc = false ∨ pl.map tx = [] := by
      cases okc
      · exact .inl rfl
      · right
        have : ¬ 0 < pl.length := fun h => hfile ⟨rfl, h⟩
        rw [← List.length_eq_zero_iff, hmt]; omega
    have hguard : okg = false ∨ (okg = true ∧ okc = false) ∨ (okg = true ∧ okc = true ∧ ¬ 0 < pl.length) := by
      cases okg
      · exact .inl rfl
      · cases okc
        · exact .inr (.inl ⟨rfl, rfl⟩)
        · exact .inr (.inr ⟨rfl, rfl, fun h => hfile ⟨rfl, h⟩⟩)
    have HB := Lib.hid ((Below.refl w.heap.size w).alloc (Nat.le_refl _) (.cells #[] 9))
    have HACC := Lib.hid (((Own.made (enc := encS) (E := 9) (size := 1) (Nat.le_refl w.heap.size))))
    have HR0' := Lib.hid (fun h => HR0.out h hor)
    have HR1' := Lib.hid (fun h => HR1.out h hor)
    clear hfile hor hGot HR0 HR1 HSP HFILE
    by_cases hen : en = []
    · subst hen
      obtain rfl := HR0'.out (.inl rfl)
      clear HR1' HNEXT HLA HR0' HIH
      rcases hguard with rfl | ⟨rfl, rfl⟩ | ⟨rfl, rfl, hnp⟩
      all_goals
        go_enter Tryz.func149, Tryz.ntmps149
        go_wp2_with (first | (go_at_call 137; refine (HG.out _ HS.out).mono ?_; rintro e w' ⟨rfl, rfl⟩) | (go_at_call 148; refine (HRF.out _).mono ?_; rintro e w' ⟨rfl, rfl⟩))
        refine (HRD.out _).mono ?_
        rintro e w2 ⟨v, rfl, hown, hb⟩
        obtain ⟨X, d, rfl, hle, _, _⟩ := hown.sl
        replace HB := Lib.hid (HB.out.trans (hb.mono (by simp)))
        replace HACC := Lib.hid (HACC.out.below hb)
        clear hb hown
        go_wp2_with fail
        go_loopw [11, 14] (fun v i wr => v = .slice (some ⟨w.heap.size, 0, none⟩) 0 0 ∧ i = .int .i64 0 ∧ wr = w2) (fun _ _ _ => 0)
        case atStart => exact ⟨rfl, rfl, rfl⟩
        case round =>
          obtain ⟨rfl, rfl, rfl⟩ := hrel
          go_wp2
          go_ret
          exact ⟨_, rfl, HACC.out, HB.out⟩
    · obtain ⟨rfl, rfl⟩ := hFG hen
      have hpos : (0 : Int) < (en.length : Int) := by have := List.length_pos_iff.2 hen; omega
      by_cases hp3 : pl.length < 3
      case neg =>
        have hp3' : ¬ (pl.length : Int) < 3 := by omega
        obtain rfl := HR0'.out (.inr (by omega))
        clear HR1' HNEXT HLA HR0' HIH
        rcases hguard with h | ⟨_, rfl⟩ | ⟨_, rfl, hnp⟩
        · cases h
        · go_enter Tryz.func149, Tryz.ntmps149
          go_wp2_with (first | (go_at_call 137; refine (HG.out _ HS.out).mono ?_; rintro e w' ⟨rfl, rfl⟩) | (go_at_call 148; refine (HRF.out _).mono ?_; rintro e w' ⟨rfl, rfl⟩))
          refine (HRD.out _).mono ?_
          rintro e w2 ⟨v, rfl, hown, hb⟩
          obtain ⟨X, d, rfl, hle, _, _⟩ := hown.sl
          replace HB := Lib.hid (HB.out.trans (hb.mono (by simp)))
          replace HACC := Lib.hid (HACC.out.below hb)
          clear hb hown
          go_wp2_with fail
          go_loopw [11, 14] (fun v i wr => v = .slice (some ⟨w.heap.size, 0, none⟩) 0 0 ∧ i = .int .i64 0 ∧ wr = w2) (fun _ _ _ => 0)
          case atStart => exact ⟨rfl, rfl, rfl⟩
          case round =>
            obtain ⟨rfl, rfl, rfl⟩ := hrel
            go_wp2
            go_ret
            exact ⟨_, rfl, HACC.out, HB.out⟩
        · omega
      case pos =>
        have hp3' : (pl.length : Int) < 3 := by omega
        rw [HR1'.out hp3]
        have HNX := Lib.hid (fun k hk => HNEXT.out k hk hp3)
        have HI := Lib.hid (HIH.out hp3)
        clear HR1' HNEXT HR0' HIH
        rcases hguard with h | ⟨_, rfl⟩ | ⟨_, rfl, hnp⟩
        · cases h
        all_goals
          go_enter Tryz.func149, Tryz.ntmps149
          go_wp2_with (first | (go_at_call 137; refine (HG.out _ HS.out).mono ?_; rintro e w' ⟨rfl, rfl⟩) | (go_at_call 148; refine (HRF.out _).mono ?_; rintro e w' ⟨rfl, rfl⟩))
          refine (HRD.out _).mono ?_
          rintro e w2 ⟨v, rfl, hown, hb⟩
          obtain ⟨X, d, rfl, hle, _, _⟩ := hown.sl
          have HSX := Lib.hid hown.sl'
          have HLX := Lib.hid hown.ltA
          have HAX := Lib.hid (hown.apart (v := .slice (some ⟨w.heap.size, 0, none⟩) 0 0) (by intro g hg; have hg : some w.heap.size = some g := hg; injection hg with hg; subst hg; simp))
          replace HB := Lib.hid (HB.out.trans (hb.mono (by simp)))
          replace HACC := Lib.hid (HACC.out.below hb)
          clear hb hown
          go_wp2_with fail
          go_loopw [11, 14] (fun v i wr => ∃ (k : Nat), k ≤ en.length ∧ i = .int .i64 k ∧ Own wr w.heap.size 9 1 encS v (accF l (2 - pl.length) (pl.map tx) en k) ∧ Hid (Below w.heap.size w wr) ∧ Hid (Sl wr encE 2 X en) ∧ Hid (Apart X v) ∧ w2.heap.size ≤ wr.heap.size) (fun _ i _ => en.length - (intOf i).toNat)
          case atStart => exact ⟨0, Nat.zero_le _, rfl, HACC.out, HB.out, HSX.out, HAX.out, Nat.le_refl _⟩
          case round =>
            obtain ⟨k, hk, rfl, hown, HBW, HXW, HAW, hzw⟩ := hrel
            have HWW := Lib.hid hown
            clear hown
            by_cases hlt : k < en.length
            · have hlt' : (k : Int) < (en.length : Int) := by omega
              obtain ⟨b, o, rfl, hc0, hc1⟩ := HXW.out.getE hlt
              have HSW := Lib.hid (HS.out.below HBW.out)
              have HPW := Lib.hid (HPS.out.below HBW.out)
              have hysz := entOk_size (HOK.out _ (List.getElem_mem hlt))
              have HN := Lib.hid (HNX.out k hlt)
              have hla := HLA.out k
              have hIH := fun PA pc pl2 w h => HI.out en[k].2 PA pc pl2 w h
              generalize en[k] = y at *
              obtain ⟨t, a⟩ := y
              simp only at hc0 hc1 hysz
              have hspl := specF_len l a (pl.map tx ++ [tx t])
              have hFM : ((specF l a (pl.map tx ++ [tx t])).map mk).length ≤ 27 := by rw [List.length_map]; exact hspl
              have hIH2 : ∀ (PA : Option Addr) (pc : Nat) (w : World), Sl w encP 2 A l → Sl w encS 1 PA (pl ++ [t]) → (PA = none → pc = 0) → Calls Tryz.prog 149 #[.slice A l.length c, .int .i64 a, .slice PA (pl.length + 1) pc] w (OwnRes 9 1 encS ((specF l a (pl.map tx ++ [tx t])).map mk) w) := fun PA pc w h1 h2 h3 => by
                have h := hIH PA pc (pl ++ [t]) w (by simp) h1 h2 h3 (fun x hx => by
                  rw [List.mem_append, List.mem_singleton] at hx
                  rcases hx with hx | rfl
                  · exact HSZ.out x hx
                  · exact hysz)
                rw [show (pl ++ [t]).map tx = pl.map tx ++ [tx t] by simp, show (pl ++ [t]).length = pl.length + 1 by simp] at h
                exact h
              rw [show tx (t, a).1 = tx t from rfl, show (t, a).2 = a from rfl] at HN
              generalize (specF l a (pl.map tx ++ [tx t])).map mk = FM at *
              unfold OwnRes at hIH2
              have HIX := Lib.hid hIH2
              have HL2 := Lib.hid (show pl.length ≤ 16777216 by omega)
              have HL1 := Lib.hid (show ([] : List ByteArray).length + pl.length ≤ 33554432 by simp; omega)
              have hpw : 3 ^ (2 - pl.length) ≤ 9 := Nat.pow_le_pow_right (n := 3) (by omega) (show 2 - pl.length ≤ 2 by omega)
              have HL3 := Lib.hid (show (accF l (2 - pl.length) (pl.map tx) en k).length + FM.length ≤ 33554432 by omega)
              clear hIH2 hIH hla hspl hFM hpw
              have HCE := Lib.hid (show CellE wr b (o + k * 2) (t, a) from ⟨hc0, hc1⟩)
              have HB0 := Lib.hid (Below.refl wr.heap.size wr).drew
              have HBa := Lib.hid ((Below.refl wr.heap.size wr).alloc (Nat.le_refl _) (.cells #[] 9)).drew
              have HBb := Lib.hid ((Below.refl wr.heap.size wr).alloc (Nat.le_refl _) (rowS t)).drew
              have HBab := Lib.hid (HBa.out.alloc HBa.out.size (rowS t))
              have HBba := Lib.hid (HBb.out.alloc HBb.out.size (.cells #[] 9))
              have HOa := Lib.hid (Own.made (w := wr) (base := wr.heap.size) (enc := encS) (E := 9) (size := 1) (Nat.le_refl wr.heap.size)).drew
              have HOab := Lib.hid (HOa.out.alloc (rowS t))
              have HOba := Lib.hid (own_one wr t)
              have HPa := Lib.hid (HPW.out.below HBa.out)
              have HPab := Lib.hid (HPW.out.below HBab.out)
              have HPba := Lib.hid (HPW.out.below HBba.out)
              have HTab := Lib.hid (strAt_one wr t)
              have HTb := Lib.hid (show StrAt (wr.alloc (rowS t)).drew wr.heap.size t from StrAt.new wr t)
              have HTba := Lib.hid (HTb.out.below ((Below.refl _ _).alloc (Nat.le_refl _) (.cells #[] 9)))
              go_wp2_with fail
              go_region_held3 (fun w' => w'.cell? ⟨b, o + k * 2, none⟩ = some (.string t) ∧ w'.cell? ⟨b, o + k * 2 + 1, none⟩ = some (.int .i64 a))
                (first | assumption | exact HCE.out | exact HCE.out.below HB0.out | exact HCE.out.below HBa.out | exact HCE.out.below HBb.out | exact HCE.out.below HBab.out | exact HCE.out.below HBba.out | exact HCE.out.below HB7.out | exact HCE.out.below HB7b.out | exact HCE.out.below HB8.out | exact HCE.out.below HB9.out | exact HCA.out)
                ((first
                  | (refine step_strK (w0 := wr) (by rfl) rfl HOa.out HBa.out HL1.out HPa.out HCZ.out (by rfl) (by rfl) ?_; intro v7 w7 hown7 hb7 hg7 hk7; have HW7 := Lib.hid ((show Own w7 wr.heap.size 9 1 encS v7 pl from hown7).alloc (rowS t)); have HB7 := Lib.hid hb7; have HB7b := Lib.hid (hb7.alloc hb7.size (rowS t)); have HT7 := Lib.hid (StrAt.new w7 t); clear hown7 hb7 hg7 hk7)
                  | (refine step_strK (w0 := wr) (by rfl) rfl HOab.out HBab.out HL1.out HPab.out HCZ.out (by rfl) (by rfl) ?_; intro v7 w7 hown7 hb7 hg7 hk7; have HW7 := Lib.hid (show Own w7 wr.heap.size 9 1 encS v7 pl from hown7); have HB7b := Lib.hid hb7; have HT7 := Lib.hid (hg7.cell (by intro e; injection e with e; simp at e) HTab.out); clear hown7 hb7 hg7 hk7)
                  | (refine step_strK (w0 := wr) (by rfl) rfl HOba.out HBba.out HL1.out HPba.out HCZ.out (by rfl) (by rfl) ?_; intro v7 w7 hown7 hb7 hg7 hk7; have HW7 := Lib.hid (show Own w7 wr.heap.size 9 1 encS v7 pl from hown7); have HB7b := Lib.hid hb7; have HT7 := Lib.hid (hg7.cell (by intro e; injection e with e; simp at e) HTba.out); clear hown7 hb7 hg7 hk7)
                  | (refine step_str_d (w0 := wr) HW7.out HB7b.out HT7.out HL2.out (by rfl) rfl (by rfl) (by rfl) ?_; intro v8 w8 hown8 hb8; obtain ⟨X8, d8, e8, hle8, hs8, _⟩ := hown8.sl; rw [List.length_append, List.length_singleton] at e8; subst e8; have HS8 := Lib.hid hs8; have HC8 := Lib.hid hown8.cz; have HB8 := Lib.hid hb8; clear hown8 hb8 hs8)
                  | (go_at_call 149; refine (HIX.out _ _ _ (HSW.out.below HB8.out) HS8.out HC8.out).mono ?_; rintro e w9 ⟨v9, rfl, hown9, hb9⟩; obtain ⟨X9, d9, rfl, hle9, hs9, _⟩ := hown9.sl; have HS9 := Lib.hid hs9; have HC9 := Lib.hid hown9.cz; have HB9 := Lib.hid (Below_then HB8.out hb9 (Nat.le_refl _)); have HWA := Lib.hid (HWW.out.below HB9.out); have HBW9 := Lib.hid (Below_then HBW.out HB9.out (Nat.le_refl _)); have HXW9 := Lib.hid (HXW.out.below HB9.out); have HLX9 := Lib.hid (HLX.out.mono (Nat.le_trans hzw HB9.out.size)); have HZ9 := Lib.hid (Nat.le_trans hzw HB9.out.size); clear hown9 hb9 hs9)
                  | (refine step_strK (w0 := w) (by rfl) rfl HWA.out HBW9.out HL3.out HS9.out HC9.out (by rfl) (by rfl) ?_; intro vA wA hownA hbA hgA hkA; have HWF := Lib.hid hownA; have HBF := Lib.hid hbA; have HXF := Lib.hid (HXW9.out.grew hgA HAW.out); have HCA := Lib.hid ((HCE.out.below HB9.out).grew hgA (HAW.out b o rfl)); have HPF := Lib.hid (HAW.out.kin HLX9.out hkA); have HZF := Lib.hid (Nat.le_trans HZ9.out hgA.size); clear hownA hbA hgA hkA)))
              all_goals
                go_wp2
                go_roundw
                case rel => exact ⟨k + 1, by omega, by go_num, by rw [HN.out]; exact HWF.out, HBF.out, HXF.out, HPF.out, HZF.out⟩
                case measure => simp [intOf]; omega
            · have hlt' : ¬ (k : Int) < (en.length : Int) := by omega
              have hke : k = en.length := by omega
              subst hke
              go_wp2
              go_ret
              exact ⟨_, rfl, HWW.out, HBW.out⟩
theorem sl11_all (A : Option Addr) (c : Nat) (l : List Pc) (hv : storeV l = true) : ∀ (f : Nat) (pl : List ByteArray), pl.length + f = 3 → ∀ (p : Int) (PA : Option Addr) (pc : Nat) (w : World), L11 A c l p PA pc pl w
  | 0, pl, hf, p, PA, pc, w => sl11_step A c l hv pl (by omega) (fun h => by omega) p PA pc w
  | f + 1, pl, hf, p, PA, pc, w => sl11_step A c l hv pl (by omega) (fun h p2 PA2 pc2 pl2 w2 h2 => sl11_all A c l hv f pl2 (by omega) p2 PA2 pc2 w2) p PA pc w
set_option maxHeartbeats 4000000 in
set_option maxRecDepth 100000 in
theorem sAllFiles_any (A : Option Addr) (c : Nat) (l : List Pc) (root : Int) (w : World) (hs : Sl w encP 2 A l) (hl : l.length ≤ 16777216) (hf : FitP l) :
    Calls Tryz.prog 85 #[.slice A l.length c, .int .i64 root] w (OwnRes 9 1 encS ((allF l root).map mk) w) := by
  have HS := Lib.hid hs
  have hSV := fun w h => sStoreValid_any A c l w h hl hf
  have HB := Lib.hid (Below.refl w.heap.size w)
  clear hs
  unfold allF
  cases hv : storeV l
  · rw [hv] at hSV
    rw [if_neg (by simp)]
    have HSV := Lib.hid hSV
    clear hSV hv
    go_enter Tryz.func85, Tryz.ntmps85
    go_wp2_with fail
    refine (HSV.out _ HS.out).mono ?_
    rintro e w1 ⟨rfl, hb⟩
    replace HB := Lib.hid (Below_then HB.out hb (Nat.le_refl _))
    clear hb
    have HW := Lib.hid (Own.made (enc := encS) (E := 9) (size := 1) HB.out.size)
    have HB2 := Lib.hid (HB.out.alloc HB.out.size (.cells #[] 9))
    go_wp2
    go_ret
    exact ⟨_, rfl, HW.out, HB2.out⟩
  · rw [if_pos rfl, ← specF_root]
    have hN := fun PA w => sl11_all A c l hv 3 [] rfl root PA 0 w
    unfold L11 at hN
    rw [show ([] : List ByteArray).map tx = [] from rfl] at hN
    rw [hv] at hSV
    generalize (specF l root []).map mk = FM at *
    have HSV := Lib.hid hSV
    have HN := Lib.hid hN
    clear hSV hv hN
    go_enter Tryz.func85, Tryz.ntmps85
    go_wp2_with fail
    refine (HSV.out _ HS.out).mono ?_
    rintro e w1 ⟨rfl, hb⟩
    replace HB := Lib.hid (Below_then HB.out hb (Nat.le_refl _))
    replace HS := Lib.hid (HS.out.below hb)
    clear hb
    have HB2 := Lib.hid (HB.out.alloc HB.out.size (.cells #[] 9))
    have HS2 := Lib.hid (HS.out.alloc (.cells #[] 9))
    go_wp2_with fail
    refine (HN.out _ _ HS2.out Sl.none_ (by intro h; cases h) (by intro x hx; cases hx)).mono ?_
    rintro e w2 ⟨v2, rfl, hown2, hb2⟩
    have HW2 := Lib.hid (hown2.mono HB2.out.size)
    have HB3 := Lib.hid (Below_then HB2.out hb2 (Nat.le_refl _))
    clear hown2 hb2
    go_wp2
    go_ret
    exact ⟨_, rfl, HW2.out, HB3.out⟩
end Go.Proofs.YtaghiefokmapmaaGreatDoor

/- UsedBelow of both. -/
set_option linter.unusedVariables false
namespace Go.Proofs.YtaghiefokmapmaaGreatDoor
open Go.RowKit
set_option maxHeartbeats 8000000 in
set_option maxRecDepth 100000 in
theorem sUsedBelow_any (A : Option Addr) (c : Nat) (l : List Pc) (root : Int) (path : ByteArray) (w : World) (hs : Sl w encP 2 A l) (hl : l.length ≤ 16777216) (hf : FitP l) (hp : path.size ≤ 1048576) :
    Calls Tryz.prog 48 #[.slice A l.length c, .int .i64 root, .string path] w fun e w' => e = .returned (.int .i64 (usedP l root (bs path))) ∧ Below w.heap.size w w' := by
  have HS := Lib.hid hs
  have HB := Lib.hid (Below.refl w.heap.size w)
  have hP := fun w => sPathParts_any path w hp
  have hSV := fun w h => sStoreValid_any A c l w h hl hf
  unfold PathR at hP
  generalize hPL : ((pathP (bs path)).getD []).map mk = PL at *
  clear hPL hs
  cases hpp : (pathP (bs path)).isSome
  · have HR := Lib.hid (usedP_path (s := l) (root := root) hpp)
    rw [hpp] at hP
    generalize usedP l root (bs path) = R at *
    have HP := Lib.hid hP
    clear hP hSV hpp
    go_enter Tryz.func48, Tryz.ntmps48
    go_wp2_with fail
    refine (HP.out _).mono ?_
    rintro e w' ⟨v, rfl, hown, hb⟩
    obtain ⟨X_P, d_P, rfl, hle_P, hs_, _⟩ := hown.sl
    have HO_P := Lib.hid (hown.mono HB.out.size)
    have HS_P := Lib.hid hs_
    have HC_P := Lib.hid hown.cz
    clear hs_ hown
    replace HB := Lib.hid (Below_then HB.out hb (Nat.le_refl _))
    replace HS := Lib.hid (HS.out.below hb)
    clear hb
    go_wp2
    go_ret
    exact ⟨ret_int HR.out.symm, HB.out⟩
  · cases hv : storeV l
    · have HR := Lib.hid (usedP_store (root := root) (path := bs path) hv)
      rw [hpp] at hP
      rw [hv] at hSV
      generalize usedP l root (bs path) = R at *
      have HP := Lib.hid hP
      have HSV := Lib.hid hSV
      clear hP hSV hpp hv
      go_enter Tryz.func48, Tryz.ntmps48
      go_wp2_with fail
      refine (HP.out _).mono ?_
      rintro e w' ⟨v, rfl, hown, hb⟩
      obtain ⟨X_P, d_P, rfl, hle_P, hs_, _⟩ := hown.sl
      have HO_P := Lib.hid (hown.mono HB.out.size)
      have HS_P := Lib.hid hs_
      have HC_P := Lib.hid hown.cz
      clear hs_ hown
      replace HB := Lib.hid (Below_then HB.out hb (Nat.le_refl _))
      replace HS := Lib.hid (HS.out.below hb)
      clear hb
      go_wp2_with fail
      refine (HSV.out _ HS.out).mono ?_
      rintro e w' ⟨rfl, hb⟩
      replace HB := Lib.hid (Below_then HB.out hb (Nat.le_refl _))
      replace HS := Lib.hid (HS.out.below hb)
      clear hb
      go_wp2
      go_ret
      exact ⟨ret_int HR.out.symm, HB.out⟩
    · have hA := fun w h => sAllFiles_any A c l root w h hl hf
      unfold OwnRes at hA
      rw [show (allF l root).map mk = filesB l root from rfl] at hA
      have hn27 := filesB_len l root
      have HSZ := Lib.hid (filesB_size l root)
      have HY := Lib.hid (fun k hk h => @useUpto_yes l root (bs path) (filesB l root) k hk h)
      have HN := Lib.hid (fun k hk h => @useUpto_no l root (bs path) (filesB l root) k hk h)
      have HBD := Lib.hid (useUpto_bd l root (bs path) (filesB l root))
      have HAL := Lib.hid (fun k hk => useUpto_all (root := root) (k := k) hpp hv hk)
      have HRA := Lib.hid (fun p w h hp => sReadAt_any A c l root p w h hl hf hp)
      have HPB := Lib.hid (fun p w h => sPathBelow_any p path w h hp)
      have HU0 := Lib.hid (useUpto_zero l root (bs path) (filesB l root))
      rw [hpp] at hP
      rw [hv] at hSV
      generalize usedP l root (bs path) = R at *
      generalize useUpto l root (bs path) (filesB l root) = U at *
      generalize filesB l root = F at *
      have HP := Lib.hid hP
      have HSV := Lib.hid hSV
      have HA := Lib.hid hA
      clear hP hSV hpp hv hA
      go_enter Tryz.func48, Tryz.ntmps48
      go_wp2_with fail
      refine (HP.out _).mono ?_
      rintro e w' ⟨v, rfl, hown, hb⟩
      obtain ⟨X_P, d_P, rfl, hle_P, hs_, _⟩ := hown.sl
      have HO_P := Lib.hid (hown.mono HB.out.size)
      have HS_P := Lib.hid hs_
      have HC_P := Lib.hid hown.cz
      clear hs_ hown
      replace HB := Lib.hid (Below_then HB.out hb (Nat.le_refl _))
      replace HS := Lib.hid (HS.out.below hb)
      clear hb
      go_wp2_with fail
      refine (HSV.out _ HS.out).mono ?_
      rintro e w' ⟨rfl, hb⟩
      replace HB := Lib.hid (Below_then HB.out hb (Nat.le_refl _))
      replace HS := Lib.hid (HS.out.below hb)
      clear hb
      go_wp2_with fail
      refine (HA.out _ HS.out).mono ?_
      rintro e w3 ⟨v, rfl, hown, hb⟩
      obtain ⟨X_F, d_F, rfl, hle_F, hs_, _⟩ := hown.sl
      have HO_F := Lib.hid (hown.mono HB.out.size)
      have HS_F := Lib.hid hs_
      have HC_F := Lib.hid hown.cz
      clear hs_ hown
      replace HB := Lib.hid (Below_then HB.out hb (Nat.le_refl _))
      replace HS := Lib.hid (HS.out.below hb)
      clear hb
      go_wp2_with fail
      go_loopw [9, 11] (fun s i wr => ∃ (k : Nat), k ≤ F.length ∧ i = .int .i64 k ∧ s = .int .i64 (U k) ∧ Hid (Below w3.heap.size w3 wr)) (fun _ i _ => F.length - (intOf i).toNat)
      case atStart => exact ⟨0, Nat.zero_le _, rfl, by rw [HU0.out], Below.refl _ _⟩
      case round =>
        obtain ⟨k, hk, rfl, rfl, HBW⟩ := hrel
        have HBA := Lib.hid (Below_then HB.out HBW.out (Nat.le_refl _))
        by_cases hlt : k < F.length
        · have hlt' : (k : Int) < (F.length : Int) := by omega
          obtain ⟨b, o, rfl, hc⟩ := (HS_F.out.below HBW.out).getS hlt
          have HSW := Lib.hid (HS.out.below HBW.out)
          have hz := HSZ.out _ (List.getElem_mem hlt)
          obtain ⟨hU1, hU2⟩ := HBD.out k hk
          have hU3 : U k ≤ 1080 := by omega
          have hy := HY.out k hlt
          have hn := HN.out k hlt
          have hPB := fun w => HPB.out F[k] w (by omega)
          have hRA := fun w h => HRA.out F[k] w h (by omega)
          have hrl := readAt_len l root (bs F[k])
          unfold FoRes at hRA
          generalize F[k] = x at *
          cases hbl : belowP (bs x) (bs path)
          · have HNX := Lib.hid (hn hbl)
            rw [hbl] at hPB
            have HPX := Lib.hid hPB
            clear hn hy hbl hPB hRA hrl
            go_wp2_with fail
            refine (HPX.out _).mono ?_
            rintro e w4 ⟨rfl, hb⟩
            replace HBW := Lib.hid (Below_then HBW.out hb (Nat.le_refl _))
            clear hb hc
            go_wp2
            go_roundw
            case rel => exact ⟨k + 1, by omega, by go_num, by rw [HNX.out], HBW.out⟩
            case measure => simp [intOf]; omega
          · have hy2 := hy hbl
            rw [hbl] at hPB
            rw [← mk_size] at hrl
            generalize mk ((readAt l root (bs x)).getD []) = CT at *
            generalize (readAt l root (bs x)).isSome = okr at *
            have HPX := Lib.hid hPB
            have HRX := Lib.hid hRA
            have HYX := Lib.hid hy2
            clear hn hy hbl hPB hRA hy2
            go_wp2_with fail
            refine (HPX.out _).mono ?_
            rintro e w4 ⟨rfl, hb⟩
            replace HBW := Lib.hid (Below_then HBW.out hb (Nat.le_refl _))
            replace HSW := Lib.hid (HSW.out.below hb)
            have hc4 := Below_cells hb _ _ _ hc
            clear hb hc
            go_wp2_with fail
            refine (HRX.out _ HSW.out).mono ?_
            rintro e w5 ⟨rfl, hb⟩
            replace HBW := Lib.hid (Below_then HBW.out hb (Nat.le_refl _))
            clear hb hc4
            go_wp2
            go_roundw
            case rel => exact ⟨k + 1, by omega, by go_num, by rw [HYX.out], HBW.out⟩
            case measure => simp [intOf]; omega
        · have HE := Lib.hid (HAL.out k (by omega))
          have hlt' : ¬ (k : Int) < (F.length : Int) := by omega
          go_wp2
          go_ret
          exact ⟨ret_int HE.out, HBA.out⟩
set_option maxHeartbeats 8000000 in
set_option maxRecDepth 100000 in
theorem iUsedBelow_any (A : Option Addr) (c : Nat) (l : List Pc) (root : Int) (path : ByteArray) (w : World) (hs : Sl w encP 2 A l) (hl : l.length ≤ 16777216) (hf : FitP l) (hp : path.size ≤ 1048576) (ht : TzL w) (hm : MaxL w) :
    Calls Tryz.prog 47 #[.slice A l.length c, .int .i64 root, .string path] w fun e w' => e = .returned (.int .i64 (usedP l root (bs path))) ∧ Below w.heap.size w w' := by
  have HS := Lib.hid hs
  have HT := Lib.hid ht
  have HM := Lib.hid hm
  have HB := Lib.hid (Below.refl w.heap.size w)
  have hP := fun w h => iPathParts_any path w hp h
  have hSV := fun w h => iStoreValid_any A c l w h hl hf
  unfold PathI at hP
  clear hs ht hm
  cases hpp : (pathP (bs path)).isSome
  · have HR := Lib.hid (usedP_path (s := l) (root := root) hpp)
    rw [hpp] at hP
    generalize usedP l root (bs path) = R at *
    have HP := Lib.hid hP
    clear hP hSV hpp
    go_enter Tryz.func47, Tryz.ntmps47
    go_wp2_with fail
    refine (HP.out _ HM.out).mono ?_
    rintro e w1 ⟨v, rfl, hb⟩
    replace HB := Lib.hid (Below_then HB.out hb (Nat.le_refl _))
    clear hb
    go_wp2
    go_ret
    exact ⟨ret_int HR.out.symm, HB.out⟩
  · cases hv : storeV l
    · have HR := Lib.hid (usedP_store (root := root) (path := bs path) hv)
      rw [hpp] at hP
      rw [hv] at hSV
      generalize usedP l root (bs path) = R at *
      have HP := Lib.hid hP
      have HSV := Lib.hid hSV
      clear hP hSV hpp hv
      go_enter Tryz.func47, Tryz.ntmps47
      go_wp2_with fail
      refine (HP.out _ HM.out).mono ?_
      rintro e w1 ⟨v, rfl, hb⟩
      replace HB := Lib.hid (Below_then HB.out hb (Nat.le_refl _))
      replace HS := Lib.hid (HS.out.below hb)
      clear hb
      go_wp2_with fail
      refine (HSV.out _ HS.out).mono ?_
      rintro e w' ⟨rfl, hb⟩
      replace HB := Lib.hid (Below_then HB.out hb (Nat.le_refl _))
      replace HS := Lib.hid (HS.out.below hb)
      clear hb
      go_wp2
      go_ret
      exact ⟨ret_int HR.out.symm, HB.out⟩
    · have hA := fun w h h2 h3 => iAllFiles_any A c l root w h hl hf h2 h3
      unfold OwnRes at hA
      rw [show (allF l root).map mk = filesB l root from rfl] at hA
      have hn27 := filesB_len l root
      have HSZ := Lib.hid (filesB_size l root)
      have HY := Lib.hid (fun k hk h => @useUpto_yes l root (bs path) (filesB l root) k hk h)
      have HN := Lib.hid (fun k hk h => @useUpto_no l root (bs path) (filesB l root) k hk h)
      have HBD := Lib.hid (useUpto_bd l root (bs path) (filesB l root))
      have HAL := Lib.hid (fun k hk => useUpto_all (root := root) (k := k) hpp hv hk)
      have HRA := Lib.hid (fun p w h hp h2 h3 => iReadAt_any A c l root p w h hl hf hp h2 h3)
      have HPB := Lib.hid (fun p w h h2 => iPathBelow_any p path w h hp h2)
      have HU0 := Lib.hid (useUpto_zero l root (bs path) (filesB l root))
      rw [hpp] at hP
      rw [hv] at hSV
      generalize usedP l root (bs path) = R at *
      generalize useUpto l root (bs path) (filesB l root) = U at *
      generalize filesB l root = F at *
      have HP := Lib.hid hP
      have HSV := Lib.hid hSV
      have HA := Lib.hid hA
      clear hP hSV hpp hv hA
      go_enter Tryz.func47, Tryz.ntmps47
      go_wp2_with fail
      refine (HP.out _ HM.out).mono ?_
      rintro e w1 ⟨v, rfl, hb⟩
      replace HB := Lib.hid (Below_then HB.out hb (Nat.le_refl _))
      replace HS := Lib.hid (HS.out.below hb)
      replace HT := Lib.hid (HT.out.below hb)
      replace HM := Lib.hid (HM.out.below hb)
      clear hb
      go_wp2_with fail
      refine (HSV.out _ HS.out).mono ?_
      rintro e w' ⟨rfl, hb⟩
      replace HB := Lib.hid (Below_then HB.out hb (Nat.le_refl _))
      replace HS := Lib.hid (HS.out.below hb)
      replace HT := Lib.hid (HT.out.below hb)
      replace HM := Lib.hid (HM.out.below hb)
      clear hb
      go_wp2_with fail
      refine (HA.out _ HS.out HT.out HM.out).mono ?_
      rintro e w3 ⟨v, rfl, hown, hb⟩
      obtain ⟨X_F, d_F, rfl, hle_F, hs_, _⟩ := hown.sl
      have HO_F := Lib.hid (hown.mono HB.out.size)
      have HS_F := Lib.hid hs_
      have HC_F := Lib.hid hown.cz
      clear hs_ hown
      replace HB := Lib.hid (Below_then HB.out hb (Nat.le_refl _))
      replace HS := Lib.hid (HS.out.below hb)
      replace HT := Lib.hid (HT.out.below hb)
      replace HM := Lib.hid (HM.out.below hb)
      clear hb
      go_wp2_with fail
      go_loopw [9, 30] (fun s i wr => ∃ (k : Nat), k ≤ F.length ∧ i = .int .i64 k ∧ s = .int .i64 (U k) ∧ Hid (Below w3.heap.size w3 wr)) (fun _ i _ => F.length - (intOf i).toNat)
      case atStart => exact ⟨0, Nat.zero_le _, rfl, by rw [HU0.out], Below.refl _ _⟩
      case round =>
        obtain ⟨k, hk, rfl, rfl, HBW⟩ := hrel
        have HBA := Lib.hid (Below_then HB.out HBW.out (Nat.le_refl _))
        by_cases hlt : k < F.length
        · have hlt' : (k : Int) < (F.length : Int) := by omega
          obtain ⟨b, o, rfl, hc⟩ := (HS_F.out.below HBW.out).getS hlt
          have HSW := Lib.hid (HS.out.below HBW.out)
          have HTW := Lib.hid (HT.out.below HBW.out)
          have HMW := Lib.hid (HM.out.below HBW.out)
          have hz := HSZ.out _ (List.getElem_mem hlt)
          obtain ⟨hU1, hU2⟩ := HBD.out k hk
          have hU3 : U k ≤ 1080 := by omega
          have hy := HY.out k hlt
          have hn := HN.out k hlt
          have hPB := fun w h => HPB.out F[k] w (by omega) h
          have hRA := fun w h h2 h3 => HRA.out F[k] w h (by omega) h2 h3
          have hrl := readAt_len l root (bs F[k])
          unfold FoRes at hRA
          generalize F[k] = x at *
          cases hbl : belowP (bs x) (bs path)
          · have HNX := Lib.hid (hn hbl)
            rw [hbl] at hPB
            have HPX := Lib.hid hPB
            clear hn hy hbl hPB hRA hrl
            go_wp2_with fail
            refine (HPX.out _ HMW.out).mono ?_
            rintro e w4 ⟨rfl, hb⟩
            replace HBW := Lib.hid (Below_then HBW.out hb (Nat.le_refl _))
            clear hb hc
            go_wp2
            go_roundw
            case rel => exact ⟨k + 1, by omega, by go_num, by rw [HNX.out], HBW.out⟩
            case measure => simp [intOf]; omega
          · have hy2 := hy hbl
            rw [hbl] at hPB
            rw [← mk_size] at hrl
            generalize mk ((readAt l root (bs x)).getD []) = CT at *
            generalize (readAt l root (bs x)).isSome = okr at *
            have HPX := Lib.hid hPB
            have HRX := Lib.hid hRA
            have HYX := Lib.hid hy2
            clear hn hy hbl hPB hRA hy2
            go_wp2_with fail
            refine (HPX.out _ HMW.out).mono ?_
            rintro e w4 ⟨rfl, hb⟩
            replace HBW := Lib.hid (Below_then HBW.out hb (Nat.le_refl _))
            replace HSW := Lib.hid (HSW.out.below hb)
            replace HTW := Lib.hid (HTW.out.below hb)
            replace HMW := Lib.hid (HMW.out.below hb)
            clear hb hc
            go_wp2_with fail
            refine (HRX.out _ HSW.out HTW.out HMW.out).mono ?_
            rintro e w5 ⟨rfl, hb⟩
            replace HBW := Lib.hid (Below_then HBW.out hb (Nat.le_refl _))
            clear hb
            go_wp2
            go_roundw
            case rel => exact ⟨k + 1, by omega, by go_num, by rw [HYX.out], HBW.out⟩
            case measure => simp [intOf]; omega
        · have HE := Lib.hid (HAL.out k (by omega))
          have hlt' : ¬ (k : Int) < (F.length : Int) := by omega
          go_wp2
          go_ret
          exact ⟨ret_int HE.out, HBA.out⟩
end Go.Proofs.YtaghiefokmapmaaGreatDoor

/- QuotasValid of the reference, walked. -/
set_option linter.unusedVariables false
namespace Go.Proofs.YtaghiefokmapmaaGreatDoor
open Go.RowKit
set_option maxHeartbeats 4000000 in
set_option maxRecDepth 100000 in
theorem sQuotasValid_any (A : Option Addr) (c : Nat) (l : List Qt) (w : World) (hs : Sl w encQ 2 A l) (hl : l.length ≤ 16777216) (hf : FitQ l) :
    Calls Tryz.prog 68 #[.slice A l.length c] w fun e w' => e = .returned (.bool (quoV l)) ∧ Below w.heap.size w w' := by
  have HS := Lib.hid hs
  have HF := Lib.hid hf
  have HNO := Lib.hid (fun k (hk : k < l.length) h => @quoV_no l k hk h)
  have HALL := Lib.hid (@quoV_all l)
  generalize quoV l = R at *
  clear hs hf
  go_enter Tryz.func68, Tryz.ntmps68
  go_wp2_with fail
  go_loopw [3] (fun i wr => ∃ (k : Nat), k ≤ l.length ∧ i = .int .i64 k ∧ Hid (∀ j, j < k → quoAt l j = true) ∧ Hid (Below w.heap.size w wr)) (fun i _ => l.length - (intOf i).toNat)
  case atStart => exact ⟨0, Nat.zero_le _, rfl, fun j h => by omega, Below.refl _ _⟩
  case round =>
    obtain ⟨k, hk, rfl, HH, HBW⟩ := hrel
    by_cases hlt : k < l.length
    · have hlt' : (k : Int) < (l.length : Int) := by omega
      obtain ⟨b, o, rfl, hc0, hc1⟩ := (HS.out.below HBW.out).getQ hlt
      have HN := Lib.hid (HNO.out k hlt)
      have hz := HF.out _ (List.getElem_mem hlt)
      have hP := fun w => sPathParts_any l[k].1 w hz
      unfold PathR at hP
      have HQ := Lib.hid (fun h => @quoAt_path l k hlt h)
      have HM := Lib.hid (fun h => @quoAt_most l k hlt h)
      have HT := Lib.hid (fun j h1 h2 => @quoAt_twice l k j hlt h1 h2)
      have HY := Lib.hid (fun h1 h2 h3 => @quoAt_yes l k hlt h1 h2 h3)
      have hq : ∃ q : Qt, q = l[k] := ⟨_, rfl⟩
      obtain ⟨q, hq⟩ := hq
      rw [← hq] at hc0 hc1 hP HQ HM HT HY
      have HEQ := Lib.hid hq
      clear hq hz
      obtain ⟨p, x⟩ := q
      simp only at *
      have hIN := fun w => sl1In_any x 0 1000 w
      generalize ((pathP (bs p)).getD []).map mk = LP at *
      cases hp : (pathP (bs p)).isSome
      · have HR := Lib.hid (HN.out (HQ.out hp))
        rw [hp] at hP
        have HP := Lib.hid hP
        clear hP hp hIN HQ HM HT HY HN
        go_wp2_with fail
        refine (HP.out _).mono ?_
        rintro e w2 ⟨v, rfl, hown, hb⟩
        have HB2 := Lib.hid (Below_then HBW.out hb (Nat.le_refl _))
        clear hb hown
        go_wp2
        go_ret
        exact ⟨ret_bool HR.out.symm, HB2.out⟩
      · have HPS := Lib.hid hp
        rw [hp] at hP
        have HP := Lib.hid hP
        clear hP hp
        cases hx : inI x 0 1000
        · have HR := Lib.hid (HN.out (HM.out hx))
          rw [hx] at hIN
          have HI := Lib.hid hIN
          clear hIN hx HQ HM HT HY HN
          have hlt2 := hlt
          go_wp2_with fail
          refine (HP.out _).mono ?_
          rintro e w2 ⟨v, rfl, hown, hb⟩
          have HB2 := Lib.hid (Below_then HBW.out hb (Nat.le_refl _))
          have hd1 := Below_cells hb _ _ _ hc1
          clear hb hown hc0 hc1
          go_wp2_with (go_at_call 83; refine (HI.out _).mono ?_; rintro e w' ⟨rfl, rfl⟩)
          go_ret
          exact ⟨ret_bool HR.out.symm, HB2.out⟩
        · rw [hx] at hIN
          have HI := Lib.hid hIN
          have HYY := Lib.hid (fun h3 => HY.out HPS.out hx h3)
          clear hIN hx HQ HM HY
          go_wp2_with fail
          refine (HP.out _).mono ?_
          rintro e w2 ⟨v, rfl, hown, hb⟩
          have HB2 := Lib.hid (Below_then HBW.out hb (Nat.le_refl _))
          have hd0 := Below_cells hb _ _ _ hc0
          have hd1 := Below_cells hb _ _ _ hc1
          clear hb hown hc0 hc1
          go_wp2_with (go_at_call 83; refine (HI.out _).mono ?_; rintro e w' ⟨rfl, rfl⟩)
          clear hd0 hd1
          go_loopw [6] (fun i wr => ∃ (j : Nat), j ≤ k ∧ i = .int .i64 j ∧ Hid (∀ i (h : i < l.length), i < j → bs l[i].1 ≠ bs p) ∧ Hid (Below w.heap.size w wr)) (fun i _ => k - (intOf i).toNat)
          case atStart => exact ⟨0, Nat.zero_le _, rfl, fun i h h2 => by omega, HB2.out⟩
          case round =>
            obtain ⟨j, hj, rfl, HJ, HBJ⟩ := hrel
            obtain ⟨b3, o3, e3, hd0, hd1⟩ := (HS.out.below HBJ.out).getQ hlt
            rw [← HEQ.out] at hd0 hd1
            injection e3 with e3; injection e3 with e4 e5
            subst e4 e5
            simp only at hd0 hd1
            by_cases hjl : j < k
            · have hjn : j < l.length := by omega
              have hjl' : (j : Int) < (k : Int) := by omega
              have hjn' : (j : Int) < (l.length : Int) := by omega
              obtain ⟨b2, o2, e, hy0, hy1⟩ := (HS.out.below HBJ.out).getQ hjn
              injection e with e; injection e with e1 e2
              subst e1 e2
              have HTj := Lib.hid (fun h => HN.out (HT.out j hjl h))
              have HSj := Lib.hid (fun (h : bs l[j].1 ≠ bs p) => show ∀ i (hi : i < l.length), i < j + 1 → bs l[i].1 ≠ bs p from fun i hi h2 => by
                by_cases e : i = j
                · subst e; exact h
                · exact HJ.out i hi (by omega))
              generalize l[j].1 = pj at *
              generalize l[j].2 = xj at *
              cases hq : (pj.toList == p.toList)
              · have hne : bs pj ≠ bs p := by rw [eq_tlx] at hq; exact beq_eq_false_iff_ne.1 hq
                have HNX := Lib.hid (HSj.out hne)
                clear hne HTj HSj
                go_wp2_with fail
                go_quiet (fail)
                all_goals
                  go_wp2
                  go_round
                  case rel => exact ⟨j + 1, by omega, by go_num, HNX.out, Below_drewN HBJ.out _⟩
                  case measure => simp [intOf]; omega
              · have heq : bs pj = bs p := by rw [eq_tlx] at hq; exact beq_iff_eq.1 hq
                have HR := Lib.hid (HTj.out heq)
                clear heq HTj HSj
                go_wp2_with fail
                go_quiet (fail)
                all_goals
                  go_wp2
                  go_ret
                  exact ⟨ret_bool HR.out.symm, Below_drewN HBJ.out _⟩
            · have hjk : ¬ (j : Int) < (k : Int) := by omega
              have HNX := Lib.hid (show ∀ j, j < k + 1 → quoAt l j = true from fun i h => by
                by_cases e : i = k
                · subst e; exact HYY.out (fun i hi h2 => HJ.out i hi (by omega))
                · exact HH.out i (by omega))
              go_wp2
              go_roundw
              case rel => exact ⟨k + 1, by omega, by go_num, HNX.out, HBJ.out⟩
              case measure => simp [intOf]; omega
    · have HE := Lib.hid (show decide ((l.length : Int) ≤ 6) = R by rw [HALL.out (fun j h => HH.out j (by omega))]; exact decide_eq_decide.2 (by omega))
      have hlt' : ¬ (k : Int) < (l.length : Int) := by omega
      go_wp2
      go_ret
      exact ⟨ret_bool HE.out, HBW.out⟩
end Go.Proofs.YtaghiefokmapmaaGreatDoor

/- OverQuotas of both. -/
set_option linter.unusedVariables false
namespace Go.Proofs.YtaghiefokmapmaaGreatDoor
open Go.RowKit
set_option maxHeartbeats 8000000 in
set_option maxRecDepth 100000 in
theorem iOverQuotas_any (A B : Option Addr) (c d : Nat) (s : List Pc) (root : Int) (l : List Qt) (w : World) (hs : Sl w encP 2 A s) (hl : s.length ≤ 16777216) (hf : FitP s) (hs2 : Sl w encQ 2 B l) (hle : l.length ≤ d) (hl2 : l.length ≤ 16777216) (hf2 : FitQ l) (ht : TzL w) (hm : MaxL w) :
    Calls Tryz.prog 20 #[.slice A s.length c, .int .i64 root, .slice B l.length d] w (OwnRes 9 1 encS (overR s root l) w) := by
  have HS := Lib.hid hs
  have HS2 := Lib.hid hs2
  have HT := Lib.hid ht
  have HM := Lib.hid hm
  have HB := Lib.hid (Below.refl w.heap.size w)
  have hQV := fun w h h3 => iQuotasValid_any B d l w h hle hl2 hf2 h3
  have hSV := fun w h => iStoreValid_any A c s w h hl hf
  clear hs hs2 ht hm
  cases hq : quoV l
  · rw [overR_no (.inl hq)]
    rw [hq] at hQV
    have HQV := Lib.hid hQV
    clear hQV hSV hq
    go_enter Tryz.func20, Tryz.ntmps20
    go_wp2_with fail
    refine (HQV.out _ HS2.out HM.out).mono ?_
    rintro e w' ⟨rfl, hb⟩
    replace HB := Lib.hid (Below_then HB.out hb (Nat.le_refl _))
    clear hb
    go_wp2
    go_ret
    exact ⟨_, rfl, Own.nil, HB.out⟩
  · rw [hq] at hQV
    cases hv : storeV s
    · rw [overR_no (.inr hv)]
      rw [hv] at hSV
      have HQV := Lib.hid hQV
      have HSV := Lib.hid hSV
      clear hQV hSV hq hv
      go_enter Tryz.func20, Tryz.ntmps20
      go_wp2_with fail
      refine (HQV.out _ HS2.out HM.out).mono ?_
      rintro e w' ⟨rfl, hb⟩
      replace HB := Lib.hid (Below_then HB.out hb (Nat.le_refl _))
      replace HS := Lib.hid (HS.out.below hb)
      clear hb
      go_wp2_with fail
      refine (HSV.out _ HS.out).mono ?_
      rintro e w' ⟨rfl, hb⟩
      replace HB := Lib.hid (Below_then HB.out hb (Nat.le_refl _))
      clear hb
      go_wp2
      go_ret
      exact ⟨_, rfl, Own.nil, HB.out⟩
    · rw [overR_yes hq hv]
      rw [hv] at hSV
      have hl6 := quoV_len hq
      have HF2 := Lib.hid hf2
      have HU := Lib.hid (fun p w h h1 h2 h3 => iUsedBelow_any A c s root p w h hl hf h1 h2 h3)
      have HQV := Lib.hid hQV
      have HSV := Lib.hid hSV
      have HLN := Lib.hid (fun k => overB_len s root (l.take k))
      clear hQV hSV hq hv
      go_enter Tryz.func20, Tryz.ntmps20
      go_wp2_with fail
      refine (HQV.out _ HS2.out HM.out).mono ?_
      rintro e w' ⟨rfl, hb⟩
      replace HB := Lib.hid (Below_then HB.out hb (Nat.le_refl _))
      replace HS := Lib.hid (HS.out.below hb)
      replace HS2 := Lib.hid (HS2.out.below hb)
      replace HT := Lib.hid (HT.out.below hb)
      replace HM := Lib.hid (HM.out.below hb)
      clear hb
      go_wp2_with fail
      refine (HSV.out _ HS.out).mono ?_
      rintro e w2 ⟨rfl, hb⟩
      replace HB := Lib.hid (Below_then HB.out hb (Nat.le_refl _))
      replace HS := Lib.hid (HS.out.below hb)
      replace HS2 := Lib.hid (HS2.out.below hb)
      replace HT := Lib.hid (HT.out.below hb)
      replace HM := Lib.hid (HM.out.below hb)
      clear hb
      go_wp2_with fail
      go_loopw [7, 20] (fun v i wr => ∃ (k : Nat), k ≤ l.length ∧ i = .int .i64 k ∧ Own wr w2.heap.size 9 1 encS v (overB s root (l.take k)) ∧ Hid (Below w2.heap.size w2 wr)) (fun _ i _ => l.length - (intOf i).toNat)
      case atStart => exact ⟨0, Nat.zero_le _, rfl, Own.nil, Below.refl _ _⟩
      case round =>
        obtain ⟨k, hk, rfl, hown, HBW⟩ := hrel
        have HBA := Lib.hid (Below_then HB.out HBW.out (Nat.le_refl _))
        have HW := Lib.hid hown
        by_cases hlt : k < l.length
        · have hlt' : (k : Int) < (l.length : Int) := by omega
          obtain ⟨b, o, rfl, hc0, hc1⟩ := (HS2.out.below HBW.out).getQ hlt
          have hsz := HF2.out _ (List.getElem_mem hlt)
          have HN := Lib.hid (overB_next (s := s) (root := root) hlt)
          have hacc := HLN.out k
          have hacc2 : (overB s root (l.take k)).length ≤ 16777216 := by rw [List.length_take] at hacc; omega
          have hu := usedP_bd (s := s) (root := root) (path := bs l[k].1)
          have hov : overQ s root l[k] = decide (usedP s root (bs l[k].1) > l[k].2) := rfl
          rw [hov] at HN
          have hU := fun w h h2 h3 => HU.out l[k].1 w h hsz h2 h3
          generalize l[k] = q at *
          obtain ⟨p, x⟩ := q
          simp only at *
          generalize usedP s root (bs p) = u at *
          have HUX := Lib.hid hU
          clear hU hov hown
          have HBX := Lib.hid (HBW.out.alloc HBW.out.size (.cells #[.string p, .int .i64 x] 76))
          have HWX := Lib.hid (HW.out.alloc (.cells #[.string p, .int .i64 x] 76))
          have HSF := Lib.hid (fun f => (HS.out.below HBX.out).below (far_below (wr.alloc (.cells #[.string p, .int .i64 x] 76)) f))
          have HTF := Lib.hid (fun f => (HT.out.below HBX.out).below (far_below (wr.alloc (.cells #[.string p, .int .i64 x] 76)) f))
          have HMF := Lib.hid (fun f => (HM.out.below HBX.out).below (far_below (wr.alloc (.cells #[.string p, .int .i64 x] 76)) f))
          have z0 := far_cell (show (wr.alloc (.cells #[.string p, .int .i64 x] 76)).cell? ⟨wr.heap.size, 0, none⟩ = some (.string p) from new_cell rfl)
          have z1 := far_cell (show (wr.alloc (.cells #[.string p, .int .i64 x] 76)).cell? ⟨wr.heap.size, 1, none⟩ = some (.int .i64 x) from new_cell rfl)
          by_cases hgt : x < u
          · have HN2 := Lib.hid (show overB s root (l.take (k + 1)) = overB s root (l.take k) ++ [p] by rw [HN.out, decide_eq_true hgt]; rfl)
            clear HN
            go_wp2
            refine wp_region_far (by kernel_rfl) (by kernel_rfl) ?_
            repeat (go_big_quiet_step ((go_at_call 47; exact far_call (HUX.out _ (HSF.out _) (HTF.out _) (HMF.out _)))))
            refine wpQuiet_nil ?_
            intro _ hwF
            obtain ⟨pF, hwF⟩ := hwF
            subst hwF
            have HBF := Lib.hid (Below_then HBX.out (far_below _ pF) (Nat.le_refl _))
            have HWF := Lib.hid (HWX.out.below (far_below _ pF))
            replace z0 := z0 pF
            replace z1 := z1 pF
            generalize far _ pF = wF at *
            clear hc0 hc1
            go_wp2_with (at_builtin; refine app_str (w0 := w2) rfl rfl rfl rfl HWF.out HBF.out hacc2 ?_; intro v1 w6 hown6 hb6; have HW6 := Lib.hid hown6; have HB6 := Lib.hid hb6; clear hown6 hb6)
            go_roundw
            case rel => exact ⟨k + 1, by omega, by go_num, by rw [HN2.out]; exact HW6.out, HB6.out⟩
            case measure => simp [intOf]; omega
          · have HN2 := Lib.hid (show overB s root (l.take (k + 1)) = overB s root (l.take k) by rw [HN.out, decide_eq_false hgt]; simp)
            clear HN
            go_wp2
            refine wp_region_far (by kernel_rfl) (by kernel_rfl) ?_
            repeat (go_big_quiet_step ((go_at_call 47; exact far_call (HUX.out _ (HSF.out _) (HTF.out _) (HMF.out _)))))
            refine wpQuiet_nil ?_
            intro _ hwF
            obtain ⟨pF, hwF⟩ := hwF
            subst hwF
            have HBF := Lib.hid (Below_then HBX.out (far_below _ pF) (Nat.le_refl _))
            have HWF := Lib.hid (HWX.out.below (far_below _ pF))
            generalize far _ pF = wF at *
            clear hc0 hc1 z0 z1
            go_wp2
            go_roundw
            case rel => exact ⟨k + 1, by omega, by go_num, by rw [HN2.out]; exact HWF.out, HBF.out⟩
            case measure => simp [intOf]; omega
        · have hlt' : ¬ (k : Int) < (l.length : Int) := by omega
          have HE := Lib.hid (show l.take k = l from List.take_of_length_le (by omega))
          go_wp2
          go_ret
          exact ⟨_, rfl, by have h := HW.out.mono HB.out.size; rwa [HE.out] at h, HBA.out⟩
set_option maxHeartbeats 8000000 in
set_option maxRecDepth 100000 in
theorem sOverQuotas_any (A B : Option Addr) (c d : Nat) (s : List Pc) (root : Int) (l : List Qt) (w : World) (hs : Sl w encP 2 A s) (hl : s.length ≤ 16777216) (hf : FitP s) (hs2 : Sl w encQ 2 B l) (hl2 : l.length ≤ 16777216) (hf2 : FitQ l) :
    Calls Tryz.prog 17 #[.slice A s.length c, .int .i64 root, .slice B l.length d] w (OwnRes 9 1 encS (overR s root l) w) := by
  have HS := Lib.hid hs
  have HS2 := Lib.hid hs2
  have HB := Lib.hid ((Below.refl w.heap.size w).alloc (Nat.le_refl _) (.cells #[] 9))
  have HW0 := Lib.hid (Own.made (enc := encS) (E := 9) (size := 1) (Nat.le_refl w.heap.size))
  have hQV := fun w h => sQuotasValid_any B d l w h hl2 hf2
  have hSV := fun w h => sStoreValid_any A c s w h hl hf
  clear hs hs2
  by_cases hl0 : l = []
  · subst hl0
    have e : overR s root [] = [] := by unfold overR overB; split <;> rfl
    rw [e]
    clear hQV hSV e
    go_enter Tryz.func17, Tryz.ntmps17
    go_wp2_with fail
    go_loopw [7, 8] (fun v i wr => v = .slice (some ⟨w.heap.size, 0, none⟩) 0 0 ∧ i = .int .i64 0 ∧ wr = w.alloc (.cells #[] 9)) (fun _ _ _ => 0)
    case atStart => exact ⟨rfl, rfl, rfl⟩
    case round =>
      obtain ⟨rfl, rfl, rfl⟩ := hrel
      go_wp2
      go_ret
      exact ⟨_, rfl, HW0.out, HB.out⟩
  have hpos : (0 : Int) < (l.length : Int) := by have := List.length_pos_iff.2 hl0; omega
  cases hq : quoV l
  · rw [overR_no (.inl hq)]
    rw [hq] at hQV
    have HQV := Lib.hid hQV
    clear hQV hSV hq
    go_enter Tryz.func17, Tryz.ntmps17
    go_wp2_with fail
    go_loopw [7, 8] (fun v i wr => v = .slice (some ⟨w.heap.size, 0, none⟩) 0 0 ∧ i = .int .i64 0 ∧ wr = w.alloc (.cells #[] 9)) (fun _ _ _ => 0)
    case atStart => exact ⟨rfl, rfl, rfl⟩
    case round =>
      obtain ⟨rfl, rfl, rfl⟩ := hrel
      go_wp2_with fail
      refine (HQV.out _ (HS2.out.alloc _)).mono ?_
      rintro e w3 ⟨rfl, hb⟩
      replace HB := Lib.hid (HB.out.trans (hb.mono (by simp)))
      replace HW0 := Lib.hid (HW0.out.below hb)
      clear hb
      go_wp2
      go_ret
      exact ⟨_, rfl, HW0.out, HB.out⟩
  · rw [hq] at hQV
    cases hv : storeV s
    · rw [overR_no (.inr hv)]
      rw [hv] at hSV
      have HQV := Lib.hid hQV
      have HSV := Lib.hid hSV
      clear hQV hSV hq hv
      go_enter Tryz.func17, Tryz.ntmps17
      go_wp2_with fail
      go_loopw [7, 8] (fun v i wr => v = .slice (some ⟨w.heap.size, 0, none⟩) 0 0 ∧ i = .int .i64 0 ∧ wr = w.alloc (.cells #[] 9)) (fun _ _ _ => 0)
      case atStart => exact ⟨rfl, rfl, rfl⟩
      case round =>
        obtain ⟨rfl, rfl, rfl⟩ := hrel
        go_wp2_with fail
        refine (HQV.out _ (HS2.out.alloc _)).mono ?_
        rintro e w3 ⟨rfl, hb⟩
        replace HB := Lib.hid (HB.out.trans (hb.mono (by simp)))
        replace HW0 := Lib.hid (HW0.out.below hb)
        clear hb
        go_wp2_with fail
        refine (HSV.out _ (HS.out.below HB.out)).mono ?_
        rintro e w4 ⟨rfl, hb⟩
        replace HB := Lib.hid (Below_then HB.out hb (Nat.le_refl _))
        replace HW0 := Lib.hid (HW0.out.below hb)
        clear hb
        go_wp2
        go_ret
        exact ⟨_, rfl, HW0.out, HB.out⟩
    · rw [overR_yes hq hv]
      rw [hv] at hSV
      have hl6 := quoV_len hq
      have HF2 := Lib.hid hf2
      have HU := Lib.hid (fun p w h h1 => sUsedBelow_any A c s root p w h hl hf h1)
      have HQV := Lib.hid hQV
      have HSV := Lib.hid hSV
      have HLN := Lib.hid (fun k => overB_len s root (l.take k))
      clear hQV hSV hq hv
      go_enter Tryz.func17, Tryz.ntmps17
      go_wp2_with fail
      go_loopw [7, 8] (fun v i wr => ∃ (k : Nat), k ≤ l.length ∧ i = .int .i64 k ∧ Own wr w.heap.size 9 1 encS v (overB s root (l.take k)) ∧ Hid (Below w.heap.size w wr)) (fun _ i _ => l.length - (intOf i).toNat)
      case atStart => exact ⟨0, Nat.zero_le _, rfl, HW0.out, HB.out⟩
      case round =>
        obtain ⟨k, hk, rfl, hown, HBW⟩ := hrel
        have HW := Lib.hid hown
        clear hown
        by_cases hlt : k < l.length
        · have hlt' : (k : Int) < (l.length : Int) := by omega
          obtain ⟨b, o, hBb, _, _⟩ := (HS2.out.below HBW.out).getQ hlt
          have hsz := HF2.out _ (List.getElem_mem hlt)
          have HN := Lib.hid (overB_next (s := s) (root := root) hlt)
          have hacc := HLN.out k
          have hacc2 : (overB s root (l.take k)).length ≤ 16777216 := by rw [List.length_take] at hacc; omega
          have hu := usedP_bd (s := s) (root := root) (path := bs l[k].1)
          have hov : overQ s root l[k] = decide (usedP s root (bs l[k].1) > l[k].2) := rfl
          rw [hov] at HN
          have hU := fun w h => HU.out l[k].1 w h hsz
          subst hBb
          have HSW := Lib.hid (HS.out.below HBW.out)
          have HQW := Lib.hid (HS2.out.below HBW.out)
          go_wp2_with fail
          refine (HQV.out _ HQW.out).mono ?_
          rintro e w3 ⟨rfl, hb⟩
          replace HBW := Lib.hid (Below_then HBW.out hb (Nat.le_refl _))
          replace HSW := Lib.hid (HSW.out.below hb)
          replace HQW := Lib.hid (HQW.out.below hb)
          replace HW := Lib.hid (HW.out.below hb)
          clear hb
          go_wp2_with fail
          refine (HSV.out _ HSW.out).mono ?_
          rintro e w4 ⟨rfl, hb⟩
          replace HBW := Lib.hid (Below_then HBW.out hb (Nat.le_refl _))
          replace HSW := Lib.hid (HSW.out.below hb)
          replace HQW := Lib.hid (HQW.out.below hb)
          replace HW := Lib.hid (HW.out.below hb)
          clear hb
          obtain ⟨b2, o2, e2, hc0, hc1⟩ := HQW.out.getQ hlt
          injection e2 with e2; injection e2 with e3 e4
          subst e3 e4
          generalize l[k] = q at *
          obtain ⟨p, x⟩ := q
          simp only at *
          generalize usedP s root (bs p) = u at *
          have HUX := Lib.hid hU
          clear hU hov
          have HSF := Lib.hid (fun f => HSW.out.below (far_below w4 f))
          have z0 := far_cell hc0
          have z1 := far_cell hc1
          by_cases hgt : x < u
          · have HN2 := Lib.hid (show overB s root (l.take (k + 1)) = overB s root (l.take k) ++ [p] by rw [HN.out, decide_eq_true hgt]; rfl)
            clear HN
            go_wp2
            refine wp_region_far (by kernel_rfl) (by kernel_rfl) ?_
            repeat (go_big_quiet_step ((go_at_call 48; exact far_call (HUX.out _ (HSF.out _)))))
            refine wpQuiet_nil ?_
            intro _ hwF
            obtain ⟨pF, hwF⟩ := hwF
            subst hwF
            have HBF := Lib.hid (Below_then HBW.out (far_below _ pF) (Nat.le_refl _))
            have HWF := Lib.hid (HW.out.below (far_below _ pF))
            replace z0 := z0 pF
            replace z1 := z1 pF
            generalize far _ pF = wF at *
            clear hc0 hc1
            go_wp2_with (at_builtin; refine app_str (w0 := w) rfl rfl rfl rfl HWF.out HBF.out hacc2 ?_; intro v1 w6 hown6 hb6; have HW6 := Lib.hid hown6; have HB6 := Lib.hid hb6; clear hown6 hb6)
            go_roundw
            case rel => exact ⟨k + 1, by omega, by go_num, by rw [HN2.out]; exact HW6.out, HB6.out⟩
            case measure => simp [intOf]; omega
          · have HN2 := Lib.hid (show overB s root (l.take (k + 1)) = overB s root (l.take k) by rw [HN.out, decide_eq_false hgt]; simp)
            clear HN
            go_wp2
            refine wp_region_far (by kernel_rfl) (by kernel_rfl) ?_
            repeat (go_big_quiet_step ((go_at_call 48; exact far_call (HUX.out _ (HSF.out _)))))
            refine wpQuiet_nil ?_
            intro _ hwF
            obtain ⟨pF, hwF⟩ := hwF
            subst hwF
            have HBF := Lib.hid (Below_then HBW.out (far_below _ pF) (Nat.le_refl _))
            have HWF := Lib.hid (HW.out.below (far_below _ pF))
            generalize far _ pF = wF at *
            clear hc0 hc1 z0 z1
            go_wp2
            go_roundw
            case rel => exact ⟨k + 1, by omega, by go_num, by rw [HN2.out]; exact HWF.out, HBF.out⟩
            case measure => simp [intOf]; omega
        · have hlt' : ¬ (k : Int) < (l.length : Int) := by omega
          have HE := Lib.hid (show l.take k = l from List.take_of_length_le (by omega))
          go_wp2
          go_ret
          exact ⟨_, rfl, by have h := HW.out; rwa [HE.out] at h, HBW.out⟩
end Go.Proofs.YtaghiefokmapmaaGreatDoor
