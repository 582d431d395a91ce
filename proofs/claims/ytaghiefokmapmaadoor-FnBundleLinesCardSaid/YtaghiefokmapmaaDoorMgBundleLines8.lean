/- Written by merge.py: Rc, Sm, M2, Door, Tz. -/
import Derived.Test.YtaghiefokmapmaaDoorRows
import Derived.Handed
import Derived.HandedShaped
import Derived.Lay
import Derived.LaidMore
import Derived.SevenTiedAt
import Derived.Stop.Joined
import Derived.Shelf.Vars
import Derived.LaidSub
import Derived.OpenShut
import Derived.Test.YtaghiefokmapmaaDoorMgBundleLines7
/- ReadBundle of the reference, walked. -/
set_option linter.unusedVariables false
namespace Go.Proofs.YtaghiefokmapmaaDoor
open Go.RowKit
theorem cut_ext {s : ByteArray} {d x : Bs} (h : cutC 32 (bs s) = some (d, x)) : (headC 32 (bs s)).length < s.size ∧ s.extract 0 (headC 32 (bs s)).length = mk d ∧ s.extract ((headC 32 (bs s)).length + 1) s.size = mk x := by
  unfold cutC at h
  split at h
  · rename_i hlt
    injection h with h; injection h with h1 h2
    rw [size_bs] at hlt
    refine ⟨hlt, ?_, ?_⟩
    · apply ByteArray.ext
      apply Array.ext'
      rw [Lib.extract_data]
      show _ = d
      rw [← h1, Nat.sub_zero, List.drop_zero, ← headC_take]
    · apply ByteArray.ext
      apply Array.ext'
      rw [Lib.extract_data]
      show _ = x
      rw [← h2]
      exact List.take_of_length_le (by rw [List.length_drop]; exact Nat.le_refl _)
  · cases h
theorem cut_nil {s : ByteArray} (h : cutC 32 (bs s) = none) : (headC 32 (bs s)).length = s.size := by
  unfold cutC at h
  split at h
  · cases h
  · rename_i hlt
    have := headC_le 32 (bs s)
    rw [size_bs] at hlt this; omega
theorem piece_num {a : Int} {x : Bs} (h : a < 0) : pieceOk (a, mk x) = false := by
  cases hp : pieceOk (a, mk x)
  · rfl
  · have := pv_iff.1 (pieceOk_pv hp)
    simp only at this; omega
theorem piece_pr {a : Int} {x : Bs} (h : 0 ≤ a) : pieceOk (a, mk x) = decide (prOf x = a) := by
  rw [Bool.eq_iff_iff, pieceOk_iff, decide_eq_true_eq]
  constructor
  · exact fun h => h.2
  · intro h2
    refine ⟨?_, h2⟩
    cases ht : textV (tx (mk x))
    · have := prOf_bad ht
      rw [show prOf (tx (mk x)) = prOf x from rfl, h2] at this; omega
    · rfl
set_option maxHeartbeats 2000000 in
set_option maxRecDepth 100000 in
theorem sReadBundle_any (A : Option Addr) (c : Nat) (l : List ByteArray) (w : World) (hs : Sl w encS 1 A l) (hl : l.length ≤ 16777216) (hf : ∀ s ∈ l, s.size ≤ 16777216) :
    Calls Tryd.prog 15 #[.slice A l.length c] w (RbRes (bundR l) w) := by
  have HS := Lib.hid hs
  have HF := Lib.hid hf
  clear hs hf
  unfold RbRes
  generalize hrp : bundR l = R at *
  have HRP := Lib.hid hrp
  clear hrp
  go_enter Tryd.func15, Tryd.ntmps15
  go_wp2_with fail
  go_loopw [4, 5, 6] (fun v z i wr => ∃ (k bad : Nat) (st : List Pc), k ≤ l.length ∧ i = .int .i64 k ∧ z = .int .i64 bad ∧ bad ≤ k ∧ Hid (bundR (l.take k) = (st, bad)) ∧ Own wr w.heap.size 44 2 encP v st ∧ Below w.heap.size w wr) (fun _ _ i _ => l.length - (intOf i).toNat)
  case atStart => exact ⟨0, 0, [], Nat.zero_le _, rfl, rfl, Nat.le_refl _, rfl, Own.made (Nat.le_refl _), (Below.refl _ _).alloc (Nat.le_refl _) _⟩
  case round =>
    obtain ⟨k, bad, st, hk, rfl, rfl, hbk, hR, hown, hb⟩ := hrel
    obtain ⟨X, d, rfl, hle, hsX, _⟩ := hown.sl
    have HW := Lib.hid hown
    have HSX := Lib.hid hsX
    have HB := Lib.hid hb
    have HCZ := Lib.hid hown.cz
    have HLE := Lib.hid hle
    have hok := bundR_ok (l.take k)
    rw [hR.out] at hok
    have HFS := Lib.hid (show FitP st from fit_store hok.1)
    have hs40 : st.length ≤ 40 := storeV_len hok.1
    have HSV := Lib.hid (show storeV st = true from hok.1)
    by_cases hlt : k < l.length
    · obtain ⟨b, o, rfl, hc⟩ := (HS.out.below hb).getS hlt
      have hfk : l[k].size ≤ 16777216 := HF.out _ (by simp)
      have hst := bundR_step hlt hR.out
      clear hown hsX hb hok hR hle
      generalize l[k] = s at *
      have HN := Lib.hid (fun h => hst.trans (lineB_none h))
      have HWR := Lib.hid (fun x h hp => hst.trans (lineB_wrong (x := x) h hp))
      have HFU := Lib.hid (fun x h hp hok => hst.trans (lineB_full (x := x) h hp hok))
      have HPU := Lib.hid (fun x h hp hok => hst.trans (lineB_put (x := x) h hp hok))
      have HNE := Lib.hid (fun j (h : j < s.size) (hj : j < (headC 32 (bs s)).length) => headC_ne 32 (bs s) j h hj)
      have HAT := Lib.hid (fun (h : (headC 32 (bs s)).length < s.size) => headC_at 32 (bs s) h)
      have hhl : (headC 32 (bs s)).length ≤ s.size := headC_le 32 (bs s)
      have HCE := Lib.hid (fun d x => @cut_ext s d x)
      have HCN := Lib.hid (@cut_nil s)
      clear hst
      generalize hh : (headC 32 (bs s)).length = h at *
      clear hh
      go_wp2_with fail
      go_loop [7] (fun j => ∃ (t : Nat), t ≤ h ∧ j = .int .i64 t) (fun j => h - (intOf j).toNat)
      case atStart => exact ⟨0, Nat.zero_le _, rfl⟩
      case round =>
        obtain ⟨t, ht, rfl⟩ := hrel
        by_cases htl : t < h
        · have hts : t < s.size := by omega
          have hne : ¬ s[t].toNat = 32 := by
            have h1 := HNE.out t hts htl
            intro e; apply h1; rw [get_bs s t hts]
            exact UInt8.toNat_inj.1 e
          have hne2 : ¬ ((s[t].toNat : Int) = 32) := by omega
          go_wp2
          go_round
          case rel => exact ⟨t + 1, by omega, by go_num⟩
          case measure => simp [intOf]; omega
        · obtain rfl : t = h := by omega
          cases hcu : cutC 32 (bs s) with
          | none =>
            have hts := HCN.out hcu
            have HE := Lib.hid (HN.out hcu)
            have hnl : ¬ t < s.size := by omega
            have hnl2 : decide ((t : Int) < (s.size : Int)) = false := decide_eq_false (by omega)
            have hcf := far_cell hc
            clear hcu HN HWR HFU HPU HNE HAT HCE HCN hts
            go_wp2
            refine wp_region_far (by kernel_rfl) (by kernel_rfl) ?_
            repeat (go_big_quiet_step (fail))
            refine wpQuiet_nil ?_
            intro _ hwF
            obtain ⟨pF, hwF⟩ := hwF
            subst hwF
            have HB5 := Lib.hid (Below_then HB.out (far_below _ pF) (Nat.le_refl _))
            have HW5 := Lib.hid (HW.out.below (far_below _ pF))
            generalize far _ pF = wF at *
            clear hc hcf
            go_wp2
            go_roundw
            case rel => exact ⟨k + 1, bad + 1, st, by omega, by go_num, by go_num, by omega, HE.out, HW5.out, HB5.out⟩
            case measure => simp [intOf]; omega
          | some x =>
            obtain ⟨dg, tt⟩ := x
            obtain ⟨hts, e1, e2⟩ := HCE.out _ _ hcu
            have hat : s[t].toNat = 32 := by rw [← get_bs s t hts, HAT.out hts]; rfl
            have hnl2 : decide ((t : Int) < (s.size : Int)) = true := decide_eq_true (by omega)
            have hlen := cutC_len hcu
            have hd1 : (mk dg).size ≤ 16777216 := by rw [mk_size]; omega
            have hd2 : (mk tt).size ≤ 16777216 := by rw [mk_size]; omega
            have hk2 : IntKind.i64.wrap ((t : Int) + 1) = (t : Int) + 1 := IntWalk.i64_in _ (by omega)
            have hk3 : (0 : Int) ≤ (t : Int) + 1 := by omega
            have hk4 : (t : Int) + 1 ≤ (s.size : Int) := by omega
            have hk5 : ((t : Int) + 1).toNat = t + 1 := by omega
            have hRH := fun w => sReadHex_any (mk dg) w hd1
            have hPO := fun w => sPrintOf_any (mk tt) w hd2
            rw [show bs (mk dg) = dg from rfl] at hRH
            rw [show bs (mk tt) = tt from rfl] at hPO
            have hWR := HWR.out _ hcu
            have hFU := HFU.out _ hcu
            have hPU := HPU.out _ hcu
            have hpn := @piece_num (readH dg) tt
            have hpp := @piece_pr (readH dg) tt
            have hcf := far_cell hc
            simp only at hWR hFU hPU
            clear hcu HN HWR HFU HPU HNE HAT HCE HCN hlen
            generalize readH dg = hx at *
            generalize prOf tt = px at *
            generalize mk dg = DG at *
            generalize mk tt = TT at *
            have HRH := Lib.hid hRH
            have HPO := Lib.hid hPO
            clear hRH hPO
            by_cases hneg : hx < 0
            · have HE := Lib.hid (hWR (hpn hneg))
              have hneg2 : decide (0 ≤ hx) = false := decide_eq_false (by omega)
              clear hWR hFU hPU hpn hpp
              go_wp2
              refine wp_region_far (by kernel_rfl) (by kernel_rfl) ?_
              repeat (go_big_quiet_step ((first | (go_at_call 32; exact far_same (HRH.out _)) | (go_at_call 25; exact far_same (HPO.out _)))))
              refine wpQuiet_nil ?_
              intro _ hwF
              obtain ⟨pF, hwF⟩ := hwF
              subst hwF
              have HB5 := Lib.hid (Below_then HB.out (far_below _ pF) (Nat.le_refl _))
              have HW5 := Lib.hid (HW.out.below (far_below _ pF))
              generalize far _ pF = wF at *
              clear hc hcf
              go_wp2
              go_roundw
              case rel => exact ⟨k + 1, bad + 1, st, by omega, by go_num, by go_num, by omega, HE.out, HW5.out, HB5.out⟩
              case measure => simp [intOf]; omega
            · have hneg2 : decide (0 ≤ hx) = true := decide_eq_true (by omega)
              have hpe := hpp (by omega)
              clear hpn hpp
              by_cases hpx : px = hx
              · rw [decide_eq_true hpx] at hpe
                subst hpx
                have hFU' := hFU hpe
                have hPU' := hPU hpe
                clear hWR hFU hPU hpe
                have hpt := fun w h => sPutText_any X d st TT w h HCZ.out HLE.out (by omega) HFS.out hd2
                unfold PutRes at hpt
                cases hok : (putT st TT).2.2
                all_goals
                  rw [hok] at hpt
                  first
                    | have HE := Lib.hid (hFU' hok)
                    | have HE := Lib.hid (hPU' hok)
                  have HPT := Lib.hid hpt
                  clear hpt hFU' hPU'
                  first
                    | have HRS := Lib.hid (show (putT st TT).1 = st by rw [putT_no HSV.out hok])
                    | skip
                  generalize putT st TT = r at *
                  go_wp2
                  refine wp_region_far (by kernel_rfl) (by kernel_rfl) ?_
                  repeat (go_big_quiet_step ((first | (go_at_call 32; exact far_same (HRH.out _)) | (go_at_call 25; exact far_same (HPO.out _)))))
                  refine wpQuiet_nil ?_
                  intro _ hwF
                  obtain ⟨pF, hwF⟩ := hwF
                  subst hwF
                  have HB5 := Lib.hid (Below_then HB.out (far_below _ pF) (Nat.le_refl _))
                  have HW5 := Lib.hid (HW.out.below (far_below _ pF))
                  have HX5 := Lib.hid (HSX.out.below (far_below _ pF))
                  have hc5 := hcf pF
                  generalize far _ pF = wF at *
                  clear hc hcf
                  go_wp2_with fail
                  refine (HPT.out _ HX5.out).mono ?_
                  rintro e w6 ⟨v6, rfl, hown6, hb6⟩
                  have HW6 := Lib.hid (hown6.mono HB5.out.size)
                  have HB6 := Lib.hid (Below_then HB5.out hb6 (Nat.le_refl _))
                  clear hown6 hb6
                  go_wp2
                  go_roundw
                  case rel => first | exact ⟨k + 1, bad, r.1, by omega, by go_num, rfl, by omega, HE.out, HW6.out, HB6.out⟩ | exact ⟨k + 1, bad + 1, r.1, by omega, by go_num, by go_num, by omega, by rw [HRS.out]; exact HE.out, HW6.out, HB6.out⟩
                  case measure => simp [intOf]; omega
              · have HE := Lib.hid (hWR (by rw [hpe]; exact decide_eq_false hpx))
                have hpx2 : (px == hx) = false := beq_eq_false_iff_ne.2 hpx
                clear hWR hFU hPU hpe
                go_wp2
                refine wp_region_far (by kernel_rfl) (by kernel_rfl) ?_
                repeat (go_big_quiet_step ((first | (go_at_call 32; exact far_same (HRH.out _)) | (go_at_call 25; exact far_same (HPO.out _)))))
                refine wpQuiet_nil ?_
                intro _ hwF
                obtain ⟨pF, hwF⟩ := hwF
                subst hwF
                have HB5 := Lib.hid (Below_then HB.out (far_below _ pF) (Nat.le_refl _))
                have HW5 := Lib.hid (HW.out.below (far_below _ pF))
                generalize far _ pF = wF at *
                clear hc hcf
                go_wp2
                go_roundw
                case rel => exact ⟨k + 1, bad + 1, st, by omega, by go_num, by go_num, by omega, HE.out, HW5.out, HB5.out⟩
                case measure => simp [intOf]; omega
    · have HE := Lib.hid (show R = (st, bad) by rw [← HRP.out]; have := hR.out; rwa [List.take_of_length_le (by omega)] at this)
      clear hown hsX hb hok
      go_wp2
      go_ret2
      rw [HE.out]
      exact ⟨_, rfl, HW.out, HB.out⟩
end Go.Proofs.YtaghiefokmapmaaDoor

/- samePieces of equal slices, walked. -/
set_option linter.unusedVariables false
namespace Go.Proofs.YtaghiefokmapmaaDoor
open Go.RowKit
theorem Sl.getPo {w : World} {A : Option Addr} {l : List Pc} {k : Nat} {x : Pc} (h : Sl w encP 2 A l) (hk : l[k]? = some x) :
    ∃ b o, A = some ⟨b, o, none⟩ ∧ w.cell? ⟨b, o + k * 2, none⟩ = some (.int .i64 x.1) ∧ w.cell? ⟨b, o + k * 2 + 1, none⟩ = some (.string x.2) := by
  obtain ⟨hlt, rfl⟩ := List.getElem?_eq_some_iff.1 hk
  exact h.getP hlt
set_option maxHeartbeats 2000000 in
set_option maxRecDepth 100000 in
theorem samePieces_same (A B : Option Addr) (c d : Nat) (l : List Pc) (w : World) (ha : Sl w encP 2 A l) (hb : Sl w encP 2 B l) (hl : l.length ≤ 16777216) :
    Calls Tryd.prog 13 #[.slice A l.length c, .slice B l.length d] w fun e w' => e = .returned (.bool true) ∧ Below w.heap.size w w' := by
  have HA := Lib.hid ha
  have HB := Lib.hid hb
  clear ha hb
  have hgd := pc_guard
  go_enter Tryd.func13, Tryd.ntmps13
  go_wp2
  go_loopw [5] (fun i wr => ∃ (k : Nat), k ≤ l.length ∧ i = .int .i64 k ∧ Below w.heap.size w wr) (fun i _ => l.length - (intOf i).toNat)
  case atStart => exact ⟨0, Nat.zero_le _, rfl, Below.refl _ _⟩
  case round =>
    obtain ⟨k, hk, rfl, hbw⟩ := hrel
    have HW := Lib.hid hbw
    clear hbw
    by_cases hlt : k < l.length
    · obtain ⟨b1, o1, rfl, hc0, hc1⟩ := (HA.out.below HW.out).getP hlt
      obtain ⟨b2, o2, rfl, hd0, hd1⟩ := (HB.out.below HW.out).getP hlt
      generalize l[k] = p at *
      have heq := fun W => eq_pc W p.1 p.1 p.2 p.2
      simp only [beq_self_eq_true, Bool.and_self] at heq
      replace hc0 := far_cell hc0
      replace hc1 := far_cell hc1
      replace hd0 := far_cell hd0
      replace hd1 := far_cell hd1
      go_wp2
      refine wp_region_far (by kernel_rfl) (by kernel_rfl) ?_
      repeat (go_big_quiet_step (fail))
      refine wpQuiet_nil ?_
      intro _ hwF
      obtain ⟨pF, hwF⟩ := hwF
      subst hwF
      go_wp2
      go_roundw
      case rel => exact ⟨k + 1, by omega, by go_num, Below_then HW.out (far_below _ _) (Nat.le_refl _)⟩
      case measure => simp [intOf]; omega
    · go_wp2
      go_ret
      exact ⟨rfl, HW.out⟩
end Go.Proofs.YtaghiefokmapmaaDoor

/- FnBundleLines, walked: bundles can be read. -/
set_option linter.unusedVariables false
namespace Go.Proofs.YtaghiefokmapmaaDoor
open Go.RowKit
theorem lineOf_size {l : List Pc} (h : ∀ q ∈ l, q.2.size ≤ 60) : ∀ x ∈ bundL l, x.size ≤ 67 := fun x hx => by
  unfold bundL at hx
  split at hx
  · obtain ⟨q, hq, rfl⟩ := List.mem_map.1 hx
    have h1 := h q hq
    have h2 := hexT_len q.1
    have h3 := lineOf_bs q
    have h4 := congrArg List.length h3
    rw [size_bs, List.length_append, List.length_cons] at h4
    have h5 : (tx q.2).length = q.2.size := size_bs q.2
    omega
  · cases hx
set_option maxHeartbeats 4000000 in
set_option maxRecDepth 100000 in
theorem wFnBundleLines (A : Option Addr) (n c : Nat) (w : World) (hb : BytesIn w A n c) (hm : MaxL w) (ht : TzL w) : Calls Tryd.prog 3 #[.slice A n c] w (LawOk w) := by
  by_cases h : n ≤ 1048576
  case neg =>
    go_enter Tryd.func3, Tryd.ntmps3
    go_wp2
    go_ret
    exact ⟨rfl, Below.refl _ _⟩
  have HBI := Lib.hid hb
  have HM := Lib.hid hm
  have HT := Lib.hid ht
  clear hb hm ht
  go_enter Tryd.func3, Tryd.ntmps3
  go_wp2_with fail
  refine (DrawBundleLines_any _ _ _ _ HBI.out).mono ?_
  rintro e w1 ⟨v1, l, root, rfl, hown1, hf1, hb1⟩
  obtain ⟨A1, c1, rfl, hle1, hs1, _⟩ := hown1.sl
  have HS1 := Lib.hid hs1
  have HB1 := Lib.hid hb1
  have HM1 := Lib.hid (HM.out.below hb1)
  have HT1 := Lib.hid (HT.out.below hb1)
  have HF1 := Lib.hid hf1.fitP
  have hl1 := hf1.len
  have HSZ := Lib.hid (lineOf_size hf1.fit)
  clear hown1 hs1 hb1 hf1
  have hI := fun w h => iBundleLines_any A1 c1 l w h (by omega) HF1.out
  have hS := fun w h => sBundleLines_any A1 c1 l w h (by omega) HF1.out
  have hV := fun w h => sStoreValid_any A1 c1 l w h (by omega) HF1.out
  have hbl := bundL_len l
  have hRD := read_lines (l := l)
  have hbad : storeV l = false → bundL l = [] := fun h => by unfold bundL; rw [h]; rfl
  unfold OwnRes at hI hS
  generalize bundL l = L at *
  have HI := Lib.hid hI
  have HS := Lib.hid hS
  clear hI hS
  go_wp2_with fail
  refine (HI.out _ HS1.out HT1.out).mono ?_
  rintro e w2 ⟨v2, rfl, hown2, hb2⟩
  obtain ⟨A2, c2, rfl, hle2, hs2, _⟩ := hown2.sl
  have HX2 := Lib.hid hs2
  have HB2 := Lib.hid (Below_then HB1.out hb2 (Nat.le_refl _))
  have HS2 := Lib.hid (HS1.out.below hb2)
  have HM2 := Lib.hid (HM1.out.below hb2)
  have HT2 := Lib.hid (HT1.out.below hb2)
  clear hown2 hs2 hb2
  go_wp2_with fail
  refine (HS.out _ HS2.out).mono ?_
  rintro e w3 ⟨v3, rfl, hown3, hb3⟩
  obtain ⟨A3, c3, rfl, hle3, hs3, _⟩ := hown3.sl
  have HX3 := Lib.hid (HX2.out.below hb3)
  have HY3 := Lib.hid hs3
  have HB3 := Lib.hid (Below_then HB2.out hb3 (Nat.le_refl _))
  have HS3 := Lib.hid (HS2.out.below hb3)
  have HM3 := Lib.hid (HM2.out.below hb3)
  have HT3 := Lib.hid (HT2.out.below hb3)
  clear hown3 hs3 hb3
  go_wp2_with fail
  refine (l_sameTexts_same A2 A3 c2 c3 L _ HX3.out HY3.out (by omega)).mono ?_
  rintro e w4 ⟨rfl, hd4⟩
  have hb4 := hd4.below
  have HX4 := Lib.hid (HX3.out.below hb4)
  have HB4 := Lib.hid (Below_then HB3.out hb4 (Nat.le_refl _))
  have HS4 := Lib.hid (HS3.out.below hb4)
  have HM4 := Lib.hid (HM3.out.below hb4)
  have HT4 := Lib.hid (HT3.out.below hb4)
  clear hd4 hb4
  cases hv : storeV l
  · rw [hv] at hV
    have HV := Lib.hid hV
    have hL := hbad hv
    have hz : L.length = 0 := by rw [hL]; rfl
    clear hV hv hRD hbad
    go_wp2_with fail
    refine (HV.out _ HS4.out).mono ?_
    rintro e w5 ⟨rfl, hb5⟩
    have HB5 := Lib.hid (Below_then HB4.out hb5 (Nat.le_refl _))
    clear hb5 hL
    have hz' : ((L.length : Int) == 0) = true := by rw [beq_iff_eq]; omega
    clear hz
    go_wp2_with (go_at_call 11; refine (alive_any _).mono ?_; rintro e w' ⟨rfl, rfl⟩)
    go_ret
    exact ⟨rfl, HB5.out⟩
  · rw [hv] at hV
    have HV := Lib.hid hV
    have hR := fun w h h2 h3 => iReadBundle_any A2 c2 L w h (by omega) (fun x hx => Nat.le_trans (HSZ.out x hx) (by omega)) h2 h3
    rw [hRD hv] at hR
    unfold RbRes at hR
    have HR := Lib.hid hR
    clear hV hv hRD hbad hR
    go_wp2_with fail
    refine (HV.out _ HS4.out).mono ?_
    rintro e w5 ⟨rfl, hb5⟩
    have HB5 := Lib.hid (Below_then HB4.out hb5 (Nat.le_refl _))
    have HX5 := Lib.hid (HX4.out.below hb5)
    have HS5 := Lib.hid (HS4.out.below hb5)
    have HM5 := Lib.hid (HM4.out.below hb5)
    have HT5 := Lib.hid (HT4.out.below hb5)
    clear hb5
    go_wp2_with fail
    refine (HR.out _ HX5.out HT5.out HM5.out).mono ?_
    rintro e w6 ⟨v6, rfl, hown6, hb6⟩
    obtain ⟨A6, c6, rfl, hle6, hs6, _⟩ := hown6.sl
    have HY6 := Lib.hid hs6
    have HB6 := Lib.hid (Below_then HB5.out hb6 (Nat.le_refl _))
    have HS6 := Lib.hid (HS5.out.below hb6)
    clear hown6 hs6 hb6
    have HSP := Lib.hid (fun w h1 h2 => samePieces_same A6 A1 c6 c1 l w h1 h2 (by omega))
    go_wp2_with (go_at_call 13; refine (HSP.out _ HY6.out HS6.out).mono ?_; rintro e w7 ⟨rfl, hb7⟩; have HB7 := Lib.hid (Below_then HB6.out hb7 (Nat.le_refl _)); clear hb7)
    go_ret
    exact ⟨rfl, HB7.out⟩
end Go.Proofs.YtaghiefokmapmaaDoor

/- The frame of a law whose row lists variables of the library: the world's shape is kept beside the condition. -/
set_option linter.unusedVariables false
namespace Go.Proofs.YtaghiefokmapmaaDoor
open Go Go.ChangeShapes Go.WideShapes
variable {H : Type} {enc : TypeId × Value → H}
theorem returns_and_shaped {a : Assume} {C : Checked} {os : Os} {f : FuncId} {fn : Func} {s : ChangeSpec} {conds : List PathCond} {apart fresh handsOn again : Bool} {X : World → Array Value → Prop}
    (hX : ∀ (w w' : World) (args : Array Value), w.heap = w'.heap → X w args → X w' args)
    (own : ownKnob C.prog.godebug = none) (started : os.Started) (noInit : C.prog.inits.idxOf? f = none) (hfn : C.prog.funcs[f]? = some fn)
    (witness : ∃ (w : World) (tape : Tape) (i : Input), w.os = os ∧ (w.forCall tape i).Shaped C.prog ∧ i.vars = [] ∧ Input.okWide C.prog (w.forCall tape i) .any w.heap.size f i ∧
      ((s.pre enc C.prog fn conds apart (w.forCall tape i).memory i.args ∧ X (w.forCall tape i).memory i.args) ∧ sizedMet enc C.prog fn (OpenSpec.ofChange s) apart (w.forCall tape i).memory i.args) ∧ a.holds C.prog (lone (Frame.enter C.prog f i.args .normal) [] (w.forCall tape i)))
    (contract : ∀ (W : World) (base : Nat) (args : Array Value) (ds gs : List (DataW H)) (before : List MemPlace),
      (∀ (j : Nat) t v, fn.params[j]? = some t → args[j]? = some v → Value.okWide C.prog W .any base t v) →
      DataW.Whole enc C.prog fn.params.toList s.vars apart W args.toList ds gs before → W.ShapedOpen C.prog → X W args →
      Calls C.prog f args W fun e W' => ∃ v, e = .returned v ∧ s.post enc C.prog fn apart fresh handsOn again W args v W') :
    ReturnsInHanded a C os f .any (fun w args => (s.pre enc C.prog fn conds apart w args ∧ X w args) ∧ sizedMet enc C.prog fn (OpenSpec.ofChange s) apart w args) (s.post enc C.prog fn apart fresh handsOn again) := by
  refine returnsInHanded_of_calls own started noInit witness ?_
  intro w tape i _ hsh _ hok hpre hholds
  obtain ⟨_, _, _, fn', hfn', _, _, _, _, hval⟩ := hok
  have e : fn' = fn := Option.some.inj (hfn'.symm.trans hfn)
  subst e
  obtain ⟨⟨⟨ds, gs, before, hw, hc⟩, hx⟩, hz⟩ := hpre
  have hw' := DataW.Whole.of_heap (w' := w.forCall tape i) (by rfl) hw
  refine (contract (w.forCall tape i) w.heap.size i.args ds gs before hval hw' hsh (hX _ _ _ (by rfl) hx)).mono fun e W' ⟨v, he, hp⟩ => ?_
  subst he
  exact ChangeSpec.post_blind hp
end Go.Proofs.YtaghiefokmapmaaDoor

/- What the listed table of math/bits holds. -/
set_option linter.unusedVariables false
namespace Go.Proofs.YtaghiefokmapmaaDoor
open Go Go.ChangeShapes Go.WideShapes
set_option maxRecDepth 100000 in
theorem tz_laid {W : World} (h : laidMetH Tryd.prog [("math/bits.deBruijn64tab", Rows.laid_math_bits_deBruijn64tab)] W) : TzL W := by
  rw [MakeChecks.laidMetH_plain _ _ _ (by kernel_rfl)] at h
  obtain ⟨ps, ⟨g, t, cs, fuel, p, q, hg, ht, hv, hd, _, _⟩, _, _⟩ := h
  obtain rfl := Option.some.inj ((show Tryd.prog.globalNamed "math/bits.deBruijn64tab" = some 3 by kernel_rfl).symm.trans hg)
  obtain rfl := Option.some.inj ((show (Tryd.prog.globals[3]?).map (·.type) = some 132 by kernel_rfl).symm.trans ht)
  obtain ⟨xs, m, _, ex, _, hl, hel⟩ := DataW.trod_array Tryd.underlying132 hd
  have c5 : Tryd.prog.cellsOf 5 = 1 := by kernel_rfl
  have hE := hel 15 (by omega)
  rw [c5, Nat.mul_one, List.getElem?_eq_getElem (by omega)] at hE
  obtain ⟨z, e1, e2, _⟩ := DataW.trod_int Tryd.underlying5 hE
  have e3 := (Prod.mk.inj ex).1
  unfold Rows.laid_math_bits_deBruijn64tab at e3
  have e4 : (xs.map (·.1))[15]? = some (.lit (.int .u8 4)) := by rw [← DataW.agg.inj e3]; rfl
  rw [List.getElem?_map, List.getElem?_eq_getElem (by omega : 15 < xs.length), e2] at e4
  have hz : z = 4 := by simpa using e4
  unfold TzL
  rw [World.var?_cell hg hv 15, ← hz]
  have : cs.toList[15]? = some (.int .u8 z) := by
    have h0 : ((cs.toList.drop 15).take 1)[0]? = some (.int .u8 z) := by rw [e1]; rfl
    simpa using h0
  simpa using this
end Go.Proofs.YtaghiefokmapmaaDoor
