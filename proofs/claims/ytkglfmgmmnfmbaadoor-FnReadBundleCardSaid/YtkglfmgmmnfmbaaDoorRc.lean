/- ReadBundle of the reference, walked. -/
import Derived.Test.YtkglfmgmmnfmbaaDoorGc2
set_option linter.unusedVariables false
namespace Go.Proofs.YtkglfmgmmnfmbaaDoor
open Go.RowKit
theorem cut_ext {s : ByteArray} {d x : Bs} (h : cutC 32 (bs s) = some (d, x)) : (headC 32 (bs s)).length < s.size ∧ s.extract 0 (headC 32 (bs s)).length = mk d ∧ s.extract ((headC 32 (bs s)).length + 1) s.size = mk x := by
  unfold cutC at h
  split at h
  · rename_i hlt
    injection h with h; injection h with h1 h2
    rw [size_bs] at hlt
    refine ⟨hlt, ?_, ?_⟩
    · apply ByteArray.ext
      apply Array.ext'
      rw [Lib.extract_data]
      show _ = d
      rw [← h1, Nat.sub_zero, List.drop_zero, ← headC_take]
    · apply ByteArray.ext
      apply Array.ext'
      rw [Lib.extract_data]
      show _ = x
      rw [← h2]
      exact List.take_of_length_le (by rw [List.length_drop]; exact Nat.le_refl _)
  · cases h
theorem cut_nil {s : ByteArray} (h : cutC 32 (bs s) = none) : (headC 32 (bs s)).length = s.size := by
  unfold cutC at h
  split at h
  · cases h
  · rename_i hlt
    have := headC_le 32 (bs s)
    rw [size_bs] at hlt this; omega
theorem piece_num {a : Int} {x : Bs} (h : a < 0) : pieceOk (a, mk x) = false := by
  cases hp : pieceOk (a, mk x)
  · rfl
  · have := pv_iff.1 (pieceOk_pv hp)
    simp only at this; omega
theorem piece_pr {a : Int} {x : Bs} (h : 0 ≤ a) : pieceOk (a, mk x) = decide (prOf x = a) := by
  rw [Bool.eq_iff_iff, pieceOk_iff, decide_eq_true_eq]
  constructor
  · exact fun h => h.2
  · intro h2
    refine ⟨?_, h2⟩
    cases ht : textV (tx (mk x))
    · have := prOf_bad ht
      rw [show prOf (tx (mk x)) = prOf x from rfl, h2] at this; omega
    · rfl
set_option maxHeartbeats 2000000 in
set_option maxRecDepth 100000 in
theorem sReadBundle_any (A : Option Addr) (c : Nat) (l : List ByteArray) (w : World) (hs : Sl w encS 1 A l) (hl : l.length ≤ 16777216) (hf : ∀ s ∈ l, s.size ≤ 16777216) :
    Calls Tryd.prog 11 #[.slice A l.length c] w (RbRes (bundR l) w) := by
  have HS := Lib.hid hs
  have HF := Lib.hid hf
  clear hs hf
  unfold RbRes
  generalize hrp : bundR l = R at *
  have HRP := Lib.hid hrp
  clear hrp
  go_enter Tryd.func11, Tryd.ntmps11
  go_wp2_with fail
  go_loopw [4, 5, 6] (fun v z i wr => ∃ (k bad : Nat) (st : List Pc), k ≤ l.length ∧ i = .int .i64 k ∧ z = .int .i64 bad ∧ bad ≤ k ∧ Hid (bundR (l.take k) = (st, bad)) ∧ Own wr w.heap.size 57 2 encP v st ∧ Below w.heap.size w wr) (fun _ _ i _ => l.length - (intOf i).toNat)
  case atStart => exact ⟨0, 0, [], Nat.zero_le _, rfl, rfl, Nat.le_refl _, rfl, Own.made (Nat.le_refl _), (Below.refl _ _).alloc (Nat.le_refl _) _⟩
  case round =>
    obtain ⟨k, bad, st, hk, rfl, rfl, hbk, hR, hown, hb⟩ := hrel
    obtain ⟨X, d, rfl, hle, hsX, _⟩ := hown.sl
    have HW := Lib.hid hown
    have HSX := Lib.hid hsX
    have HB := Lib.hid hb
    have HCZ := Lib.hid hown.cz
    have HLE := Lib.hid hle
    have hok := bundR_ok (l.take k)
    rw [hR.out] at hok
    have HFS := Lib.hid (show FitP st from fit_store hok.1)
    have hs40 : st.length ≤ 40 := storeV_len hok.1
    have HSV := Lib.hid (show storeV st = true from hok.1)
    by_cases hlt : k < l.length
    · obtain ⟨b, o, rfl, hc⟩ := (HS.out.below hb).getS hlt
      have hfk : l[k].size ≤ 16777216 := HF.out _ (by simp)
      have hst := bundR_step hlt hR.out
      clear hown hsX hb hok hR hle
      generalize l[k] = s at *
      have HN := Lib.hid (fun h => hst.trans (lineB_none h))
      have HWR := Lib.hid (fun x h hp => hst.trans (lineB_wrong (x := x) h hp))
      have HFU := Lib.hid (fun x h hp hok => hst.trans (lineB_full (x := x) h hp hok))
      have HPU := Lib.hid (fun x h hp hok => hst.trans (lineB_put (x := x) h hp hok))
      have HNE := Lib.hid (fun j (h : j < s.size) (hj : j < (headC 32 (bs s)).length) => headC_ne 32 (bs s) j h hj)
      have HAT := Lib.hid (fun (h : (headC 32 (bs s)).length < s.size) => headC_at 32 (bs s) h)
      have hhl : (headC 32 (bs s)).length ≤ s.size := headC_le 32 (bs s)
      have HCE := Lib.hid (fun d x => @cut_ext s d x)
      have HCN := Lib.hid (@cut_nil s)
      clear hst
      generalize hh : (headC 32 (bs s)).length = h at *
      clear hh
      go_wp2_with fail
      go_loop [7] (fun j => ∃ (t : Nat), t ≤ h ∧ j = .int .i64 t) (fun j => h - (intOf j).toNat)
      case atStart => exact ⟨0, Nat.zero_le _, rfl⟩
      case round =>
        obtain ⟨t, ht, rfl⟩ := hrel
        by_cases htl : t < h
        · have hts : t < s.size := by omega
          have hne : ¬ s[t].toNat = 32 := by
            have h1 := HNE.out t hts htl
            intro e; apply h1; rw [get_bs s t hts]
            exact UInt8.toNat_inj.1 e
          have hne2 : ¬ ((s[t].toNat : Int) = 32) := by omega
          go_wp2
          go_round
          case rel => exact ⟨t + 1, by omega, by go_num⟩
          case measure => simp [intOf]; omega
        · obtain rfl : t = h := by omega
          cases hcu : cutC 32 (bs s) with
          | none =>
            have hts := HCN.out hcu
            have HE := Lib.hid (HN.out hcu)
            have hnl : ¬ t < s.size := by omega
            have hnl2 : decide ((t : Int) < (s.size : Int)) = false := decide_eq_false (by omega)
            have hcf := far_cell hc
            clear hcu HN HWR HFU HPU HNE HAT HCE HCN hts
            go_wp2
            refine wp_region_far (by kernel_rfl) (by kernel_rfl) ?_
            repeat (go_big_quiet_step (fail))
            refine wpQuiet_nil ?_
            intro _ hwF
            obtain ⟨pF, hwF⟩ := hwF
            subst hwF
            have HB5 := Lib.hid (Below_then HB.out (far_below _ pF) (Nat.le_refl _))
            have HW5 := Lib.hid (HW.out.below (far_below _ pF))
            generalize far _ pF = wF at *
            clear hc hcf
            go_wp2
            go_roundw
            case rel => exact ⟨k + 1, bad + 1, st, by omega, by go_num, by go_num, by omega, HE.out, HW5.out, HB5.out⟩
            case measure => simp [intOf]; omega
          | some x =>
            obtain ⟨dg, tt⟩ := x
            obtain ⟨hts, e1, e2⟩ := HCE.out _ _ hcu
            have hat : s[t].toNat = 32 := by rw [← get_bs s t hts, HAT.out hts]; rfl
            have hnl2 : decide ((t : Int) < (s.size : Int)) = true := decide_eq_true (by omega)
            have hlen := cutC_len hcu
            have hd1 : (mk dg).size ≤ 16777216 := by rw [mk_size]; omega
            have hd2 : (mk tt).size ≤ 16777216 := by rw [mk_size]; omega
            have hk2 : IntKind.i64.wrap ((t : Int) + 1) = (t : Int) + 1 := IntWalk.i64_in _ (by omega)
            have hk3 : (0 : Int) ≤ (t : Int) + 1 := by omega
            have hk4 : (t : Int) + 1 ≤ (s.size : Int) := by omega
            have hk5 : ((t : Int) + 1).toNat = t + 1 := by omega
            have hRH := fun w => sReadHex_any (mk dg) w hd1
            have hPO := fun w => sPrintOf_any (mk tt) w hd2
            rw [show bs (mk dg) = dg from rfl] at hRH
            rw [show bs (mk tt) = tt from rfl] at hPO
            have hWR := HWR.out _ hcu
            have hFU := HFU.out _ hcu
            have hPU := HPU.out _ hcu
            have hpn := @piece_num (readH dg) tt
            have hpp := @piece_pr (readH dg) tt
            have hcf := far_cell hc
            simp only at hWR hFU hPU
            clear hcu HN HWR HFU HPU HNE HAT HCE HCN hlen
            generalize readH dg = hx at *
            generalize prOf tt = px at *
            generalize mk dg = DG at *
            generalize mk tt = TT at *
            have HRH := Lib.hid hRH
            have HPO := Lib.hid hPO
            clear hRH hPO
            by_cases hneg : hx < 0
            · have HE := Lib.hid (hWR (hpn hneg))
              have hneg2 : decide (0 ≤ hx) = false := decide_eq_false (by omega)
              clear hWR hFU hPU hpn hpp
              go_wp2
              refine wp_region_far (by kernel_rfl) (by kernel_rfl) ?_
              repeat (go_big_quiet_step ((first | (go_at_call 30; exact far_same (HRH.out _)) | (go_at_call 31; exact far_same (HPO.out _)))))
              refine wpQuiet_nil ?_
              intro _ hwF
              obtain ⟨pF, hwF⟩ := hwF
              subst hwF
              have HB5 := Lib.hid (Below_then HB.out (far_below _ pF) (Nat.le_refl _))
              have HW5 := Lib.hid (HW.out.below (far_below _ pF))
              generalize far _ pF = wF at *
              clear hc hcf
              go_wp2
              go_roundw
              case rel => exact ⟨k + 1, bad + 1, st, by omega, by go_num, by go_num, by omega, HE.out, HW5.out, HB5.out⟩
              case measure => simp [intOf]; omega
            · have hneg2 : decide (0 ≤ hx) = true := decide_eq_true (by omega)
              have hpe := hpp (by omega)
              clear hpn hpp
              by_cases hpx : px = hx
              · rw [decide_eq_true hpx] at hpe
                subst hpx
                have hFU' := hFU hpe
                have hPU' := hPU hpe
                clear hWR hFU hPU hpe
                have hpt := fun w h => sPutText_any X d st TT w h HCZ.out HLE.out (by omega) HFS.out hd2
                unfold PutRes at hpt
                cases hok : (putT st TT).2.2
                all_goals
                  rw [hok] at hpt
                  first
                    | have HE := Lib.hid (hFU' hok)
                    | have HE := Lib.hid (hPU' hok)
                  have HPT := Lib.hid hpt
                  clear hpt hFU' hPU'
                  first
                    | have HRS := Lib.hid (show (putT st TT).1 = st by rw [putT_no HSV.out hok])
                    | skip
                  generalize putT st TT = r at *
                  go_wp2
                  refine wp_region_far (by kernel_rfl) (by kernel_rfl) ?_
                  repeat (go_big_quiet_step ((first | (go_at_call 30; exact far_same (HRH.out _)) | (go_at_call 31; exact far_same (HPO.out _)))))
                  refine wpQuiet_nil ?_
                  intro _ hwF
                  obtain ⟨pF, hwF⟩ := hwF
                  subst hwF
                  have HB5 := Lib.hid (Below_then HB.out (far_below _ pF) (Nat.le_refl _))
                  have HW5 := Lib.hid (HW.out.below (far_below _ pF))
                  have HX5 := Lib.hid (HSX.out.below (far_below _ pF))
                  have hc5 := hcf pF
                  generalize far _ pF = wF at *
                  clear hc hcf
                  go_wp2_with fail
                  refine (HPT.out _ HX5.out).mono ?_
                  rintro e w6 ⟨v6, rfl, hown6, hb6⟩
                  have HW6 := Lib.hid (hown6.mono HB5.out.size)
                  have HB6 := Lib.hid (Below_then HB5.out hb6 (Nat.le_refl _))
                  clear hown6 hb6
                  go_wp2
                  go_roundw
                  case rel => first | exact ⟨k + 1, bad, r.1, by omega, by go_num, rfl, by omega, HE.out, HW6.out, HB6.out⟩ | exact ⟨k + 1, bad + 1, r.1, by omega, by go_num, by go_num, by omega, by rw [HRS.out]; exact HE.out, HW6.out, HB6.out⟩
                  case measure => simp [intOf]; omega
              · have HE := Lib.hid (hWR (by rw [hpe]; exact decide_eq_false hpx))
                have hpx2 : (px == hx) = false := beq_eq_false_iff_ne.2 hpx
                clear hWR hFU hPU hpe
                go_wp2
                refine wp_region_far (by kernel_rfl) (by kernel_rfl) ?_
                repeat (go_big_quiet_step ((first | (go_at_call 30; exact far_same (HRH.out _)) | (go_at_call 31; exact far_same (HPO.out _)))))
                refine wpQuiet_nil ?_
                intro _ hwF
                obtain ⟨pF, hwF⟩ := hwF
                subst hwF
                have HB5 := Lib.hid (Below_then HB.out (far_below _ pF) (Nat.le_refl _))
                have HW5 := Lib.hid (HW.out.below (far_below _ pF))
                generalize far _ pF = wF at *
                clear hc hcf
                go_wp2
                go_roundw
                case rel => exact ⟨k + 1, bad + 1, st, by omega, by go_num, by go_num, by omega, HE.out, HW5.out, HB5.out⟩
                case measure => simp [intOf]; omega
    · have HE := Lib.hid (show R = (st, bad) by rw [← HRP.out]; have := hR.out; rwa [List.take_of_length_le (by omega)] at this)
      clear hown hsX hb hok
      go_wp2
      go_ret2
      rw [HE.out]
      exact ⟨_, rfl, HW.out, HB.out⟩
end Go.Proofs.YtkglfmgmmnfmbaaDoor
