/- WriteAt of the program, walked. -/
import Derived.Test.YtkglfmgmmnfmbaaGreatDoorGc0
import Derived.Test.YtkglfmgmmnfmbaaGreatDoorGb9
import Derived.Test.YtkglfmgmmnfmbaaGreatDoorGb2
import Derived.Test.YtkglfmgmmnfmbaaGreatDoorGb8
import Derived.Test.YtkglfmgmmnfmbaaGreatDoorS3
set_option linter.unusedVariables false
namespace Go.Proofs.YtkglfmgmmnfmbaaGreatDoor
open Go.RowKit
set_option maxHeartbeats 8000000 in
set_option maxRecDepth 100000 in
theorem iWriteAt_any (A : Option Addr) (c : Nat) (l : List Pc) (root : Int) (path content : ByteArray) (w : World) (hs : Sl w encP 2 A l) (hcz : A = none → c = 0) (hl : l.length ≤ 16777216) (hf : FitP l) (hp : path.size ≤ 1048576) (hct : content.size ≤ 1048576) (ht : TzL w) (hm : MaxL w) :
    Calls Tryz.prog 48 #[.slice A l.length c, .int .i64 root, .string path, .string content] w (PutRes (writeA l root (bs path) (bs content)) w) := by
  have HS := Lib.hid hs
  have HT := Lib.hid ht
  have HM := Lib.hid hm
  have HP := Lib.hid (fun w h => iPathPartsS_any path w hp h)
  have hSV := fun w h => iStoreValid_any A c l w h hl hf
  have hCV := fun w => iContentValid_any content w (by omega)
  have hCL := fun w h => ClonePc_any A c l w h hcz hl
  unfold OwnRes at hCL
  have HCL := Lib.hid hCL
  unfold PutRes
  clear hs ht hm hCL
  cases hpp : pathP (bs path) with
  | none =>
    have HR := Lib.hid (writeA_bad (s := l) (root := root) (path := bs path) (c := bs content) (.inr (.inr (.inl hpp))))
    generalize writeA l root (bs path) (bs content) = R at *
    go_enter Tryz.func48, Tryz.ntmps48
    go_wp2_with fail
    refine (HP.out _ HM.out).mono ?_
    rintro e w1 ⟨pl, PA, pc, hpl, rfl, hple, hps, hb⟩
    rw [hpp]
    have HB := Lib.hid hb
    clear hb hps hpl
    simp only [Option.isSome_none]
    go_wp2
    go_ret3
    rw [HR.out]
    exact ⟨_, rfl, Own.nil, HB.out⟩
  | some ps =>
    cases ps with
    | nil =>
      have HR := Lib.hid (writeA_bad (s := l) (root := root) (path := bs path) (c := bs content) (.inr (.inr (.inr hpp))))
      generalize writeA l root (bs path) (bs content) = R at *
      go_enter Tryz.func48, Tryz.ntmps48
      go_wp2_with fail
      refine (HP.out _ HM.out).mono ?_
      rintro e w1 ⟨pl, PA, pc, hpl, rfl, hple, hps, hb⟩
      rw [hpp] at hpl ⊢
      obtain rfl : pl = [] := hpl
      have HB := Lib.hid hb
      clear hb hps
      simp only [Option.isSome_some]
      go_wp2
      go_ret3
      rw [HR.out]
      exact ⟨_, rfl, Own.nil, HB.out⟩
    | cons n r =>
      cases hcv : contV (bs content)
      · have HR := Lib.hid (writeA_bad (s := l) (root := root) (path := bs path) (c := bs content) (.inr (.inl hcv)))
        rw [hcv] at hCV
        have HCV := Lib.hid hCV
        generalize writeA l root (bs path) (bs content) = R at *
        clear hCV hSV
        go_enter Tryz.func48, Tryz.ntmps48
        go_wp2_with fail
        refine (HP.out _ HM.out).mono ?_
        rintro e w1 ⟨pl, PA, pc, hpl, rfl, hple, hps, hb⟩
        rw [hpp] at hpl ⊢
        have hlen : pl.length ≠ 0 := by rw [hpl]; simp
        have hlz : ((pl.length : Int) == 0) = false := by rw [beq_eq_false_iff_ne]; omega
        have HB := Lib.hid hb
        clear hb hps hpl hlen hcv
        simp only [Option.isSome_some]
        go_wp2_with (go_at_call 101; refine (HCV.out _).mono ?_; rintro e w' ⟨rfl, rfl⟩)
        go_ret3
        rw [HR.out]
        exact ⟨_, rfl, Own.nil, HB.out⟩
      · rw [hcv] at hCV
        have HCV := Lib.hid hCV
        clear hCV
        cases hv : storeV l
        · have HR := Lib.hid (writeA_bad (s := l) (root := root) (path := bs path) (c := bs content) (.inl hv))
          rw [hv] at hSV
          have HSV := Lib.hid hSV
          generalize writeA l root (bs path) (bs content) = R at *
          clear hSV
          go_enter Tryz.func48, Tryz.ntmps48
          go_wp2_with fail
          refine (HP.out _ HM.out).mono ?_
          rintro e w1 ⟨pl, PA, pc, hpl, rfl, hple, hps, hb⟩
          rw [hpp] at hpl ⊢
          have hlen : pl.length ≠ 0 := by rw [hpl]; simp
          have hlz : ((pl.length : Int) == 0) = false := by rw [beq_eq_false_iff_ne]; omega
          have HB := Lib.hid hb
          have HS1 := Lib.hid (HS.out.below hb)
          clear hb hps hpl hlen hcv
          simp only [Option.isSome_some]
          go_wp2_with (first | (go_at_call 101; refine (HCV.out _).mono ?_; rintro e w' ⟨rfl, rfl⟩) | (go_at_call 68; refine (HSV.out _ HS1.out).mono ?_; rintro e w2 ⟨rfl, hb2⟩; have HB2 := Lib.hid (Below_then HB.out hb2 (Nat.le_refl _)); clear hb2))
          go_ret3
          rw [HR.out]
          exact ⟨_, rfl, Own.nil, HB2.out⟩
        · rw [hv] at hSV
          have HSV := Lib.hid hSV
          have HV := Lib.hid hv
          have hR : writeA l root (bs path) (bs content) = match (foldsL l (some root) (n :: r)).bind (fun fs => if (putT l (mk (fileT (bs content)))).2.2 then putF (putT l (mk (fileT (bs content)))).1 fs (n :: r) (prOf (fileT (bs content))) else none) with | some x => (x.1, x.2, true) | none => (l, root, false) := by
            unfold writeA
            rw [hv, hcv, Bool.true_and, if_pos rfl, hpp]
            show (match writeP l root (n :: r) (bs content) with | some x => (x.1, x.2, true) | none => (l, root, false)) = _
            rw [writeP_I]
          have hfv := fun fs h => foldsL_valid (s := l) (n :: r) (some root) fs h
          have htz : (mk (fileT (bs content))).size ≤ 16777216 := by
            have := textV_size (s := mk (fileT (bs content))) (fileT_text hcv); omega
          have hFT := fun w => iFileText_any content w (by omega)
          have hPT := fun w h => iPutText_any A c l (mk (fileT (bs content))) w h hcz hl hf htz
          unfold PutRes at hPT
          have hok := fun h => putT_ok (l := l) (t := mk (fileT (bs content))) h
          rw [tx_mk] at hok
          have hps8 := parts_size hpp
          have hp3 : (n :: r).length ≤ 3 := (partsV_iff.1 (pathP_join hpp).1).1
          have hmt := map_tx_mk (n :: r)
          generalize writeA l root (bs path) (bs content) = R at *
          generalize prOf (fileT (bs content)) = pr at *
          generalize mk (fileT (bs content)) = tt at *
          generalize hpt : putT l tt = PT at *
          obtain ⟨l3, p3, ok3⟩ := PT
          simp only at *
          have HFT := Lib.hid hFT
          have HPT := Lib.hid hPT
          have HOK := Lib.hid hok
          have HRR := Lib.hid hR
          have HFV := Lib.hid hfv
          have HPP := Lib.hid hpp
          have HPS8 := Lib.hid hps8
          have HMT := Lib.hid hmt
          clear hSV hFT hPT hpt hok htz hcv hv hR hfv hpp hps8 hmt
          have hFW := fun PA pc pl w (e : pl = (n :: r).map mk) h h2 h3 h4 => ifoldersToWrite_any A PA c pc l root pl w h HV.out h2 (by rw [e, List.length_map]; exact hp3) h3 h4
          have HFW := Lib.hid hFW
          clear hFW
          go_enter Tryz.func48, Tryz.ntmps48
          go_wp2_with fail
          refine (HP.out _ HM.out).mono ?_
          rintro e w1 ⟨pl, PA, pc, hpl, rfl, hple, hps, hb⟩
          replace hpl : pl = (n :: r).map mk := by rw [hpl, HPP.out]; rfl
          rw [HPP.out]
          have hlen : pl.length ≠ 0 := by rw [hpl]; simp
          have hpl3 : pl.length ≤ 3 := by rw [hpl, List.length_map]; exact hp3
          have hlz : ((pl.length : Int) == 0) = false := by rw [beq_eq_false_iff_ne]; omega
          have hFW := fun w h h2 h3 h4 => HFW.out PA pc pl w hpl h h2 h3 h4
          have HPX := Lib.hid (show pl.map tx = n :: r by rw [hpl]; exact HMT.out)
          have HSZ := Lib.hid (show ∀ x ∈ pl, x.size ≤ 16777216 from fun x hx => by
            rw [hpl] at hx
            exact Nat.le_trans (HPS8.out x hx) (by omega))
          rw [HPX.out] at hFW
          have HB := Lib.hid hb
          have HS1 := Lib.hid (HS.out.below hb)
          have HT1 := Lib.hid (HT.out.below hb)
          have HM1 := Lib.hid (HM.out.below hb)
          have HPS1 := Lib.hid hps
          clear hb hps hpl hlen hp3
          simp only [Option.isSome_some]
          unfold FwiRes at hFW
          have hpfl : ∀ fs, foldsL l (some root) (n :: r) = some fs → fs.length = pl.length := fun fs h => by
            rw [(HFV.out fs h).1, ← HPX.out, List.length_map]
          have HPFL := Lib.hid hpfl
          clear hpfl
          have hR := HRR.out
          clear HRR HFV
          generalize foldsL l (some root) (n :: r) = FZ at *
          have HRR := Lib.hid hR
          have HFW2 := Lib.hid hFW
          clear hFW hR
          cases FZ with
          | none =>
            have HR := Lib.hid (show R = (l, root, false) from HRR.out)
            clear HRR
            go_wp2_with (first | (go_at_call 101; refine (HCV.out _).mono ?_; rintro e w' ⟨rfl, rfl⟩) | (go_at_call 68; refine (HSV.out _ HS1.out).mono ?_; rintro e w2 ⟨rfl, hb2⟩; have HB2 := Lib.hid (Below_then HB.out hb2 (Nat.le_refl _)); have HS2 := Lib.hid (HS1.out.below hb2); have HT2 := Lib.hid (HT1.out.below hb2); have HM2 := Lib.hid (HM1.out.below hb2); have HPS2 := Lib.hid (HPS1.out.below hb2); clear hb2))
            refine (HFW2.out _ HS2.out HPS2.out HT2.out HM2.out).mono ?_
            rintro e w3 ⟨v3, rfl, hF3, hb3⟩
            have HB3 := Lib.hid (Below_then HB2.out hb3 (Nat.le_refl _))
            have HS3 := Lib.hid (HS2.out.below hb3)
            clear hF3 hb3
            simp only [Option.isSome_none]
            go_wp2_with fail
            refine (HCL.out _ HS3.out).mono ?_
            rintro e w4 ⟨v4, rfl, hown4, hb4⟩
            have HW4 := Lib.hid (hown4.mono HB3.out.size)
            have HB4 := Lib.hid (Below_then HB3.out hb4 (Nat.le_refl _))
            clear hown4 hb4
            go_wp2
            go_ret3
            rw [HR.out]
            exact ⟨_, rfl, HW4.out, HB4.out⟩
          | some fs =>
            have hfl := HPFL.out fs rfl
            have HRS := Lib.hid (show R = match (if ok3 = true then putF l3 fs (n :: r) pr else none) with | some x => (x.1, x.2, true) | none => (l, root, false) from HRR.out)
            clear HRR
            have HFLN := Lib.hid hfl
            clear hfl
            go_wp2_with (first | (go_at_call 101; refine (HCV.out _).mono ?_; rintro e w' ⟨rfl, rfl⟩) | (go_at_call 68; refine (HSV.out _ HS1.out).mono ?_; rintro e w2 ⟨rfl, hb2⟩; have HB2 := Lib.hid (Below_then HB.out hb2 (Nat.le_refl _)); have HS2 := Lib.hid (HS1.out.below hb2); have HT2 := Lib.hid (HT1.out.below hb2); have HM2 := Lib.hid (HM1.out.below hb2); have HPS2 := Lib.hid (HPS1.out.below hb2); clear hb2))
            refine (HFW2.out _ HS2.out HPS2.out HT2.out HM2.out).mono ?_
            rintro e w3 ⟨v3, rfl, hF3, hb3⟩
            have HF3 := Lib.hid (show Folds w3 w2.heap.size v3 fs from hF3)
            have HB3 := Lib.hid (Below_then HB2.out hb3 (Nat.le_refl _))
            have HS3 := Lib.hid (HS2.out.below hb3)
            have HT3 := Lib.hid (HT2.out.below hb3)
            have HM3 := Lib.hid (HM2.out.below hb3)
            have HPS3 := Lib.hid (HPS2.out.below hb3)
            clear hF3 hb3
            simp only [Option.isSome_some]
            cases ok3
            · have HR := Lib.hid (show R = (l, root, false) from HRS.out)
              clear HRS
              go_wp2_with (go_at_call 104; refine (HFT.out _).mono ?_; rintro e w' ⟨rfl, rfl⟩)
              refine (HPT.out _ HS3.out).mono ?_
              rintro e w4 ⟨v4, rfl, hown4, hb4⟩
              have HB4 := Lib.hid (Below_then HB3.out hb4 (Nat.le_refl _))
              have HS4 := Lib.hid (HS3.out.below hb4)
              clear hown4 hb4
              go_wp2_with fail
              refine (HCL.out _ HS4.out).mono ?_
              rintro e w5 ⟨v5, rfl, hown5, hb5⟩
              have HW5 := Lib.hid (hown5.mono HB4.out.size)
              have HB5 := Lib.hid (Below_then HB4.out hb5 (Nat.le_refl _))
              clear hown5 hb5
              go_wp2
              go_ret3
              rw [HR.out]
              exact ⟨_, rfl, HW5.out, HB5.out⟩
            · obtain ⟨_, hpo, rfl⟩ := HOK.out rfl
              have hPF := fun v FV fb W h h2 h3 h4 h5 h6 => iputFolders_any w.heap.size v FV PA pc l3 p3 fs pl fb W h h2 hpo.valid h3 h4 HFLN.out hpl3 HSZ.out h5 h6
              rw [HPX.out] at hPF
              unfold PfRes at hPF
              have hR := HRS.out
              rw [if_pos rfl] at hR
              clear HRS
              generalize putF l3 fs (n :: r) p3 = PF at *
              have HRS := Lib.hid hR
              have HPF := Lib.hid hPF
              clear hPF hpo hR
              go_wp2_with (go_at_call 104; refine (HFT.out _).mono ?_; rintro e w' ⟨rfl, rfl⟩)
              refine (HPT.out _ HS3.out).mono ?_
              rintro e w4 ⟨v4, rfl, hown4, hb4⟩
              have HB4 := Lib.hid (Below_then HB3.out hb4 (Nat.le_refl _))
              have HS4 := Lib.hid (HS3.out.below hb4)
              have HT4 := Lib.hid (HT3.out.below hb4)
              have HM4 := Lib.hid (HM3.out.below hb4)
              have HPS4 := Lib.hid (HPS3.out.below hb4)
              have HF4 := Lib.hid (HF3.out.below hb4)
              have HW4 := Lib.hid (hown4.mono HB3.out.size)
              clear hown4 hb4
              go_wp2_with fail
              refine (HPF.out v4 v3 w2.heap.size _ HW4.out HB4.out.size HF4.out HPS4.out HT4.out HM4.out).mono ?_
              rintro e w5 ⟨v5, rfl, hown5, hb5⟩
              have HW5 := Lib.hid hown5
              have HB5 := Lib.hid (Below_then HB4.out hb5 (Nat.le_refl _))
              have HS5 := Lib.hid (HS4.out.below hb5)
              clear hown5 hb5
              cases PF with
              | none =>
                have HR := Lib.hid (show R = (l, root, false) from HRS.out)
                clear HRS HW5
                simp only [Option.isSome_none, Option.map_none, Option.getD_none]
                go_wp2_with fail
                refine (HCL.out _ HS5.out).mono ?_
                rintro e w6 ⟨v6, rfl, hown6, hb6⟩
                have HW6 := Lib.hid (hown6.mono HB5.out.size)
                have HB6 := Lib.hid (Below_then HB5.out hb6 (Nat.le_refl _))
                clear hown6 hb6
                go_wp2
                go_ret3
                rw [HR.out]
                exact ⟨_, rfl, HW6.out, HB6.out⟩
              | some x =>
                obtain ⟨lx, px⟩ := x
                have HR := Lib.hid (show R = (lx, px, true) from HRS.out)
                have HX5 := Lib.hid (show Own w5 w.heap.size 107 2 encP v5 lx from HW5.out)
                clear HRS HW5
                simp only [Option.isSome_some, Option.map_some, Option.getD_some]
                go_wp2
                go_ret3
                rw [HR.out]
                exact ⟨_, rfl, HX5.out, HB5.out⟩
end Go.Proofs.YtkglfmgmmnfmbaaGreatDoor
