/- UsedBelow of both. -/
import Derived.Test.YtokelopllbaikaaGreatDoorPb
import Derived.Test.YtokelopllbaikaaGreatDoorWk4
set_option linter.unusedVariables false
namespace Go.Proofs.YtokelopllbaikaaGreatDoor
open Go.RowKit
set_option maxHeartbeats 8000000 in
set_option maxRecDepth 100000 in
theorem iUsedBelow_any (A : Option Addr) (c : Nat) (l : List Pc) (root : Int) (path : ByteArray) (w : World) (hs : Sl w encP 2 A l) (hl : l.length ≤ 16777216) (hf : FitP l) (hp : path.size ≤ 1048576) (ht : TzL w) (hm : MaxL w) :
    Calls Tryz.prog 8 #[.slice A l.length c, .int .i64 root, .string path] w fun e w' => e = .returned (.int .i64 (usedP l root (bs path))) ∧ Below w.heap.size w w' := by
  have HS := Lib.hid hs
  have HT := Lib.hid ht
  have HM := Lib.hid hm
  have HB := Lib.hid (Below.refl w.heap.size w)
  have hP := fun w h => iPathParts_any path w hp h
  have hSV := fun w h => iStoreValid_any A c l w h hl hf
  unfold PathI at hP
  clear hs ht hm
  cases hpp : (pathP (bs path)).isSome
  · have HR := Lib.hid (usedP_path (s := l) (root := root) hpp)
    rw [hpp] at hP
    generalize usedP l root (bs path) = R at *
    have HP := Lib.hid hP
    clear hP hSV hpp
    go_enter Tryz.func8, Tryz.ntmps8
    go_wp2_with fail
    refine (HP.out _ HM.out).mono ?_
    rintro e w1 ⟨v, rfl, hb⟩
    replace HB := Lib.hid (Below_then HB.out hb (Nat.le_refl _))
    clear hb
    go_wp2
    go_ret
    exact ⟨ret_int HR.out.symm, HB.out⟩
  · cases hv : storeV l
    · have HR := Lib.hid (usedP_store (root := root) (path := bs path) hv)
      rw [hpp] at hP
      rw [hv] at hSV
      generalize usedP l root (bs path) = R at *
      have HP := Lib.hid hP
      have HSV := Lib.hid hSV
      clear hP hSV hpp hv
      go_enter Tryz.func8, Tryz.ntmps8
      go_wp2_with fail
      refine (HP.out _ HM.out).mono ?_
      rintro e w1 ⟨v, rfl, hb⟩
      replace HB := Lib.hid (Below_then HB.out hb (Nat.le_refl _))
      replace HS := Lib.hid (HS.out.below hb)
      clear hb
      go_wp2_with fail
      refine (HSV.out _ HS.out).mono ?_
      rintro e w' ⟨rfl, hb⟩
      replace HB := Lib.hid (Below_then HB.out hb (Nat.le_refl _))
      replace HS := Lib.hid (HS.out.below hb)
      clear hb
      go_wp2
      go_ret
      exact ⟨ret_int HR.out.symm, HB.out⟩
    · have hA := fun w h h2 h3 => iAllFiles_any A c l root w h hl hf h2 h3
      unfold OwnRes at hA
      rw [show (allF l root).map mk = filesB l root from rfl] at hA
      have hn27 := filesB_len l root
      have HSZ := Lib.hid (filesB_size l root)
      have HY := Lib.hid (fun k hk h => @useUpto_yes l root (bs path) (filesB l root) k hk h)
      have HN := Lib.hid (fun k hk h => @useUpto_no l root (bs path) (filesB l root) k hk h)
      have HBD := Lib.hid (useUpto_bd l root (bs path) (filesB l root))
      have HAL := Lib.hid (fun k hk => useUpto_all (root := root) (k := k) hpp hv hk)
      have HRA := Lib.hid (fun p w h hp h2 h3 => iReadAt_any A c l root p w h hl hf hp h2 h3)
      have HPB := Lib.hid (fun p w h h2 => iPathBelow_any p path w h hp h2)
      have HU0 := Lib.hid (useUpto_zero l root (bs path) (filesB l root))
      rw [hpp] at hP
      rw [hv] at hSV
      generalize usedP l root (bs path) = R at *
      generalize useUpto l root (bs path) (filesB l root) = U at *
      generalize filesB l root = F at *
      have HP := Lib.hid hP
      have HSV := Lib.hid hSV
      have HA := Lib.hid hA
      clear hP hSV hpp hv hA
      go_enter Tryz.func8, Tryz.ntmps8
      go_wp2_with fail
      refine (HP.out _ HM.out).mono ?_
      rintro e w1 ⟨v, rfl, hb⟩
      replace HB := Lib.hid (Below_then HB.out hb (Nat.le_refl _))
      replace HS := Lib.hid (HS.out.below hb)
      replace HT := Lib.hid (HT.out.below hb)
      replace HM := Lib.hid (HM.out.below hb)
      clear hb
      go_wp2_with fail
      refine (HSV.out _ HS.out).mono ?_
      rintro e w' ⟨rfl, hb⟩
      replace HB := Lib.hid (Below_then HB.out hb (Nat.le_refl _))
      replace HS := Lib.hid (HS.out.below hb)
      replace HT := Lib.hid (HT.out.below hb)
      replace HM := Lib.hid (HM.out.below hb)
      clear hb
      go_wp2_with fail
      refine (HA.out _ HS.out HT.out HM.out).mono ?_
      rintro e w3 ⟨v, rfl, hown, hb⟩
      obtain ⟨X_F, d_F, rfl, hle_F, hs_, _⟩ := hown.sl
      have HO_F := Lib.hid (hown.mono HB.out.size)
      have HS_F := Lib.hid hs_
      have HC_F := Lib.hid hown.cz
      clear hs_ hown
      replace HB := Lib.hid (Below_then HB.out hb (Nat.le_refl _))
      replace HS := Lib.hid (HS.out.below hb)
      replace HT := Lib.hid (HT.out.below hb)
      replace HM := Lib.hid (HM.out.below hb)
      clear hb
      go_wp2_with fail
      go_loopw [9, 30] (fun s i wr => ∃ (k : Nat), k ≤ F.length ∧ i = .int .i64 k ∧ s = .int .i64 (U k) ∧ Hid (Below w3.heap.size w3 wr)) (fun _ i _ => F.length - (intOf i).toNat)
      case atStart => exact ⟨0, Nat.zero_le _, rfl, by rw [HU0.out], Below.refl _ _⟩
      case round =>
        obtain ⟨k, hk, rfl, rfl, HBW⟩ := hrel
        have HBA := Lib.hid (Below_then HB.out HBW.out (Nat.le_refl _))
        by_cases hlt : k < F.length
        · have hlt' : (k : Int) < (F.length : Int) := by omega
          obtain ⟨b, o, rfl, hc⟩ := (HS_F.out.below HBW.out).getS hlt
          have HSW := Lib.hid (HS.out.below HBW.out)
          have HTW := Lib.hid (HT.out.below HBW.out)
          have HMW := Lib.hid (HM.out.below HBW.out)
          have hz := HSZ.out _ (List.getElem_mem hlt)
          obtain ⟨hU1, hU2⟩ := HBD.out k hk
          have hU3 : U k ≤ 1080 := by omega
          have hy := HY.out k hlt
          have hn := HN.out k hlt
          have hPB := fun w h => HPB.out F[k] w (by omega) h
          have hRA := fun w h h2 h3 => HRA.out F[k] w h (by omega) h2 h3
          have hrl := readAt_len l root (bs F[k])
          unfold FoRes at hRA
          generalize F[k] = x at *
          cases hbl : belowP (bs x) (bs path)
          · have HNX := Lib.hid (hn hbl)
            rw [hbl] at hPB
            have HPX := Lib.hid hPB
            clear hn hy hbl hPB hRA hrl
            go_wp2_with fail
            refine (HPX.out _ HMW.out).mono ?_
            rintro e w4 ⟨rfl, hb⟩
            replace HBW := Lib.hid (Below_then HBW.out hb (Nat.le_refl _))
            clear hb hc
            go_wp2
            go_roundw
            case rel => exact ⟨k + 1, by omega, by go_num, by rw [HNX.out], HBW.out⟩
            case measure => simp [intOf]; omega
          · have hy2 := hy hbl
            rw [hbl] at hPB
            rw [← mk_size] at hrl
            generalize mk ((readAt l root (bs x)).getD []) = CT at *
            generalize (readAt l root (bs x)).isSome = okr at *
            have HPX := Lib.hid hPB
            have HRX := Lib.hid hRA
            have HYX := Lib.hid hy2
            clear hn hy hbl hPB hRA hy2
            go_wp2_with fail
            refine (HPX.out _ HMW.out).mono ?_
            rintro e w4 ⟨rfl, hb⟩
            replace HBW := Lib.hid (Below_then HBW.out hb (Nat.le_refl _))
            replace HSW := Lib.hid (HSW.out.below hb)
            replace HTW := Lib.hid (HTW.out.below hb)
            replace HMW := Lib.hid (HMW.out.below hb)
            clear hb hc
            go_wp2_with fail
            refine (HRX.out _ HSW.out HTW.out HMW.out).mono ?_
            rintro e w5 ⟨rfl, hb⟩
            replace HBW := Lib.hid (Below_then HBW.out hb (Nat.le_refl _))
            clear hb
            go_wp2
            go_roundw
            case rel => exact ⟨k + 1, by omega, by go_num, by rw [HYX.out], HBW.out⟩
            case measure => simp [intOf]; omega
        · have HE := Lib.hid (HAL.out k (by omega))
          have hlt' : ¬ (k : Int) < (F.length : Int) := by omega
          go_wp2
          go_ret
          exact ⟨ret_int HE.out, HBA.out⟩
end Go.Proofs.YtokelopllbaikaaGreatDoor
