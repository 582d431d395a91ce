/- TotalSize of both, walked. -/
import Derived.Test.YtokelopllbaikaaGreatDoorUs
import Derived.Test.YtokelopllbaikaaGreatDoorGb2
set_option linter.unusedVariables false
namespace Go.Proofs.YtokelopllbaikaaGreatDoor
open Go.RowKit
/-- What the first k files have. -/
def totUpto (s : List Pc) (root : Int) (l : List ByteArray) (k : Nat) : Int := sizeOf' s root ((l.take k).map bs)
theorem totUpto_zero (s : List Pc) (root : Int) (l : List ByteArray) : totUpto s root l 0 = 0 := rfl
theorem totUpto_next {s : List Pc} {root : Int} {l : List ByteArray} {k : Nat} (hk : k < l.length) :
    totUpto s root l (k + 1) = totUpto s root l k + ((mk ((readAt s root (bs l[k])).getD [])).size : Int) := by
  unfold totUpto sizeOf'
  rw [List.take_succ_eq_append_getElem hk, List.map_append, List.foldl_append, List.map_cons, List.map_nil, List.foldl_cons, List.foldl_nil, mk_size]
  rfl
theorem totUpto_bd (s : List Pc) (root : Int) (l : List ByteArray) : ∀ k, k ≤ l.length → 0 ≤ totUpto s root l k ∧ totUpto s root l k ≤ 40 * k
  | 0, _ => by rw [totUpto_zero]; omega
  | k + 1, hk => by
    have ih := totUpto_bd s root l k (by omega)
    rw [totUpto_next (by omega), mk_size]
    have := readAt_len s root (bs l[k])
    omega
theorem totUpto_all {s : List Pc} {root : Int} {k : Nat} (hk : (filesB s root).length ≤ k) : totUpto s root (filesB s root) k = totalP s root := by
  unfold totUpto totalP
  rw [List.take_of_length_le hk, filesB_bs]
theorem totalP_bd (s : List Pc) (root : Int) : 0 ≤ totalP s root ∧ totalP s root ≤ 1080 := by
  have h := totUpto_bd s root (filesB s root) _ (Nat.le_refl _)
  rw [totUpto_all (Nat.le_refl _)] at h
  have := filesB_len s root
  omega
set_option maxHeartbeats 4000000 in
set_option maxRecDepth 100000 in
theorem sTotalSize_any (A : Option Addr) (c : Nat) (l : List Pc) (root : Int) (w : World) (hs : Sl w encP 2 A l) (hl : l.length ≤ 16777216) (hf : FitP l) :
    Calls Tryz.prog 6 #[.slice A l.length c, .int .i64 root] w fun e w' => e = .returned (.int .i64 (totalP l root)) ∧ Below w.heap.size w w' := by
  have HS := Lib.hid hs
  have HB := Lib.hid (Below.refl w.heap.size w)
  have hA := fun w h => sAllFiles_any A c l root w h hl hf
  unfold OwnRes at hA
  rw [show (allF l root).map mk = filesB l root from rfl] at hA
  have hn27 := filesB_len l root
  have HSZ := Lib.hid (filesB_size l root)
  have HY := Lib.hid (fun k hk => @totUpto_next l root (filesB l root) k hk)
  have HBD := Lib.hid (totUpto_bd l root (filesB l root))
  have HAL := Lib.hid (fun k hk => totUpto_all (s := l) (root := root) (k := k) hk)
  have HRA := Lib.hid (fun p w h hp => sReadAt_any A c l root p w h hl hf hp)
  have HU0 := Lib.hid (totUpto_zero l root (filesB l root))
  clear hs
  generalize totalP l root = R at *
  generalize totUpto l root (filesB l root) = U at *
  generalize filesB l root = F at *
  have HA := Lib.hid hA
  clear hA
  go_enter Tryz.func6, Tryz.ntmps6
  go_wp2_with fail
  refine (HA.out _ HS.out).mono ?_
  rintro e w3 ⟨v, rfl, hown, hb⟩
  obtain ⟨X_F, d_F, rfl, hle_F, hs_, _⟩ := hown.sl
  have HO_F := Lib.hid (hown.mono HB.out.size)
  have HS_F := Lib.hid hs_
  have HC_F := Lib.hid hown.cz
  clear hs_ hown
  replace HB := Lib.hid (Below_then HB.out hb (Nat.le_refl _))
  replace HS := Lib.hid (HS.out.below hb)
  clear hb
  go_wp2_with fail
  go_loopw [5, 7] (fun s i wr => ∃ (k : Nat), k ≤ F.length ∧ i = .int .i64 k ∧ s = .int .i64 (U k) ∧ Hid (Below w3.heap.size w3 wr)) (fun _ i _ => F.length - (intOf i).toNat)
  case atStart => exact ⟨0, Nat.zero_le _, rfl, by rw [HU0.out], Below.refl _ _⟩
  case round =>
    obtain ⟨k, hk, rfl, rfl, HBW⟩ := hrel
    have HBA := Lib.hid (Below_then HB.out HBW.out (Nat.le_refl _))
    by_cases hlt : k < F.length
    · have hlt' : (k : Int) < (F.length : Int) := by omega
      obtain ⟨b, o, rfl, hc⟩ := (HS_F.out.below HBW.out).getS hlt
      have HSW := Lib.hid (HS.out.below HBW.out)
      have hz := HSZ.out _ (List.getElem_mem hlt)
      obtain ⟨hU1, hU2⟩ := HBD.out k hk
      have hU3 : U k ≤ 1080 := by omega
      have hy2 := HY.out k hlt
      have hRA := fun w h => HRA.out F[k] w h (by omega)
      have hrl := readAt_len l root (bs F[k])
      unfold FoRes at hRA
      generalize F[k] = x at *
      rw [← mk_size] at hrl
      generalize mk ((readAt l root (bs x)).getD []) = CT at *
      generalize (readAt l root (bs x)).isSome = okr at *
      have HRX := Lib.hid hRA
      have HYX := Lib.hid hy2
      clear hRA hy2
      go_wp2_with fail
      refine (HRX.out _ HSW.out).mono ?_
      rintro e w5 ⟨rfl, hb⟩
      replace HBW := Lib.hid (Below_then HBW.out hb (Nat.le_refl _))
      clear hb hc
      go_wp2
      go_roundw
      case rel => exact ⟨k + 1, by omega, by go_num, by rw [HYX.out], HBW.out⟩
      case measure => simp [intOf]; omega
    · have HE := Lib.hid (HAL.out k (by omega))
      have hlt' : ¬ (k : Int) < (F.length : Int) := by omega
      go_wp2
      go_ret
      exact ⟨ret_int HE.out, HBA.out⟩
set_option maxHeartbeats 4000000 in
set_option maxRecDepth 100000 in
theorem iTotalSize_any (A : Option Addr) (c : Nat) (l : List Pc) (root : Int) (w : World) (hs : Sl w encP 2 A l) (hl : l.length ≤ 16777216) (hf : FitP l) (ht : TzL w) (hm : MaxL w) :
    Calls Tryz.prog 5 #[.slice A l.length c, .int .i64 root] w fun e w' => e = .returned (.int .i64 (totalP l root)) ∧ Below w.heap.size w w' := by
  have HS := Lib.hid hs
  have HT := Lib.hid ht
  have HM := Lib.hid hm
  have HB := Lib.hid (Below.refl w.heap.size w)
  have hA := fun w h h2 h3 => iAllFiles_any A c l root w h hl hf h2 h3
  unfold OwnRes at hA
  rw [show (allF l root).map mk = filesB l root from rfl] at hA
  have hn27 := filesB_len l root
  have HSZ := Lib.hid (filesB_size l root)
  have HY := Lib.hid (fun k hk => @totUpto_next l root (filesB l root) k hk)
  have HBD := Lib.hid (totUpto_bd l root (filesB l root))
  have HAL := Lib.hid (fun k hk => totUpto_all (s := l) (root := root) (k := k) hk)
  have HRA := Lib.hid (fun p w h hp h2 h3 => iReadAt_any A c l root p w h hl hf hp h2 h3)
  have HU0 := Lib.hid (totUpto_zero l root (filesB l root))
  clear hs ht hm
  generalize totalP l root = R at *
  generalize totUpto l root (filesB l root) = U at *
  generalize filesB l root = F at *
  have HA := Lib.hid hA
  clear hA
  go_enter Tryz.func5, Tryz.ntmps5
  go_wp2_with fail
  refine (HA.out _ HS.out HT.out HM.out).mono ?_
  rintro e w3 ⟨v, rfl, hown, hb⟩
  obtain ⟨X_F, d_F, rfl, hle_F, hs_, _⟩ := hown.sl
  have HO_F := Lib.hid (hown.mono HB.out.size)
  have HS_F := Lib.hid hs_
  have HC_F := Lib.hid hown.cz
  clear hs_ hown
  replace HB := Lib.hid (Below_then HB.out hb (Nat.le_refl _))
  replace HS := Lib.hid (HS.out.below hb)
  replace HT := Lib.hid (HT.out.below hb)
  replace HM := Lib.hid (HM.out.below hb)
  clear hb
  go_wp2_with fail
  go_loopw [5, 14] (fun s i wr => ∃ (k : Nat), k ≤ F.length ∧ i = .int .i64 k ∧ s = .int .i64 (U k) ∧ Hid (Below w3.heap.size w3 wr)) (fun _ i _ => F.length - (intOf i).toNat)
  case atStart => exact ⟨0, Nat.zero_le _, rfl, by rw [HU0.out], Below.refl _ _⟩
  case round =>
    obtain ⟨k, hk, rfl, rfl, HBW⟩ := hrel
    have HBA := Lib.hid (Below_then HB.out HBW.out (Nat.le_refl _))
    by_cases hlt : k < F.length
    · have hlt' : (k : Int) < (F.length : Int) := by omega
      obtain ⟨b, o, rfl, hc⟩ := (HS_F.out.below HBW.out).getS hlt
      have HSW := Lib.hid (HS.out.below HBW.out)
      have HTW := Lib.hid (HT.out.below HBW.out)
      have HMW := Lib.hid (HM.out.below HBW.out)
      have hz := HSZ.out _ (List.getElem_mem hlt)
      obtain ⟨hU1, hU2⟩ := HBD.out k hk
      have hU3 : U k ≤ 1080 := by omega
      have hy2 := HY.out k hlt
      have hRA := fun w h h2 h3 => HRA.out F[k] w h (by omega) h2 h3
      have hrl := readAt_len l root (bs F[k])
      unfold FoRes at hRA
      generalize F[k] = x at *
      rw [← mk_size] at hrl
      generalize mk ((readAt l root (bs x)).getD []) = CT at *
      generalize (readAt l root (bs x)).isSome = okr at *
      have HRX := Lib.hid hRA
      have HYX := Lib.hid hy2
      clear hRA hy2
      go_wp2_with fail
      refine (HRX.out _ HSW.out HTW.out HMW.out).mono ?_
      rintro e w5 ⟨rfl, hb⟩
      replace HBW := Lib.hid (Below_then HBW.out hb (Nat.le_refl _))
      clear hb hc
      go_wp2
      go_roundw
      case rel => exact ⟨k + 1, by omega, by go_num, by rw [HYX.out], HBW.out⟩
      case measure => simp [intOf]; omega
    · have HE := Lib.hid (HAL.out k (by omega))
      have hlt' : ¬ (k : Int) < (F.length : Int) := by omega
      go_wp2
      go_ret
      exact ⟨ret_int HE.out, HBA.out⟩
end Go.Proofs.YtokelopllbaikaaGreatDoor
