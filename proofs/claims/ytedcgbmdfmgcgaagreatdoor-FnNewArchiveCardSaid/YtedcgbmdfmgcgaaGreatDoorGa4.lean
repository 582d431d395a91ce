/- Texts in one: To, M4. -/
import Derived.Test.YtedcgbmdfmgcgaaGreatDoorUs
import Derived.Test.YtedcgbmdfmgcgaaGreatDoorGa1
import Derived.Test.YtedcgbmdfmgcgaaGreatDoorM3
/- TotalSize of both, walked. -/
set_option linter.unusedVariables false
namespace Go.Proofs.YtedcgbmdfmgcgaaGreatDoor
open Go.RowKit
/-- What the first k files have. -/
def totUpto (s : List Pc) (root : Int) (l : List ByteArray) (k : Nat) : Int := sizeOf' s root ((l.take k).map bs)
theorem totUpto_zero (s : List Pc) (root : Int) (l : List ByteArray) : totUpto s root l 0 = 0 := rfl
theorem totUpto_next {s : List Pc} {root : Int} {l : List ByteArray} {k : Nat} (hk : k < l.length) :
    totUpto s root l (k + 1) = totUpto s root l k + ((mk ((readAt s root (bs l[k])).getD [])).size : Int) := by
  unfold totUpto sizeOf'
  rw [List.take_succ_eq_append_getElem hk, List.map_append, List.foldl_append, List.map_cons, List.map_nil, List.foldl_cons, List.foldl_nil, mk_size]
  rfl
theorem totUpto_bd (s : List Pc) (root : Int) (l : List ByteArray) : ∀ k, k ≤ l.length → 0 ≤ totUpto s root l k ∧ totUpto s root l k ≤ 40 * k
  | 0, _ => by rw [totUpto_zero]; omega
  | k + 1, hk => by
    have ih := totUpto_bd s root l k (by omega)
    rw [totUpto_next (by omega), mk_size]
    have := readAt_len s root (bs l[k])
    omega
theorem totUpto_all {s : List Pc} {root : Int} {k : Nat} (hk : (filesB s root).length ≤ k) : totUpto s root (filesB s root) k = totalP s root := by
  unfold totUpto totalP
  rw [List.take_of_length_le hk, filesB_bs]
theorem totalP_bd (s : List Pc) (root : Int) : 0 ≤ totalP s root ∧ totalP s root ≤ 1080 := by
  have h := totUpto_bd s root (filesB s root) _ (Nat.le_refl _)
  rw [totUpto_all (Nat.le_refl _)] at h
  have := filesB_len s root
  omega
set_option maxHeartbeats 4000000 in
set_option maxRecDepth 100000 in
theorem sTotalSize_any (A : Option Addr) (c : Nat) (l : List Pc) (root : Int) (w : World) (hs : Sl w encP 2 A l) (hl : l.length ≤ 16777216) (hf : FitP l) :
    Calls Tryz.prog 31 #[.slice A l.length c, .int .i64 root] w fun e w' => e = .returned (.int .i64 (totalP l root)) ∧ Below w.heap.size w w' := by
  have HS := Lib.hid hs
  have HB := Lib.hid (Below.refl w.heap.size w)
  have hA := fun w h => sAllFiles_any A c l root w h hl hf
  unfold OwnRes at hA
  rw [show (allF l root).map mk = filesB l root from rfl] at hA
  have hn27 := filesB_len l root
  have HSZ := Lib.hid (filesB_size l root)
  have HY := Lib.hid (fun k hk => @totUpto_next l root (filesB l root) k hk)
  have HBD := Lib.hid (totUpto_bd l root (filesB l root))
  have HAL := Lib.hid (fun k hk => totUpto_all (s := l) (root := root) (k := k) hk)
  have HRA := Lib.hid (fun p w h hp => sReadAt_any A c l root p w h hl hf hp)
  have HU0 := Lib.hid (totUpto_zero l root (filesB l root))
  clear hs
  generalize totalP l root = R at *
  generalize totUpto l root (filesB l root) = U at *
  generalize filesB l root = F at *
  have HA := Lib.hid hA
  clear hA
  go_enter Tryz.func31, Tryz.ntmps31
  go_wp2_with fail
  refine (HA.out _ HS.out).mono ?_
  rintro e w3 ⟨v, rfl, hown, hb⟩
  obtain ⟨X_F, d_F, rfl, hle_F, hs_, _⟩ := hown.sl
  have HO_F := Lib.hid (hown.mono HB.out.size)
  have HS_F := Lib.hid hs_
  have HC_F := Lib.hid hown.cz
  clear hs_ hown
  replace HB := Lib.hid (Below_then HB.out hb (Nat.le_refl _))
  replace HS := Lib.hid (HS.out.below hb)
  clear hb
  go_wp2_with fail
  go_loopw [5, 7] (fun s i wr => ∃ (k : Nat), k ≤ F.length ∧ i = .int .i64 k ∧ s = .int .i64 (U k) ∧ Hid (Below w3.heap.size w3 wr)) (fun _ i _ => F.length - (intOf i).toNat)
  case atStart => exact ⟨0, Nat.zero_le _, rfl, by rw [HU0.out], Below.refl _ _⟩
  case round =>
    obtain ⟨k, hk, rfl, rfl, HBW⟩ := hrel
    have HBA := Lib.hid (Below_then HB.out HBW.out (Nat.le_refl _))
    by_cases hlt : k < F.length
    · have hlt' : (k : Int) < (F.length : Int) := by omega
      obtain ⟨b, o, rfl, hc⟩ := (HS_F.out.below HBW.out).getS hlt
      have HSW := Lib.hid (HS.out.below HBW.out)
      have hz := HSZ.out _ (List.getElem_mem hlt)
      obtain ⟨hU1, hU2⟩ := HBD.out k hk
      have hU3 : U k ≤ 1080 := by omega
      have hy2 := HY.out k hlt
      have hRA := fun w h => HRA.out F[k] w h (by omega)
      have hrl := readAt_len l root (bs F[k])
      unfold FoRes at hRA
      generalize F[k] = x at *
      rw [← mk_size] at hrl
      generalize mk ((readAt l root (bs x)).getD []) = CT at *
      generalize (readAt l root (bs x)).isSome = okr at *
      have HRX := Lib.hid hRA
      have HYX := Lib.hid hy2
      clear hRA hy2
      go_wp2_with fail
      refine (HRX.out _ HSW.out).mono ?_
      rintro e w5 ⟨rfl, hb⟩
      replace HBW := Lib.hid (Below_then HBW.out hb (Nat.le_refl _))
      clear hb hc
      go_wp2
      go_roundw
      case rel => exact ⟨k + 1, by omega, by go_num, by rw [HYX.out], HBW.out⟩
      case measure => simp [intOf]; omega
    · have HE := Lib.hid (HAL.out k (by omega))
      have hlt' : ¬ (k : Int) < (F.length : Int) := by omega
      go_wp2
      go_ret
      exact ⟨ret_int HE.out, HBA.out⟩
set_option maxHeartbeats 4000000 in
set_option maxRecDepth 100000 in
theorem iTotalSize_any (A : Option Addr) (c : Nat) (l : List Pc) (root : Int) (w : World) (hs : Sl w encP 2 A l) (hl : l.length ≤ 16777216) (hf : FitP l) (ht : TzL w) (hm : MaxL w) :
    Calls Tryz.prog 18 #[.slice A l.length c, .int .i64 root] w fun e w' => e = .returned (.int .i64 (totalP l root)) ∧ Below w.heap.size w w' := by
  have HS := Lib.hid hs
  have HT := Lib.hid ht
  have HM := Lib.hid hm
  have HB := Lib.hid (Below.refl w.heap.size w)
  have hA := fun w h h2 h3 => iAllFiles_any A c l root w h hl hf h2 h3
  unfold OwnRes at hA
  rw [show (allF l root).map mk = filesB l root from rfl] at hA
  have hn27 := filesB_len l root
  have HSZ := Lib.hid (filesB_size l root)
  have HY := Lib.hid (fun k hk => @totUpto_next l root (filesB l root) k hk)
  have HBD := Lib.hid (totUpto_bd l root (filesB l root))
  have HAL := Lib.hid (fun k hk => totUpto_all (s := l) (root := root) (k := k) hk)
  have HRA := Lib.hid (fun p w h hp h2 h3 => iReadAt_any A c l root p w h hl hf hp h2 h3)
  have HU0 := Lib.hid (totUpto_zero l root (filesB l root))
  clear hs ht hm
  generalize totalP l root = R at *
  generalize totUpto l root (filesB l root) = U at *
  generalize filesB l root = F at *
  have HA := Lib.hid hA
  clear hA
  go_enter Tryz.func18, Tryz.ntmps18
  go_wp2_with fail
  refine (HA.out _ HS.out HT.out HM.out).mono ?_
  rintro e w3 ⟨v, rfl, hown, hb⟩
  obtain ⟨X_F, d_F, rfl, hle_F, hs_, _⟩ := hown.sl
  have HO_F := Lib.hid (hown.mono HB.out.size)
  have HS_F := Lib.hid hs_
  have HC_F := Lib.hid hown.cz
  clear hs_ hown
  replace HB := Lib.hid (Below_then HB.out hb (Nat.le_refl _))
  replace HS := Lib.hid (HS.out.below hb)
  replace HT := Lib.hid (HT.out.below hb)
  replace HM := Lib.hid (HM.out.below hb)
  clear hb
  go_wp2_with fail
  go_loopw [5, 14] (fun s i wr => ∃ (k : Nat), k ≤ F.length ∧ i = .int .i64 k ∧ s = .int .i64 (U k) ∧ Hid (Below w3.heap.size w3 wr)) (fun _ i _ => F.length - (intOf i).toNat)
  case atStart => exact ⟨0, Nat.zero_le _, rfl, by rw [HU0.out], Below.refl _ _⟩
  case round =>
    obtain ⟨k, hk, rfl, rfl, HBW⟩ := hrel
    have HBA := Lib.hid (Below_then HB.out HBW.out (Nat.le_refl _))
    by_cases hlt : k < F.length
    · have hlt' : (k : Int) < (F.length : Int) := by omega
      obtain ⟨b, o, rfl, hc⟩ := (HS_F.out.below HBW.out).getS hlt
      have HSW := Lib.hid (HS.out.below HBW.out)
      have HTW := Lib.hid (HT.out.below HBW.out)
      have HMW := Lib.hid (HM.out.below HBW.out)
      have hz := HSZ.out _ (List.getElem_mem hlt)
      obtain ⟨hU1, hU2⟩ := HBD.out k hk
      have hU3 : U k ≤ 1080 := by omega
      have hy2 := HY.out k hlt
      have hRA := fun w h h2 h3 => HRA.out F[k] w h (by omega) h2 h3
      have hrl := readAt_len l root (bs F[k])
      unfold FoRes at hRA
      generalize F[k] = x at *
      rw [← mk_size] at hrl
      generalize mk ((readAt l root (bs x)).getD []) = CT at *
      generalize (readAt l root (bs x)).isSome = okr at *
      have HRX := Lib.hid hRA
      have HYX := Lib.hid hy2
      clear hRA hy2
      go_wp2_with fail
      refine (HRX.out _ HSW.out HTW.out HMW.out).mono ?_
      rintro e w5 ⟨rfl, hb⟩
      replace HBW := Lib.hid (Below_then HBW.out hb (Nat.le_refl _))
      clear hb hc
      go_wp2
      go_roundw
      case rel => exact ⟨k + 1, by omega, by go_num, by rw [HYX.out], HBW.out⟩
      case measure => simp [intOf]; omega
    · have HE := Lib.hid (HAL.out k (by omega))
      have hlt' : ¬ (k : Int) < (F.length : Int) := by omega
      go_wp2
      go_ret
      exact ⟨ret_int HE.out, HBA.out⟩
end Go.Proofs.YtedcgbmdfmgcgaaGreatDoor

/- FnUsedBelow, walked: what is below is not more. -/
set_option linter.unusedVariables false
namespace Go.Proofs.YtedcgbmdfmgcgaaGreatDoor
open Go.RowKit
set_option maxHeartbeats 2000000 in
set_option maxRecDepth 100000 in
theorem DrawUsedBelow_any (A : Option Addr) (n c : Nat) (w : World) (hb : BytesIn w A n c) : Calls Tryz.prog 15 #[.slice A n c] w (WhereRes w) := by
  go_enter Tryz.func15, Tryz.ntmps15
  go_wp2_with fail
  refine (l20Where_any _ _ _ _ hb).mono ?_
  rintro e w2 ⟨v, l, root, s, rfl, hown, hg, hs, hb⟩
  have HW := Lib.hid hown
  have HG := Lib.hid hg
  have HB := Lib.hid hb
  clear hown hg hb
  go_wp2
  go_ret3
  exact ⟨_, l, root, s, rfl, HW.out, HG.out, hs, HB.out⟩
theorem StG.fitP {l : List Pc} (h : StG l) : FitP l := fun q hq => Nat.le_trans (h.fit q hq) (by omega)
theorem slash_bs : bs (⟨#[47]⟩ : ByteArray) = [47] := rfl
set_option maxHeartbeats 4000000 in
set_option maxRecDepth 100000 in
theorem wFnUsedBelow (A : Option Addr) (n c : Nat) (w : World) (hb : BytesIn w A n c) (hm : MaxL w) (ht : TzL w) : Calls Tryz.prog 4 #[.slice A n c] w (LawOk w) := by
  by_cases h : n ≤ 1048576
  case neg =>
    go_enter Tryz.func4, Tryz.ntmps4
    go_wp2
    go_ret
    exact ⟨rfl, Below.refl _ _⟩
  have HBI := Lib.hid hb
  have HM := Lib.hid hm
  have HT := Lib.hid ht
  clear hb hm ht
  go_enter Tryz.func4, Tryz.ntmps4
  go_wp2_with fail
  refine (DrawUsedBelow_any _ _ _ _ HBI.out).mono ?_
  rintro e w1 ⟨v1, l, root, p, rfl, hown1, hg1, hp, hb1⟩
  obtain ⟨A1, c1, rfl, hle1, hs1, _⟩ := hown1.sl
  have HS1 := Lib.hid hs1
  have HB1 := Lib.hid hb1
  have HM1 := Lib.hid (HM.out.below hb1)
  have HT1 := Lib.hid (HT.out.below hb1)
  have HF := Lib.hid hg1.fitP
  have hl1 := hg1.len
  clear hown1 hs1 hb1 hg1
  have hI := fun w h h2 h3 => iUsedBelow_any A1 c1 l root p w h (by omega) HF.out (by omega) h2 h3
  have hS := fun w h => sUsedBelow_any A1 c1 l root p w h (by omega) HF.out (by omega)
  have hR := fun w h h2 h3 => iUsedBelow_any A1 c1 l root ⟨#[47]⟩ w h (by omega) HF.out (by decide) h2 h3
  have HTS := Lib.hid (fun w h h2 h3 => iTotalSize_any A1 c1 l root w h (by omega) HF.out h2 h3)
  rw [slash_bs] at hR
  have hbd := usedP_bd (s := l) (root := root) (path := bs p)
  have hlaw : usedP l root (bs p) < 0 ∨ (usedP l root (bs p) ≤ usedP l root [47] ∧ usedP l root [47] = totalP l root) := by
    cases hv : storeV l
    · left; rw [usedP_store hv]; omega
    · cases hpp : (pathP (bs p)).isSome
      · left; rw [usedP_path hpp]; omega
      · right; exact ⟨(usedP_le hv root hpp).2, usedP_root hv root⟩
  generalize usedP l root (bs p) = U at *
  generalize usedP l root [47] = U0 at *
  generalize totalP l root = T at *
  have HI := Lib.hid hI
  have HS := Lib.hid hS
  have HR := Lib.hid hR
  clear hI hS hR
  go_wp2_with fail
  refine (HI.out _ HS1.out HT1.out HM1.out).mono ?_
  rintro e w2 ⟨rfl, hb2⟩
  have HB2 := Lib.hid (Below_then HB1.out hb2 (Nat.le_refl _))
  have HS2 := Lib.hid (HS1.out.below hb2)
  have HM2 := Lib.hid (HM1.out.below hb2)
  have HT2 := Lib.hid (HT1.out.below hb2)
  clear hb2
  go_wp2_with fail
  refine (HS.out _ HS2.out).mono ?_
  rintro e w3 ⟨rfl, hb3⟩
  have HB3 := Lib.hid (Below_then HB2.out hb3 (Nat.le_refl _))
  have HS3 := Lib.hid (HS2.out.below hb3)
  have HM3 := Lib.hid (HM2.out.below hb3)
  have HT3 := Lib.hid (HT2.out.below hb3)
  clear hb3
  by_cases hn : U < 0
  · obtain rfl : U = -1 := by omega
    clear hlaw hbd
    go_wp2_with (go_at_call 12; refine (alive_any _).mono ?_; rintro e w' ⟨rfl, rfl⟩)
    go_ret
    exact ⟨rfl, HB3.out⟩
  · obtain ⟨hle, rfl⟩ := hlaw.resolve_left hn
    clear hlaw hbd
    go_wp2_with fail
    refine (HR.out _ HS3.out HT3.out HM3.out).mono ?_
    rintro e w4 ⟨rfl, hb4⟩
    have HB4 := Lib.hid (Below_then HB3.out hb4 (Nat.le_refl _))
    have HS4 := Lib.hid (HS3.out.below hb4)
    have HM4 := Lib.hid (HM3.out.below hb4)
    have HT4 := Lib.hid (HT3.out.below hb4)
    clear hb4
    go_wp2_with fail
    refine (HTS.out _ HS4.out HT4.out HM4.out).mono ?_
    rintro e w5 ⟨rfl, hb5⟩
    have HB5 := Lib.hid (Below_then HB4.out hb5 (Nat.le_refl _))
    clear hb5
    go_wp2
    go_ret
    exact ⟨rfl, HB5.out⟩
end Go.Proofs.YtedcgbmdfmgcgaaGreatDoor
