/- Walks by names: files, WalkTo, ReadAt. -/
import Derived.Test.YtedcgbmdfmgcgaaGreatDoorFl
import Derived.Test.YtedcgbmdfmgcgaaGreatDoorBe
import Derived.Test.YtedcgbmdfmgcgaaGreatDoorPk
import Derived.Test.YtedcgbmdfmgcgaaGreatDoorGa0
set_option linter.unusedVariables false
namespace Go.Proofs.YtedcgbmdfmgcgaaGreatDoor
open Go.RowKit
set_option maxHeartbeats 1000000 in
set_option maxRecDepth 100000 in
theorem iContentValid_any (s : ByteArray) (w : World) (hs : s.size ≤ 16777216) :
    Calls Tryz.prog 62 #[.string s] w fun e w' => e = .returned (.bool (contV (bs s))) ∧ w = w' := by
  have hTV := fun w => iTextValid_any s w hs
  have E := Lib.hid (show contV (bs s) = (textV (bs s) && decide (s.size ≤ 40)) from rfl)
  rw [E.out]
  cases hv : textV (bs s)
  · rw [hv] at hTV
    have HTV := Lib.hid hTV
    clear hTV hv E
    go_enter Tryz.func62, Tryz.ntmps62
    go_wp2_with (go_at_call 60; refine (HTV.out _).mono ?_; rintro e w' ⟨rfl, rfl⟩)
    go_ret
    exact ⟨rfl, rfl⟩
  · rw [hv] at hTV
    have HTV := Lib.hid hTV
    clear hTV hv E
    by_cases h : s.size ≤ 40
    · have h' : (s.size : Int) ≤ 40 := by omega
      rw [decide_eq_true h]
      clear h
      go_enter Tryz.func62, Tryz.ntmps62
      go_wp2_with (go_at_call 60; refine (HTV.out _).mono ?_; rintro e w' ⟨rfl, rfl⟩)
      go_ret
      first | exact ⟨rfl, rfl⟩ | exact ⟨ret_bool (decide_eq_true h'), rfl⟩
    · have h' : ¬ (s.size : Int) ≤ 40 := by omega
      rw [decide_eq_false h]
      clear h
      go_enter Tryz.func62, Tryz.ntmps62
      go_wp2_with (go_at_call 60; refine (HTV.out _).mono ?_; rintro e w' ⟨rfl, rfl⟩)
      go_ret
      first | exact ⟨rfl, rfl⟩ | exact ⟨ret_bool (decide_eq_false (Int.not_le.2 h')), rfl⟩
set_option maxHeartbeats 1000000 in
set_option maxRecDepth 100000 in
theorem iReadFile_any (s : ByteArray) (w : World) (hs : s.size ≤ 16777216) : Calls Tryz.prog 99 #[.string s] w (RdRes (readFi (bs s)) w) := by
  unfold RdRes
  have hCP := fun w => CutPrefix_any s 102 w hs
  unfold prefV at hCP
  by_cases h0 : 0 < s.size ∧ (bs s).headD 0 = 102
  · have hE := readFi_head h0.1
    have h1 : s[0]'h0.1 = 102 := (head_bs0 h0.1).symm.trans h0.2
    have hts : (mk (bs s).tail).size ≤ 16777216 := by rw [mk_size, List.length_tail, size_bs]; omega
    have hCV := fun w => iContentValid_any (mk (bs s).tail) w hts
    rw [show bs (mk (bs s).tail) = (bs s).tail from rfl] at hCV
    simp only [if_pos h0] at hCP
    cases hc : contV (bs s).tail
    · rw [if_neg (by rw [hc]; simp)] at hE
      rw [hc] at hCV
      have HCV := Lib.hid hCV
      have HCP := Lib.hid hCP
      have HE := Lib.hid hE
      clear hCV hE hc h1 hCP
      rw [HE.out]
      generalize mk (bs s).tail = TT at *
      go_enter Tryz.func99, Tryz.ntmps99
      go_wp2_with (first | (go_at_call 85; refine (HCP.out _).mono ?_; rintro e w' ⟨rfl, rfl⟩) | (go_at_call 62; refine (HCV.out _).mono ?_; rintro e w' ⟨rfl, rfl⟩))
      go_ret2
      exact ⟨rfl, rfl⟩
    · rw [if_pos ⟨h1, hc⟩] at hE
      rw [hc] at hCV
      have HCV := Lib.hid hCV
      have HCP := Lib.hid hCP
      have HE := Lib.hid hE
      clear hCV hE hc h1 hCP
      rw [HE.out]
      show Calls _ _ _ _ fun e w' => e = .returned (.tuple #[.string (mk (bs s).tail), .bool true]) ∧ w = w'
      generalize mk (bs s).tail = TT at *
      go_enter Tryz.func99, Tryz.ntmps99
      go_wp2_with (first | (go_at_call 85; refine (HCP.out _).mono ?_; rintro e w' ⟨rfl, rfl⟩) | (go_at_call 62; refine (HCV.out _).mono ?_; rintro e w' ⟨rfl, rfl⟩))
      go_ret2
      exact ⟨rfl, rfl⟩
  · have hE : readFi (bs s) = none := by
      by_cases hz : 0 < s.size
      · rw [readFi_head hz, if_neg]
        rintro ⟨h1, _⟩
        exact h0 ⟨hz, (head_bs0 hz).trans h1⟩
      · rw [show bs s = [] from List.eq_nil_of_length_eq_zero (by rw [size_bs]; omega)]; rfl
    simp only [if_neg h0] at hCP
    have HCP := Lib.hid hCP
    have HE := Lib.hid hE
    clear hE hCP h0
    rw [HE.out]
    go_enter Tryz.func99, Tryz.ntmps99
    go_wp2_with (go_at_call 85; refine (HCP.out _).mono ?_; rintro e w' ⟨rfl, rfl⟩)
    go_ret2
    exact ⟨rfl, rfl⟩
def FoRes (r : Option Bs) (w : World) (e : Ending) (w' : World) : Prop := e = .returned (.tuple #[.string (mk (r.getD [])), .bool r.isSome]) ∧ Below w.heap.size w w'
set_option maxHeartbeats 1000000 in
set_option maxRecDepth 100000 in
theorem ifileOf_any (A : Option Addr) (c : Nat) (l : List Pc) (p : Int) (w : World) (hs : Sl w encP 2 A l) (hv : storeV l = true) :
    Calls Tryz.prog 57 #[.slice A l.length c, .int .i64 p] w (FoRes (fileOf l p) w) := by
  have HS := Lib.hid hs
  have hl := storeV_len hv
  have hX := fun w h => itextOf_any A c l p w h (by omega) (storeV_sorted hv)
  have hsz : ∀ t, getT l p = some t → t.size ≤ 60 := fun t h => textV_size (getT_valid hv h).1
  clear hs
  unfold GtRes at hX
  unfold fileOf FoRes
  cases hg : getT l p with
  | none =>
    rw [hg] at hX
    have HX := Lib.hid hX
    clear hX hg hsz hv
    go_enter Tryz.func57, Tryz.ntmps57
    go_wp2_with fail
    refine (HX.out _ HS.out).mono ?_
    rintro e w1 ⟨rfl, hb⟩
    have HB := Lib.hid hb
    clear hb
    go_wp2
    go_ret2
    exact ⟨rfl, HB.out⟩
  | some t =>
    have hts := hsz t hg
    rw [hg] at hX
    have HX := Lib.hid hX
    have hRF := fun w => iReadFile_any t w (by omega)
    rw [Option.bind_some]
    unfold RdRes at hRF
    rw [show readFi (tx t) = readFi (bs t) from rfl]
    generalize readFi (bs t) = R at *
    generalize mk (R.getD []) = TT at *
    generalize R.isSome = B at *
    have HRF := Lib.hid hRF
    clear hX hg hsz hv hRF
    go_enter Tryz.func57, Tryz.ntmps57
    go_wp2_with fail
    refine (HX.out _ HS.out).mono ?_
    rintro e w1 ⟨rfl, hb⟩
    have HB := Lib.hid hb
    clear hb
    go_wp2_with (go_at_call 99; refine (HRF.out _).mono ?_; rintro e w' ⟨rfl, rfl⟩)
    go_ret2
    exact ⟨rfl, HB.out⟩
def WkRes (r : Option Int) (w : World) (e : Ending) (w' : World) : Prop := e = .returned (.tuple #[.int .i64 (r.getD (-1)), .bool r.isSome]) ∧ Below w.heap.size w w'
theorem WkRes.no {r : Option Int} (h : r = none) {w w' : World} (hb : Below w.heap.size w w') : WkRes r w (.returned (.tuple #[.int .i64 (-1), .bool false])) w' := by
  subst h; exact ⟨rfl, hb⟩
theorem WkRes.yes {r : Option Int} {p : Int} (h : r = some p) {w w' : World} (hb : Below w.heap.size w w') : WkRes r w (.returned (.tuple #[.int .i64 p, .bool true])) w' := by
  subst h; exact ⟨rfl, hb⟩
theorem pathParts_len {s : Bs} {l : List ByteArray} (h : l = ((pathP s).getD []).map mk) : l.length ≤ 3 := by
  subst h
  rw [List.length_map]
  cases hp : pathP s with
  | none => simp
  | some ps => exact (partsV_iff.1 (pathP_join hp).1).1
set_option maxHeartbeats 4000000 in
set_option maxRecDepth 100000 in
theorem iWalkTo_any (A : Option Addr) (c : Nat) (l : List Pc) (root : Int) (path : ByteArray) (w : World) (hs : Sl w encP 2 A l) (hl : l.length ≤ 16777216) (hf : FitP l) (hp : path.size ≤ 1048576) (ht : TzL w) (hm : MaxL w) :
    Calls Tryz.prog 56 #[.slice A l.length c, .int .i64 root, .string path] w (WkRes (walkTo l root (bs path)) w) := by
  have HS := Lib.hid hs
  have HT := Lib.hid ht
  have HM := Lib.hid hm
  have HP := Lib.hid (fun w h => iPathPartsS_any path w hp h)
  have hSV := fun w h => iStoreValid_any A c l w h hl hf
  clear hs ht hm
  cases hpp : pathP (bs path) with
  | none =>
    have HE := Lib.hid (walkTo_path (s := l) (root := root) hpp)
    go_enter Tryz.func56, Tryz.ntmps56
    go_wp2_with fail
    refine (HP.out _ HM.out).mono ?_
    rintro e w1 ⟨pl, PA, pc, hpl, rfl, hple, hps, hb⟩
    rw [hpp] at hpl ⊢
    have HB := Lib.hid hb
    clear hb hpl hps hSV
    simp only [Option.isSome_none]
    go_wp2
    go_ret2
    exact WkRes.no HE.out HB.out
  | some ps =>
    cases hv : storeV l
    · have HE := Lib.hid (walkTo_store (root := root) (path := bs path) hv)
      rw [hv] at hSV
      have HSV := Lib.hid hSV
      go_enter Tryz.func56, Tryz.ntmps56
      go_wp2_with fail
      refine (HP.out _ HM.out).mono ?_
      rintro e w1 ⟨pl, PA, pc, hpl, rfl, hple, hps, hb⟩
      rw [hpp] at hpl ⊢
      have HB := Lib.hid hb
      have HS1 := Lib.hid (HS.out.below hb)
      clear hb hpl hps hSV
      simp only [Option.isSome_some]
      go_wp2_with fail
      refine (HSV.out _ HS1.out).mono ?_
      rintro e w2 ⟨rfl, hb2⟩
      have HB2 := Lib.hid (Below_then HB.out hb2 (Nat.le_refl _))
      clear hb2
      go_wp2
      go_ret2
      exact WkRes.no HE.out HB2.out
    · rw [hv] at hSV
      have HSV := Lib.hid hSV
      have HV := Lib.hid hv
      have hl60 := storeV_len hv
      go_enter Tryz.func56, Tryz.ntmps56
      go_wp2_with fail
      refine (HP.out _ HM.out).mono ?_
      rintro e w1 ⟨pl, PA, pc, hpl, rfl, hple, hps, hb⟩
      have hp3 := pathParts_len hpl
      rw [hpp] at hpl ⊢
      have HE := Lib.hid (walkTo_yes (root := root) hv hpp hpl)
      have HPS := Lib.hid hps
      have HB := Lib.hid hb
      have HS1 := Lib.hid (HS.out.below hb)
      have HT1 := Lib.hid (HT.out.below hb)
      have HM1 := Lib.hid (HM.out.below hb)
      clear hb hpl hps hSV hpp hv hple
      simp only [Option.isSome_some]
      go_wp2_with fail
      refine (HSV.out _ HS1.out).mono ?_
      rintro e w2 ⟨rfl, hb2⟩
      have HB2 := Lib.hid (Below_then HB.out hb2 (Nat.le_refl _))
      have HPS2 := Lib.hid (HPS.out.below hb2)
      have HS2 := Lib.hid (HS1.out.below hb2)
      have HT2 := Lib.hid (HT1.out.below hb2)
      have HM2 := Lib.hid (HM1.out.below hb2)
      clear hb2
      go_wp2_with fail
      go_loopw [10, 34] (fun va vi wr => ∃ (k : Nat) (at_ : Int), k ≤ pl.length ∧ va = .int .i64 at_ ∧ vi = .int .i64 k ∧ Hid (walkTo l root (bs path) = walkB l at_ (pl.drop k)) ∧ Hid (Below w2.heap.size w2 wr)) (fun _ vi _ => pl.length - (intOf vi).toNat)
      case atStart => exact ⟨0, root, Nat.zero_le _, rfl, rfl, HE.out, Below.refl _ _⟩
      case round =>
        obtain ⟨k, at_, hk, rfl, rfl, HW, HBW⟩ := hrel
        have HBA := Lib.hid (Below_then HB2.out HBW.out (Nat.le_refl _))
        have HSW := Lib.hid (HS2.out.below HBW.out)
        by_cases hlt : k < pl.length
        · obtain ⟨b, o, rfl, hc⟩ := (HPS2.out.below HBW.out).getS hlt
          have hFO := fun w h h2 h3 => ifolderOf_any A c l at_ w h HV.out h2 h3
          unfold RfRes at hFO
          cases hfo : folderOf l at_ with
          | none =>
            have HE2 := Lib.hid (HW.out.trans (walkB_none hlt hfo))
            rw [hfo] at hFO
            have HFO := Lib.hid hFO
            clear hFO hfo
            generalize pl[k] = nm at *
            go_wp2_with fail
            refine (HFO.out _ HSW.out (HT2.out.below HBW.out) (HM2.out.below HBW.out)).mono ?_
            rintro e w3 ⟨v3, rfl, hown3, hb3⟩
            have HB3 := Lib.hid (Below_then HBA.out hb3 (Nat.le_refl _))
            clear hown3 hb3
            go_wp2
            go_ret2
            exact WkRes.no HE2.out HB3.out
          | some en =>
            have hen3 : en.length ≤ 3 := entsV_len (folder_valid hfo)
            have hso : SortE en := entsV_sorted (folder_valid hfo)
            rw [hfo] at hFO
            have HFO := Lib.hid hFO
            have hPN := fun A c w h => printNamed_any A c en pl[k] w h (by omega) hso
            unfold PnRes at hPN
            cases hge : getE en (tx pl[k]) with
            | none =>
              have HE2 := Lib.hid (HW.out.trans (walkB_miss hlt hfo hge))
              rw [hge] at hPN
              have HPN := Lib.hid hPN
              clear hFO hfo hge hPN hso
              generalize pl[k] = nm at *
              go_wp2_with fail
              refine (HFO.out _ HSW.out (HT2.out.below HBW.out) (HM2.out.below HBW.out)).mono ?_
              rintro e w3 ⟨v3, rfl, hown3, hb3⟩
              obtain ⟨A3, c3, rfl, _, hs3, _⟩ := hown3.sl
              have HX3 := Lib.hid hs3
              have HB3 := Lib.hid (Below_then HBA.out hb3 (Nat.le_refl _))
              clear hown3 hb3 hs3
              go_wp2_with fail
              refine (HPN.out _ _ _ HX3.out).mono ?_
              rintro e w4 ⟨rfl, hb4⟩
              have HB4 := Lib.hid (Below_then HB3.out hb4 (Nat.le_refl _))
              clear hb4
              go_wp2
              go_ret2
              exact WkRes.no HE2.out HB4.out
            | some q =>
              have HE2 := Lib.hid (HW.out.trans (walkB_next hlt hfo hge))
              rw [hge] at hPN
              have HPN := Lib.hid hPN
              clear hFO hfo hge hPN hso
              generalize pl[k] = nm at *
              go_wp2_with fail
              refine (HFO.out _ HSW.out (HT2.out.below HBW.out) (HM2.out.below HBW.out)).mono ?_
              rintro e w3 ⟨v3, rfl, hown3, hb3⟩
              obtain ⟨A3, c3, rfl, _, hs3, _⟩ := hown3.sl
              have HX3 := Lib.hid hs3
              have HB3 := Lib.hid (Below_then HBW.out hb3 (Nat.le_refl _))
              clear hown3 hb3 hs3
              go_wp2_with fail
              refine (HPN.out _ _ _ HX3.out).mono ?_
              rintro e w4 ⟨rfl, hb4⟩
              have HB4 := Lib.hid (Below_then HB3.out hb4 (Nat.le_refl _))
              clear hb4
              go_wp2
              go_roundw
              case rel => exact ⟨k + 1, q, by omega, rfl, by go_num, HE2.out, HB4.out⟩
              case measure => simp [intOf]; omega
        · have hX := fun w h => itextOf_any A c l at_ w h (by omega) (storeV_sorted HV.out)
          unfold GtRes at hX
          have hE2 := HW.out.trans (walkB_end (by omega))
          cases hg : getT l at_ with
          | none =>
            rw [hg] at hX hE2
            have HX := Lib.hid hX
            have HE2 := Lib.hid (show walkTo l root (bs path) = none from hE2)
            clear hX hE2 hg
            go_wp2_with fail
            refine (HX.out _ HSW.out).mono ?_
            rintro e w3 ⟨rfl, hb3⟩
            have HB3 := Lib.hid (Below_then HBA.out hb3 (Nat.le_refl _))
            clear hb3
            go_wp2
            go_ret2
            exact WkRes.no HE2.out HB3.out
          | some t =>
            rw [hg] at hX hE2
            have HX := Lib.hid hX
            have HE2 := Lib.hid (show walkTo l root (bs path) = some at_ from hE2)
            clear hX hE2 hg
            go_wp2_with fail
            refine (HX.out _ HSW.out).mono ?_
            rintro e w3 ⟨rfl, hb3⟩
            have HB3 := Lib.hid (Below_then HBA.out hb3 (Nat.le_refl _))
            clear hb3
            go_wp2
            go_ret2
            exact WkRes.yes HE2.out HB3.out
theorem walkTo_store_yes {s : List Pc} {root p : Int} {path : Bs} (h : walkTo s root path = some p) : storeV s = true := by
  cases hv : storeV s
  · rw [walkTo_store hv] at h; cases h
  · rfl
set_option maxHeartbeats 4000000 in
set_option maxRecDepth 100000 in
theorem iReadAt_any (A : Option Addr) (c : Nat) (l : List Pc) (root : Int) (path : ByteArray) (w : World) (hs : Sl w encP 2 A l) (hl : l.length ≤ 16777216) (hf : FitP l) (hp : path.size ≤ 1048576) (ht : TzL w) (hm : MaxL w) :
    Calls Tryz.prog 23 #[.slice A l.length c, .int .i64 root, .string path] w (FoRes (readAt l root (bs path)) w) := by
  have HS := Lib.hid hs
  have HT := Lib.hid ht
  have HM := Lib.hid hm
  have hW := fun w h h2 h3 => iWalkTo_any A c l root path w h hl hf hp h2 h3
  clear hs ht hm
  unfold WkRes at hW
  unfold readAt
  cases hw : walkTo l root (bs path) with
  | none =>
    rw [hw] at hW
    have HW := Lib.hid hW
    clear hW hw
    unfold FoRes
    go_enter Tryz.func23, Tryz.ntmps23
    go_wp2_with fail
    refine (HW.out _ HS.out HT.out HM.out).mono ?_
    rintro e w1 ⟨rfl, hb⟩
    have HB := Lib.hid hb
    clear hb
    go_wp2
    go_ret2
    exact ⟨rfl, HB.out⟩
  | some q =>
    have hFO := fun w h => ifileOf_any A c l q w h (walkTo_store_yes hw)
    rw [hw] at hW
    have HW := Lib.hid hW
    rw [Option.bind_some]
    unfold FoRes at hFO ⊢
    generalize fileOf l q = R at *
    generalize mk (R.getD []) = TT at *
    generalize R.isSome = B at *
    have HFO := Lib.hid hFO
    clear hW hw hFO
    go_enter Tryz.func23, Tryz.ntmps23
    go_wp2_with fail
    refine (HW.out _ HS.out HT.out HM.out).mono ?_
    rintro e w1 ⟨rfl, hb⟩
    have HB := Lib.hid hb
    have HS1 := Lib.hid (HS.out.below hb)
    clear hb
    go_wp2_with fail
    refine (HFO.out _ HS1.out).mono ?_
    rintro e w2 ⟨rfl, hb2⟩
    have HB2 := Lib.hid (Below_then HB.out hb2 (Nat.le_refl _))
    clear hb2
    go_wp2
    go_ret2
    exact ⟨rfl, HB2.out⟩
end Go.Proofs.YtedcgbmdfmgcgaaGreatDoor
