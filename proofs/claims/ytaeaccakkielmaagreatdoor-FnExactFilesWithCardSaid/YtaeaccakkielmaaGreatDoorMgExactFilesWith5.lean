/- Written by merge.py: Wk1, Wk2, Wk3, Wk4, Us, Wq, Wr, Uw, L8a, Ki, L1, EFilesWith, Door, Tz. -/
import Derived.Maps.AppendAt
import Derived.Test.YtaeaccakkielmaaGreatDoorRows
import Derived.Handed
import Derived.HandedShaped
import Derived.Lay
import Derived.LaidMore
import Derived.SevenTiedAt
import Derived.Stop.Joined
import Derived.Shelf.Vars
import Derived.LaidSub
import Derived.OpenShut
import Derived.Test.YtaeaccakkielmaaGreatDoorMgExactFilesWith4
/- Walks by names: files, WalkTo, ReadAt. -/
set_option linter.unusedVariables false
namespace Go.Proofs.YtaeaccakkielmaaGreatDoor
open Go.RowKit
set_option maxHeartbeats 1000000 in
set_option maxRecDepth 100000 in
theorem iContentValid_any (s : ByteArray) (w : World) (hs : s.size ≤ 16777216) :
    Calls Tryz.prog 92 #[.string s] w fun e w' => e = .returned (.bool (contV (bs s))) ∧ w = w' := by
  have hTV := fun w => iTextValid_any s w hs
  have E := Lib.hid (show contV (bs s) = (textV (bs s) && decide (s.size ≤ 40)) from rfl)
  rw [E.out]
  cases hv : textV (bs s)
  · rw [hv] at hTV
    have HTV := Lib.hid hTV
    clear hTV hv E
    go_enter Tryz.func92, Tryz.ntmps92
    go_wp2_with (go_at_call 55; refine (HTV.out _).mono ?_; rintro e w' ⟨rfl, rfl⟩)
    go_ret
    exact ⟨rfl, rfl⟩
  · rw [hv] at hTV
    have HTV := Lib.hid hTV
    clear hTV hv E
    by_cases h : s.size ≤ 40
    · have h' : (s.size : Int) ≤ 40 := by omega
      rw [decide_eq_true h]
      clear h
      go_enter Tryz.func92, Tryz.ntmps92
      go_wp2_with (go_at_call 55; refine (HTV.out _).mono ?_; rintro e w' ⟨rfl, rfl⟩)
      go_ret
      first | exact ⟨rfl, rfl⟩ | exact ⟨ret_bool (decide_eq_true h'), rfl⟩
    · have h' : ¬ (s.size : Int) ≤ 40 := by omega
      rw [decide_eq_false h]
      clear h
      go_enter Tryz.func92, Tryz.ntmps92
      go_wp2_with (go_at_call 55; refine (HTV.out _).mono ?_; rintro e w' ⟨rfl, rfl⟩)
      go_ret
      first | exact ⟨rfl, rfl⟩ | exact ⟨ret_bool (decide_eq_false (Int.not_le.2 h')), rfl⟩
set_option maxHeartbeats 1000000 in
set_option maxRecDepth 100000 in
theorem iReadFile_any (s : ByteArray) (w : World) (hs : s.size ≤ 16777216) : Calls Tryz.prog 77 #[.string s] w (RdRes (readFi (bs s)) w) := by
  unfold RdRes
  have hCP := fun w => CutPrefix_any s 102 w hs
  unfold prefV at hCP
  by_cases h0 : 0 < s.size ∧ (bs s).headD 0 = 102
  · have hE := readFi_head h0.1
    have h1 : s[0]'h0.1 = 102 := (head_bs0 h0.1).symm.trans h0.2
    have hts : (mk (bs s).tail).size ≤ 16777216 := by rw [mk_size, List.length_tail, size_bs]; omega
    have hCV := fun w => iContentValid_any (mk (bs s).tail) w hts
    rw [show bs (mk (bs s).tail) = (bs s).tail from rfl] at hCV
    simp only [if_pos h0] at hCP
    cases hc : contV (bs s).tail
    · rw [if_neg (by rw [hc]; simp)] at hE
      rw [hc] at hCV
      have HCV := Lib.hid hCV
      have HCP := Lib.hid hCP
      have HE := Lib.hid hE
      clear hCV hE hc h1 hCP
      rw [HE.out]
      generalize mk (bs s).tail = TT at *
      go_enter Tryz.func77, Tryz.ntmps77
      go_wp2_with (first | (go_at_call 52; refine (HCP.out _).mono ?_; rintro e w' ⟨rfl, rfl⟩) | (go_at_call 92; refine (HCV.out _).mono ?_; rintro e w' ⟨rfl, rfl⟩))
      go_ret2
      exact ⟨rfl, rfl⟩
    · rw [if_pos ⟨h1, hc⟩] at hE
      rw [hc] at hCV
      have HCV := Lib.hid hCV
      have HCP := Lib.hid hCP
      have HE := Lib.hid hE
      clear hCV hE hc h1 hCP
      rw [HE.out]
      show Calls _ _ _ _ fun e w' => e = .returned (.tuple #[.string (mk (bs s).tail), .bool true]) ∧ w = w'
      generalize mk (bs s).tail = TT at *
      go_enter Tryz.func77, Tryz.ntmps77
      go_wp2_with (first | (go_at_call 52; refine (HCP.out _).mono ?_; rintro e w' ⟨rfl, rfl⟩) | (go_at_call 92; refine (HCV.out _).mono ?_; rintro e w' ⟨rfl, rfl⟩))
      go_ret2
      exact ⟨rfl, rfl⟩
  · have hE : readFi (bs s) = none := by
      by_cases hz : 0 < s.size
      · rw [readFi_head hz, if_neg]
        rintro ⟨h1, _⟩
        exact h0 ⟨hz, (head_bs0 hz).trans h1⟩
      · rw [show bs s = [] from List.eq_nil_of_length_eq_zero (by rw [size_bs]; omega)]; rfl
    simp only [if_neg h0] at hCP
    have HCP := Lib.hid hCP
    have HE := Lib.hid hE
    clear hE hCP h0
    rw [HE.out]
    go_enter Tryz.func77, Tryz.ntmps77
    go_wp2_with (go_at_call 52; refine (HCP.out _).mono ?_; rintro e w' ⟨rfl, rfl⟩)
    go_ret2
    exact ⟨rfl, rfl⟩
def FoRes (r : Option Bs) (w : World) (e : Ending) (w' : World) : Prop := e = .returned (.tuple #[.string (mk (r.getD [])), .bool r.isSome]) ∧ Below w.heap.size w w'
set_option maxHeartbeats 1000000 in
set_option maxRecDepth 100000 in
theorem ifileOf_any (A : Option Addr) (c : Nat) (l : List Pc) (p : Int) (w : World) (hs : Sl w encP 2 A l) (hv : storeV l = true) :
    Calls Tryz.prog 60 #[.slice A l.length c, .int .i64 p] w (FoRes (fileOf l p) w) := by
  have HS := Lib.hid hs
  have hl := storeV_len hv
  have hX := fun w h => itextOf_any A c l p w h (by omega) (storeV_sorted hv)
  have hsz : ∀ t, getT l p = some t → t.size ≤ 60 := fun t h => textV_size (getT_valid hv h).1
  clear hs
  unfold GtRes at hX
  unfold fileOf FoRes
  cases hg : getT l p with
  | none =>
    rw [hg] at hX
    have HX := Lib.hid hX
    clear hX hg hsz hv
    go_enter Tryz.func60, Tryz.ntmps60
    go_wp2_with fail
    refine (HX.out _ HS.out).mono ?_
    rintro e w1 ⟨rfl, hb⟩
    have HB := Lib.hid hb
    clear hb
    go_wp2
    go_ret2
    exact ⟨rfl, HB.out⟩
  | some t =>
    have hts := hsz t hg
    rw [hg] at hX
    have HX := Lib.hid hX
    have hRF := fun w => iReadFile_any t w (by omega)
    rw [Option.bind_some]
    unfold RdRes at hRF
    rw [show readFi (tx t) = readFi (bs t) from rfl]
    generalize readFi (bs t) = R at *
    generalize mk (R.getD []) = TT at *
    generalize R.isSome = B at *
    have HRF := Lib.hid hRF
    clear hX hg hsz hv hRF
    go_enter Tryz.func60, Tryz.ntmps60
    go_wp2_with fail
    refine (HX.out _ HS.out).mono ?_
    rintro e w1 ⟨rfl, hb⟩
    have HB := Lib.hid hb
    clear hb
    go_wp2_with (go_at_call 77; refine (HRF.out _).mono ?_; rintro e w' ⟨rfl, rfl⟩)
    go_ret2
    exact ⟨rfl, HB.out⟩
def WkRes (r : Option Int) (w : World) (e : Ending) (w' : World) : Prop := e = .returned (.tuple #[.int .i64 (r.getD (-1)), .bool r.isSome]) ∧ Below w.heap.size w w'
theorem WkRes.no {r : Option Int} (h : r = none) {w w' : World} (hb : Below w.heap.size w w') : WkRes r w (.returned (.tuple #[.int .i64 (-1), .bool false])) w' := by
  subst h; exact ⟨rfl, hb⟩
theorem WkRes.yes {r : Option Int} {p : Int} (h : r = some p) {w w' : World} (hb : Below w.heap.size w w') : WkRes r w (.returned (.tuple #[.int .i64 p, .bool true])) w' := by
  subst h; exact ⟨rfl, hb⟩
theorem pathParts_len {s : Bs} {l : List ByteArray} (h : l = ((pathP s).getD []).map mk) : l.length ≤ 3 := by
  subst h
  rw [List.length_map]
  cases hp : pathP s with
  | none => simp
  | some ps => exact (partsV_iff.1 (pathP_join hp).1).1
set_option maxHeartbeats 4000000 in
set_option maxRecDepth 100000 in
theorem iWalkTo_any (A : Option Addr) (c : Nat) (l : List Pc) (root : Int) (path : ByteArray) (w : World) (hs : Sl w encP 2 A l) (hl : l.length ≤ 16777216) (hf : FitP l) (hp : path.size ≤ 1048576) (ht : TzL w) (hm : MaxL w) :
    Calls Tryz.prog 59 #[.slice A l.length c, .int .i64 root, .string path] w (WkRes (walkTo l root (bs path)) w) := by
  have HS := Lib.hid hs
  have HT := Lib.hid ht
  have HM := Lib.hid hm
  have HP := Lib.hid (fun w h => iPathPartsS_any path w hp h)
  have hSV := fun w h => iStoreValid_any A c l w h hl hf
  clear hs ht hm
  cases hpp : pathP (bs path) with
  | none =>
    have HE := Lib.hid (walkTo_path (s := l) (root := root) hpp)
    go_enter Tryz.func59, Tryz.ntmps59
    go_wp2_with fail
    refine (HP.out _ HM.out).mono ?_
    rintro e w1 ⟨pl, PA, pc, hpl, rfl, hple, hps, hb⟩
    rw [hpp] at hpl ⊢
    have HB := Lib.hid hb
    clear hb hpl hps hSV
    simp only [Option.isSome_none]
    go_wp2
    go_ret2
    exact WkRes.no HE.out HB.out
  | some ps =>
    cases hv : storeV l
    · have HE := Lib.hid (walkTo_store (root := root) (path := bs path) hv)
      rw [hv] at hSV
      have HSV := Lib.hid hSV
      go_enter Tryz.func59, Tryz.ntmps59
      go_wp2_with fail
      refine (HP.out _ HM.out).mono ?_
      rintro e w1 ⟨pl, PA, pc, hpl, rfl, hple, hps, hb⟩
      rw [hpp] at hpl ⊢
      have HB := Lib.hid hb
      have HS1 := Lib.hid (HS.out.below hb)
      clear hb hpl hps hSV
      simp only [Option.isSome_some]
      go_wp2_with fail
      refine (HSV.out _ HS1.out).mono ?_
      rintro e w2 ⟨rfl, hb2⟩
      have HB2 := Lib.hid (Below_then HB.out hb2 (Nat.le_refl _))
      clear hb2
      go_wp2
      go_ret2
      exact WkRes.no HE.out HB2.out
    · rw [hv] at hSV
      have HSV := Lib.hid hSV
      have HV := Lib.hid hv
      have hl60 := storeV_len hv
      go_enter Tryz.func59, Tryz.ntmps59
      go_wp2_with fail
      refine (HP.out _ HM.out).mono ?_
      rintro e w1 ⟨pl, PA, pc, hpl, rfl, hple, hps, hb⟩
      have hp3 := pathParts_len hpl
      rw [hpp] at hpl ⊢
      have HE := Lib.hid (walkTo_yes (root := root) hv hpp hpl)
      have HPS := Lib.hid hps
      have HB := Lib.hid hb
      have HS1 := Lib.hid (HS.out.below hb)
      have HT1 := Lib.hid (HT.out.below hb)
      have HM1 := Lib.hid (HM.out.below hb)
      clear hb hpl hps hSV hpp hv hple
      simp only [Option.isSome_some]
      go_wp2_with fail
      refine (HSV.out _ HS1.out).mono ?_
      rintro e w2 ⟨rfl, hb2⟩
      have HB2 := Lib.hid (Below_then HB.out hb2 (Nat.le_refl _))
      have HPS2 := Lib.hid (HPS.out.below hb2)
      have HS2 := Lib.hid (HS1.out.below hb2)
      have HT2 := Lib.hid (HT1.out.below hb2)
      have HM2 := Lib.hid (HM1.out.below hb2)
      clear hb2
      go_wp2_with fail
      go_loopw [10, 34] (fun va vi wr => ∃ (k : Nat) (at_ : Int), k ≤ pl.length ∧ va = .int .i64 at_ ∧ vi = .int .i64 k ∧ Hid (walkTo l root (bs path) = walkB l at_ (pl.drop k)) ∧ Hid (Below w2.heap.size w2 wr)) (fun _ vi _ => pl.length - (intOf vi).toNat)
      case atStart => exact ⟨0, root, Nat.zero_le _, rfl, rfl, HE.out, Below.refl _ _⟩
      case round =>
        obtain ⟨k, at_, hk, rfl, rfl, HW, HBW⟩ := hrel
        have HBA := Lib.hid (Below_then HB2.out HBW.out (Nat.le_refl _))
        have HSW := Lib.hid (HS2.out.below HBW.out)
        by_cases hlt : k < pl.length
        · obtain ⟨b, o, rfl, hc⟩ := (HPS2.out.below HBW.out).getS hlt
          have hFO := fun w h h2 h3 => ifolderOf_any A c l at_ w h HV.out h2 h3
          unfold RfRes at hFO
          cases hfo : folderOf l at_ with
          | none =>
            have HE2 := Lib.hid (HW.out.trans (walkB_none hlt hfo))
            rw [hfo] at hFO
            have HFO := Lib.hid hFO
            clear hFO hfo
            generalize pl[k] = nm at *
            go_wp2_with fail
            refine (HFO.out _ HSW.out (HT2.out.below HBW.out) (HM2.out.below HBW.out)).mono ?_
            rintro e w3 ⟨v3, rfl, hown3, hb3⟩
            have HB3 := Lib.hid (Below_then HBA.out hb3 (Nat.le_refl _))
            clear hown3 hb3
            go_wp2
            go_ret2
            exact WkRes.no HE2.out HB3.out
          | some en =>
            have hen3 : en.length ≤ 3 := entsV_len (folder_valid hfo)
            have hso : SortE en := entsV_sorted (folder_valid hfo)
            rw [hfo] at hFO
            have HFO := Lib.hid hFO
            have hPN := fun A c w h => printNamed_any A c en pl[k] w h (by omega) hso
            unfold PnRes at hPN
            cases hge : getE en (tx pl[k]) with
            | none =>
              have HE2 := Lib.hid (HW.out.trans (walkB_miss hlt hfo hge))
              rw [hge] at hPN
              have HPN := Lib.hid hPN
              clear hFO hfo hge hPN hso
              generalize pl[k] = nm at *
              go_wp2_with fail
              refine (HFO.out _ HSW.out (HT2.out.below HBW.out) (HM2.out.below HBW.out)).mono ?_
              rintro e w3 ⟨v3, rfl, hown3, hb3⟩
              obtain ⟨A3, c3, rfl, _, hs3, _⟩ := hown3.sl
              have HX3 := Lib.hid hs3
              have HB3 := Lib.hid (Below_then HBA.out hb3 (Nat.le_refl _))
              clear hown3 hb3 hs3
              go_wp2_with fail
              refine (HPN.out _ _ _ HX3.out).mono ?_
              rintro e w4 ⟨rfl, hb4⟩
              have HB4 := Lib.hid (Below_then HB3.out hb4 (Nat.le_refl _))
              clear hb4
              go_wp2
              go_ret2
              exact WkRes.no HE2.out HB4.out
            | some q =>
              have HE2 := Lib.hid (HW.out.trans (walkB_next hlt hfo hge))
              rw [hge] at hPN
              have HPN := Lib.hid hPN
              clear hFO hfo hge hPN hso
              generalize pl[k] = nm at *
              go_wp2_with fail
              refine (HFO.out _ HSW.out (HT2.out.below HBW.out) (HM2.out.below HBW.out)).mono ?_
              rintro e w3 ⟨v3, rfl, hown3, hb3⟩
              obtain ⟨A3, c3, rfl, _, hs3, _⟩ := hown3.sl
              have HX3 := Lib.hid hs3
              have HB3 := Lib.hid (Below_then HBW.out hb3 (Nat.le_refl _))
              clear hown3 hb3 hs3
              go_wp2_with fail
              refine (HPN.out _ _ _ HX3.out).mono ?_
              rintro e w4 ⟨rfl, hb4⟩
              have HB4 := Lib.hid (Below_then HB3.out hb4 (Nat.le_refl _))
              clear hb4
              go_wp2
              go_roundw
              case rel => exact ⟨k + 1, q, by omega, rfl, by go_num, HE2.out, HB4.out⟩
              case measure => simp [intOf]; omega
        · have hX := fun w h => itextOf_any A c l at_ w h (by omega) (storeV_sorted HV.out)
          unfold GtRes at hX
          have hE2 := HW.out.trans (walkB_end (by omega))
          cases hg : getT l at_ with
          | none =>
            rw [hg] at hX hE2
            have HX := Lib.hid hX
            have HE2 := Lib.hid (show walkTo l root (bs path) = none from hE2)
            clear hX hE2 hg
            go_wp2_with fail
            refine (HX.out _ HSW.out).mono ?_
            rintro e w3 ⟨rfl, hb3⟩
            have HB3 := Lib.hid (Below_then HBA.out hb3 (Nat.le_refl _))
            clear hb3
            go_wp2
            go_ret2
            exact WkRes.no HE2.out HB3.out
          | some t =>
            rw [hg] at hX hE2
            have HX := Lib.hid hX
            have HE2 := Lib.hid (show walkTo l root (bs path) = some at_ from hE2)
            clear hX hE2 hg
            go_wp2_with fail
            refine (HX.out _ HSW.out).mono ?_
            rintro e w3 ⟨rfl, hb3⟩
            have HB3 := Lib.hid (Below_then HBA.out hb3 (Nat.le_refl _))
            clear hb3
            go_wp2
            go_ret2
            exact WkRes.yes HE2.out HB3.out
theorem walkTo_store_yes {s : List Pc} {root p : Int} {path : Bs} (h : walkTo s root path = some p) : storeV s = true := by
  cases hv : storeV s
  · rw [walkTo_store hv] at h; cases h
  · rfl
set_option maxHeartbeats 4000000 in
set_option maxRecDepth 100000 in
theorem iReadAt_any (A : Option Addr) (c : Nat) (l : List Pc) (root : Int) (path : ByteArray) (w : World) (hs : Sl w encP 2 A l) (hl : l.length ≤ 16777216) (hf : FitP l) (hp : path.size ≤ 1048576) (ht : TzL w) (hm : MaxL w) :
    Calls Tryz.prog 34 #[.slice A l.length c, .int .i64 root, .string path] w (FoRes (readAt l root (bs path)) w) := by
  have HS := Lib.hid hs
  have HT := Lib.hid ht
  have HM := Lib.hid hm
  have hW := fun w h h2 h3 => iWalkTo_any A c l root path w h hl hf hp h2 h3
  clear hs ht hm
  unfold WkRes at hW
  unfold readAt
  cases hw : walkTo l root (bs path) with
  | none =>
    rw [hw] at hW
    have HW := Lib.hid hW
    clear hW hw
    unfold FoRes
    go_enter Tryz.func34, Tryz.ntmps34
    go_wp2_with fail
    refine (HW.out _ HS.out HT.out HM.out).mono ?_
    rintro e w1 ⟨rfl, hb⟩
    have HB := Lib.hid hb
    clear hb
    go_wp2
    go_ret2
    exact ⟨rfl, HB.out⟩
  | some q =>
    have hFO := fun w h => ifileOf_any A c l q w h (walkTo_store_yes hw)
    rw [hw] at hW
    have HW := Lib.hid hW
    rw [Option.bind_some]
    unfold FoRes at hFO ⊢
    generalize fileOf l q = R at *
    generalize mk (R.getD []) = TT at *
    generalize R.isSome = B at *
    have HFO := Lib.hid hFO
    clear hW hw hFO
    go_enter Tryz.func34, Tryz.ntmps34
    go_wp2_with fail
    refine (HW.out _ HS.out HT.out HM.out).mono ?_
    rintro e w1 ⟨rfl, hb⟩
    have HB := Lib.hid hb
    have HS1 := Lib.hid (HS.out.below hb)
    clear hb
    go_wp2_with fail
    refine (HFO.out _ HS1.out).mono ?_
    rintro e w2 ⟨rfl, hb2⟩
    have HB2 := Lib.hid (Below_then HB.out hb2 (Nat.le_refl _))
    clear hb2
    go_wp2
    go_ret2
    exact ⟨rfl, HB2.out⟩
end Go.Proofs.YtaeaccakkielmaaGreatDoor

/- Walks by names, the reference's: GetText, l9Walk, WalkTo, ReadAt. -/
set_option linter.unusedVariables false
namespace Go.Proofs.YtaeaccakkielmaaGreatDoor
open Go.RowKit
set_option maxHeartbeats 1000000 in
set_option maxRecDepth 100000 in
theorem sGetText_any (A : Option Addr) (c : Nat) (l : List Pc) (p : Int) (w : World) (hs : Sl w encP 2 A l) (hl : l.length ≤ 16777216) (hf : FitP l) :
    Calls Tryz.prog 50 #[.slice A l.length c, .int .i64 p] w (GtRes (if storeV l then getT l p else none) w) := by
  have HS := Lib.hid hs
  have hSV := fun w h => sStoreValid_any A c l w h hl hf
  have hG := fun w h => sl4Get_any A c l p w h hl
  unfold GtRes
  clear hs
  cases hv : storeV l
  · rw [hv] at hSV
    have HSV := Lib.hid hSV
    clear hSV hG hv
    go_enter Tryz.func50, Tryz.ntmps50
    go_wp2_with fail
    refine (HSV.out _ HS.out).mono ?_
    rintro e w1 ⟨rfl, hb⟩
    have HB := Lib.hid hb
    clear hb
    go_wp2
    go_ret2
    exact ⟨rfl, HB.out⟩
  · rw [hv] at hSV
    rw [if_pos rfl]
    generalize getT l p = R at *
    generalize R.getD ⟨#[]⟩ = TT at *
    generalize R.isSome = B at *
    have HSV := Lib.hid hSV
    have HG := Lib.hid hG
    clear hSV hv hG
    go_enter Tryz.func50, Tryz.ntmps50
    go_wp2_with fail
    refine (HSV.out _ HS.out).mono ?_
    rintro e w1 ⟨rfl, hb⟩
    have HB := Lib.hid hb
    have HS1 := Lib.hid (HS.out.below hb)
    clear hb
    go_wp2_with (go_at_call 66; refine (HG.out _ HS1.out).mono ?_; rintro e w' ⟨rfl, rfl⟩)
    go_ret2
    exact ⟨rfl, HB.out⟩
def folT (t : ByteArray) : List En := (readF (bs t)).getD []
theorem folT_of {l : List Pc} {p : Int} : folT ((getT l p).getD ⟨#[]⟩) = (folderOf l p).getD [] := by
  unfold folT folderOf
  cases getT l p with
  | none => rfl
  | some t => rfl
theorem folT_some {l : List Pc} {p : Int} : (readF (bs ((getT l p).getD ⟨#[]⟩))).isSome = (folderOf l p).isSome := by
  unfold folderOf
  cases getT l p with
  | none => rfl
  | some t => rfl
theorem getT_size {l : List Pc} (hv : storeV l = true) {p : Int} : ((getT l p).getD ⟨#[]⟩).size ≤ 1048576 := by
  cases hg : getT l p with
  | none => decide
  | some t => exact Nat.le_trans (textV_size (getT_valid hv hg).1) (by omega)
/-- A name is looked up in no folder: nothing is found. -/
theorem bindE {l : List Pc} {p : Int} {n : Bs} : ((folderOf l p).bind fun e => getE e n) = getE ((folderOf l p).getD []) n := by
  cases folderOf l p with
  | none => rfl
  | some e => rfl
theorem walkB_none2 {s : List Pc} {p : Int} {l : List ByteArray} {k : Nat} (hk : k < l.length) (h : getE ((folderOf s p).getD []) (tx l[k]) = none) : walkB s p (l.drop k) = none := by
  cases hf : folderOf s p with
  | none => exact walkB_none hk hf
  | some e => rw [hf] at h; exact walkB_miss hk hf h
theorem walkB_next2 {s : List Pc} {p q : Int} {l : List ByteArray} {k : Nat} (hk : k < l.length) (h : getE ((folderOf s p).getD []) (tx l[k]) = some q) : walkB s p (l.drop k) = walkB s q (l.drop (k + 1)) := by
  cases hf : folderOf s p with
  | none => rw [hf] at h; cases h
  | some e => rw [hf] at h; exact walkB_next hk hf h
set_option maxHeartbeats 4000000 in
set_option maxRecDepth 100000 in
theorem sl9Walk_any (A PA : Option Addr) (c pc : Nat) (l : List Pc) (pl : List ByteArray) (root : Int) (w : World) (hs : Sl w encP 2 A l) (hps : Sl w encS 1 PA pl) (hv : storeV l = true) (hp : pl.length ≤ 3) :
    Calls Tryz.prog 68 #[.slice A l.length c, .int .i64 root, .slice PA pl.length pc] w (WkRes (walkB l root (pl.drop 0)) w) := by
  have HS2 := Lib.hid hs
  have HPS2 := Lib.hid hps
  have HF := Lib.hid hv
  have hl : l.length ≤ 16777216 := by have := storeV_len hv; omega
  have HG := Lib.hid (fun p w h => sl4Get_any A c l p w h hl)
  generalize hE : walkB l root (pl.drop 0) = R
  have HE := Lib.hid hE.symm
  clear hs hps hv hE
  go_enter Tryz.func68, Tryz.ntmps68
  go_wp2_with fail
  go_loopw [1, 8] (fun va vi wr => ∃ (k : Nat) (at_ : Int), k ≤ pl.length ∧ va = .int .i64 at_ ∧ vi = .int .i64 k ∧ Hid (R = walkB l at_ (pl.drop k)) ∧ Hid (Below w.heap.size w wr)) (fun _ vi _ => pl.length - (intOf vi).toNat)
  case atStart => exact ⟨0, root, Nat.zero_le _, rfl, rfl, HE.out, Below.refl _ _⟩
  case round =>
    obtain ⟨k, at_, hk, rfl, rfl, HW, HBW⟩ := hrel
    have HSW := Lib.hid (HS2.out.below HBW.out)
    have HPW := Lib.hid (HPS2.out.below HBW.out)
    have hGA := HG.out at_
    by_cases hlt : k < pl.length
    · obtain ⟨bp, op, rfl, hc⟩ := HPW.out.getS hlt
      have hsz := getT_size HF.out (p := at_)
      have hRF := fun w => sReadFolder_any ((getT l at_).getD ⟨#[]⟩) w hsz
      have HNO := Lib.hid (fun h => HW.out.trans (walkB_none2 (s := l) (p := at_) hlt h))
      have HYES := Lib.hid (fun q h => HW.out.trans (walkB_next2 (q := q) (s := l) (p := at_) hlt h))
      have hFT := folT_of (l := l) (p := at_)
      have hen3 : ((folderOf l at_).getD []).length ≤ 3 := folder_len
      have hSome := folT_some (l := l) (p := at_)
      have hcase : (folderOf l at_).isSome = true ∨ ((folderOf l at_).isSome = false ∧ ((folderOf l at_).getD []) = []) := by
        cases folderOf l at_ with
        | none => exact .inr ⟨rfl, rfl⟩
        | some e => exact .inl rfl
      unfold RfRes at hRF
      unfold folT at hFT
      rw [hFT, hSome] at hRF
      generalize (folderOf l at_).getD [] = en at *
      generalize (folderOf l at_).isSome = okf at *
      generalize (getT l at_).getD ⟨#[]⟩ = TT at *
      generalize (getT l at_).isSome = okg at *
      have HRF := Lib.hid hRF
      have HGA := Lib.hid hGA
      clear hRF hGA hFT hSome hsz
      generalize pl[k] = nm at *
      go_wp2_with (go_at_call 66; refine (HGA.out _ HSW.out).mono ?_; rintro e w' ⟨rfl, rfl⟩)
      refine (HRF.out _).mono ?_
      rintro e w3 ⟨v3, rfl, hown3, hb3⟩
      obtain ⟨A3, c3, rfl, _, hs3, _⟩ := hown3.sl
      have HX3 := Lib.hid hs3
      have HB3 := Lib.hid (Below_then HBW.out hb3 (Nat.le_refl _))
      have hc3 := Below_cells hb3 _ _ _ hc
      clear hown3 hb3 hs3
      go_wp2_with fail
      go_loopw [1, 13, 14] (fun va vf vj wr => ∃ (j : Nat), j ≤ en.length ∧ va = .int .i64 at_ ∧ vf = .bool false ∧ vj = .int .i64 j ∧ Hid (∀ i (h : i < en.length), i < j → tx en[i].1 ≠ tx nm) ∧ Hid (Below w3.heap.size w3 wr)) (fun _ _ vj _ => en.length - (intOf vj).toNat)
      case atStart => exact ⟨0, Nat.zero_le _, rfl, rfl, rfl, fun i h h2 => by omega, Below.refl _ _⟩
      case round =>
        obtain ⟨j, hj, rfl, rfl, rfl, HJ, HBJ⟩ := hrel
        have HB4 := Lib.hid (Below_then HB3.out HBJ.out (Nat.le_refl _))
        have hd := Below_cells HBJ.out _ _ _ hc3
        by_cases hjl : j < en.length
        · obtain rfl : okf = true := by
            rcases hcase with h | ⟨_, h⟩
            · exact h
            · rw [h] at hjl; exact absurd hjl (by simp)
          obtain ⟨b2, o2, rfl, hy0, hy1⟩ := (HX3.out.below HBJ.out).getE hjl
          have hkl : (k : Int) < (pl.length : Int) := by omega
          have hjl' : (j : Int) < (en.length : Int) := by omega
          cases heq : (en[j].1.toList == nm.toList)
          · have hne : tx en[j].1 ≠ tx nm := by rw [eq_tlx] at heq; exact beq_eq_false_iff_ne.1 heq
            have HNX := Lib.hid (show ∀ i (h : i < en.length), i < j + 1 → tx en[i].1 ≠ tx nm from fun i h h2 => by
              by_cases e : i = j
              · subst e; exact hne
              · exact HJ.out i h (by omega))
            clear hne
            generalize en[j] = q at *
            obtain ⟨t, a⟩ := q
            simp only at *
            go_wp2_with fail
            go_quiet (fail)
            all_goals
              go_wp2
              go_round
              case rel => exact ⟨j + 1, by omega, rfl, rfl, by go_num, HNX.out, Below_drewN HBJ.out _⟩
              case measure => simp [intOf]; omega
          · have he : tx en[j].1 = tx nm := by rw [eq_tlx] at heq; exact beq_iff_eq.1 heq
            have HR := Lib.hid (HYES.out _ (getE_find hjl HJ.out he))
            clear he
            generalize en[j] = q at *
            obtain ⟨t, a⟩ := q
            simp only at *
            go_wp2_with fail
            go_quiet (fail)
            all_goals
              go_wp2
              go_roundw
              case rel => exact ⟨k + 1, a, by omega, rfl, by go_num, HR.out, Below_drewN HB4.out _⟩
              case measure => simp [intOf]; omega
        · have hjk : ¬ (j : Int) < (en.length : Int) := by omega
          have HR := Lib.hid (HNO.out (getE_end fun i h => HJ.out i h (by omega)))
          go_wp2
          go_ret2
          exact WkRes.no HR.out HB4.out
    · have hE2 := HW.out.trans (walkB_end (by omega))
      cases hg : getT l at_ with
      | none =>
        rw [hg] at hGA hE2
        have HGA := Lib.hid hGA
        have HE2 := Lib.hid (show R = none from hE2)
        clear hGA hE2 hg
        go_wp2_with (go_at_call 66; refine (HGA.out _ HSW.out).mono ?_; rintro e w' ⟨rfl, rfl⟩)
        go_ret2
        exact WkRes.no HE2.out HBW.out
      | some t =>
        rw [hg] at hGA hE2
        have HGA := Lib.hid hGA
        have HE2 := Lib.hid (show R = some at_ from hE2)
        clear hGA hE2 hg
        go_wp2_with (go_at_call 66; refine (HGA.out _ HSW.out).mono ?_; rintro e w' ⟨rfl, rfl⟩)
        go_ret2
        exact WkRes.yes HE2.out HBW.out
set_option maxHeartbeats 4000000 in
set_option maxRecDepth 100000 in
theorem sWalkTo_any (A : Option Addr) (c : Nat) (l : List Pc) (root : Int) (path : ByteArray) (w : World) (hs : Sl w encP 2 A l) (hl : l.length ≤ 16777216) (hf : FitP l) (hp : path.size ≤ 1048576) :
    Calls Tryz.prog 49 #[.slice A l.length c, .int .i64 root, .string path] w (WkRes (walkTo l root (bs path)) w) := by
  have HS := Lib.hid hs
  have hP := fun w => sPathParts_any path w hp
  unfold PathR at hP
  have hSV := fun w h => sStoreValid_any A c l w h hl hf
  clear hs
  cases hpp : pathP (bs path) with
  | none =>
    have HE := Lib.hid (walkTo_path (s := l) (root := root) hpp)
    rw [hpp] at hP
    have HP := Lib.hid hP
    clear hP hSV hpp
    go_enter Tryz.func49, Tryz.ntmps49
    go_wp2_with fail
    refine (HP.out _).mono ?_
    rintro e w1 ⟨v1, rfl, hown, hb⟩
    have HB := Lib.hid hb
    clear hb hown
    simp only [Option.isSome_none]
    go_wp2
    go_ret2
    exact WkRes.no HE.out HB.out
  | some ps =>
    have hp3 : (ps.map mk).length ≤ 3 := by rw [List.length_map]; exact (partsV_iff.1 (pathP_join hpp).1).1
    rw [hpp] at hP
    rw [show (some ps).getD [] = ps from rfl] at hP
    cases hv : storeV l
    · have HE := Lib.hid (walkTo_store (root := root) (path := bs path) hv)
      rw [hv] at hSV
      have HSV := Lib.hid hSV
      have HP := Lib.hid hP
      clear hP hSV hpp hv
      go_enter Tryz.func49, Tryz.ntmps49
      go_wp2_with fail
      refine (HP.out _).mono ?_
      rintro e w1 ⟨v1, rfl, hown, hb⟩
      have HB := Lib.hid hb
      have HS1 := Lib.hid (HS.out.below hb)
      clear hb hown
      simp only [Option.isSome_some]
      go_wp2_with fail
      refine (HSV.out _ HS1.out).mono ?_
      rintro e w2 ⟨rfl, hb2⟩
      have HB2 := Lib.hid (Below_then HB.out hb2 (Nat.le_refl _))
      clear hb2
      go_wp2
      go_ret2
      exact WkRes.no HE.out HB2.out
    · rw [hv] at hSV
      have HE := Lib.hid (walkTo_yes (root := root) hv hpp rfl)
      have HV := Lib.hid hv
      have HSV := Lib.hid hSV
      have HP := Lib.hid hP
      clear hP hSV hpp
      generalize ps.map mk = pl at *
      have HN := Lib.hid (fun PA pc w h h2 => sl9Walk_any A PA c pc l pl root w h h2 HV.out hp3)
      unfold WkRes at HN ⊢
      rw [HE.out]
      generalize walkB l root (pl.drop 0) = R at *
      generalize R.getD (-1) = RV at *
      generalize R.isSome = RB at *
      clear HE hv
      go_enter Tryz.func49, Tryz.ntmps49
      go_wp2_with fail
      refine (HP.out _).mono ?_
      rintro e w1 ⟨v1, rfl, hown, hb⟩
      obtain ⟨PA, pc, rfl, _, hps, _⟩ := hown.sl
      have HPS := Lib.hid hps
      have HB := Lib.hid hb
      have HS1 := Lib.hid (HS.out.below hb)
      clear hb hown hps
      simp only [Option.isSome_some]
      go_wp2_with fail
      refine (HSV.out _ HS1.out).mono ?_
      rintro e w2 ⟨rfl, hb2⟩
      have HB2 := Lib.hid (Below_then HB.out hb2 (Nat.le_refl _))
      have HS2 := Lib.hid (HS1.out.below hb2)
      have HPS2 := Lib.hid (HPS.out.below hb2)
      clear hb2
      go_wp2_with fail
      refine (HN.out _ _ _ HS2.out HPS2.out).mono ?_
      rintro e w3 ⟨rfl, hb3⟩
      have HB3 := Lib.hid (Below_then HB2.out hb3 (Nat.le_refl _))
      clear hb3
      go_wp2
      go_ret2
      exact ⟨rfl, HB3.out⟩
set_option maxHeartbeats 4000000 in
set_option maxRecDepth 100000 in
theorem sReadAt_any (A : Option Addr) (c : Nat) (l : List Pc) (root : Int) (path : ByteArray) (w : World) (hs : Sl w encP 2 A l) (hl : l.length ≤ 16777216) (hf : FitP l) (hp : path.size ≤ 1048576) :
    Calls Tryz.prog 28 #[.slice A l.length c, .int .i64 root, .string path] w (FoRes (readAt l root (bs path)) w) := by
  have HS := Lib.hid hs
  have hW := fun w h => sWalkTo_any A c l root path w h hl hf hp
  have hG := fun p w h => sGetText_any A c l p w h hl hf
  clear hs
  unfold WkRes at hW
  unfold GtRes at hG
  unfold readAt
  cases hw : walkTo l root (bs path) with
  | none =>
    rw [hw] at hW
    have HW := Lib.hid hW
    have HG := Lib.hid (hG (-1))
    generalize (if storeV l = true then getT l (-1) else none) = G at *
    generalize G.getD ⟨#[]⟩ = GV at *
    generalize G.isSome = GB at *
    clear hW hw hG
    unfold FoRes
    go_enter Tryz.func28, Tryz.ntmps28
    go_wp2_with fail
    refine (HW.out _ HS.out).mono ?_
    rintro e w1 ⟨rfl, hb⟩
    have HB := Lib.hid hb
    have HS1 := Lib.hid (HS.out.below hb)
    clear hb
    go_wp2_with fail
    refine (HG.out _ HS1.out).mono ?_
    rintro e w2 ⟨rfl, hb2⟩
    have HB2 := Lib.hid (Below_then HB.out hb2 (Nat.le_refl _))
    clear hb2
    go_wp2
    go_ret2
    exact ⟨rfl, HB2.out⟩
  | some q =>
    have hv := walkTo_store_yes hw
    rw [hw] at hW
    have hGQ := hG q
    rw [hv, if_pos rfl] at hGQ
    have hsz := getT_size hv (p := q)
    have hRF := fun w => sReadFile_any ((getT l q).getD ⟨#[]⟩) w (by omega)
    have hfo : readFi (bs ((getT l q).getD ⟨#[]⟩)) = fileOf l q := by
      unfold fileOf
      cases getT l q with
      | none => rfl
      | some t => rfl
    rw [hfo] at hRF
    rw [Option.bind_some]
    unfold FoRes
    unfold RdRes at hRF
    generalize (getT l q).getD ⟨#[]⟩ = GV at *
    generalize (getT l q).isSome = GB at *
    generalize fileOf l q = R at *
    generalize mk (R.getD []) = TT at *
    generalize R.isSome = B at *
    have HRF := Lib.hid hRF
    have HW := Lib.hid hW
    have HG := Lib.hid hGQ
    clear hW hw hG hGQ hRF hfo hv
    go_enter Tryz.func28, Tryz.ntmps28
    go_wp2_with fail
    refine (HW.out _ HS.out).mono ?_
    rintro e w1 ⟨rfl, hb⟩
    have HB := Lib.hid hb
    have HS1 := Lib.hid (HS.out.below hb)
    clear hb
    go_wp2_with fail
    refine (HG.out _ HS1.out).mono ?_
    rintro e w2 ⟨rfl, hb2⟩
    have HB2 := Lib.hid (Below_then HB.out hb2 (Nat.le_refl _))
    clear hb2
    go_wp2_with (go_at_call 51; refine (HRF.out _).mono ?_; rintro e w' ⟨rfl, rfl⟩)
    go_ret2
    exact ⟨rfl, HB2.out⟩
end Go.Proofs.YtaeaccakkielmaaGreatDoor

/- All files below a folder, the program's: filesBelow, AllFiles. -/
set_option linter.unusedVariables false
namespace Go.Proofs.YtaeaccakkielmaaGreatDoor
open Go.RowKit
set_option maxHeartbeats 2000000 in
set_option maxRecDepth 100000 in
theorem CloneS_any (A : Option Addr) (c : Nat) (l : List ByteArray) (w : World) (hs : Sl w encS 1 A l) (hcz : A = none → c = 0) (hl : l.length ≤ 16777216) :
    Calls Tryz.prog 74 #[.slice A l.length c] w (OwnRes 9 1 encS l w) := by
  have HS := Lib.hid hs
  have HC := Lib.hid hcz
  clear hs hcz
  have hnil := fun (W : World) (A : Option Addr) (n c : Nat) => Lib.run_eql_slice_nil (P := Tryz.prog) W 29 9 A n c 0 0 Tryz.underlying29
  cases A with
  | none =>
    have hm : l = [] := by
      cases l with
      | nil => rfl
      | cons y r => obtain ⟨b, o, e, _⟩ := HS.out (by simp); cases e
    subst hm
    go_enter Tryz.func74, Tryz.ntmps74
    go_wp2
    go_ret
    exact ⟨_, rfl, Own.nil, Below.refl _ _⟩
  | some ad =>
    go_enter Tryz.func74, Tryz.ntmps74
    go_wp2_with (at_builtin; refine app_strN rfl rfl (Own.made (Nat.le_refl _)) ((Below.refl _ _).alloc (Nat.le_refl _) _) (by simp; omega) (HS.out.alloc _) HC.out (by rfl) (by rfl) ?_; intro v1 w2 hown2 hb2 hg2; have HW2 := Lib.hid hown2; have HB2 := Lib.hid hb2; clear hown2 hb2 hg2)
    go_ret
    exact ⟨_, rfl, by have h := HW2.out; rwa [List.nil_append] at h, HB2.out⟩
def RowE (w : World) (g : Nat) (y : En) : Prop := w.cell? ⟨g, 0, none⟩ = some (.string y.1) ∧ w.cell? ⟨g, 1, none⟩ = some (.int .i64 y.2)
theorem RowE.new (w : World) (y : En) : RowE (w.alloc (rowE y)) w.heap.size y := ⟨new_cell rfl, new_cell rfl⟩
theorem RowE.below {w w' : World} {g : Nat} {y : En} (h : RowE w g y) (hb : Below w.heap.size w w') : RowE w' g y := ⟨Below_cells hb _ _ _ h.1, Below_cells hb _ _ _ h.2⟩
theorem StrAt.below {w w' : World} {g : Nat} {y : ByteArray} (h : StrAt w g y) (hb : Below w.heap.size w w') : StrAt w' g y := Below_cells hb _ _ _ h
theorem entOk_size {e : En} (h : entOk e = true) : e.1.size ≤ 8 := by
  have := (entOk_iff.1 h).1
  unfold wordV at this
  rw [Bool.and_eq_true, Bool.and_eq_true, decide_eq_true_eq] at this
  exact this.1.1.2
set_option maxHeartbeats 8000000 in
set_option maxRecDepth 100000 in
theorem ifilesBelow_any (A : Option Addr) (c : Nat) (l : List Pc) (hv : storeV l = true) : ∀ (f : Nat) (p : Int) (PA : Option Addr) (pc : Nat) (pl : List ByteArray) (w : World), Sl w encP 2 A l → Sl w encS 1 PA pl → (PA = none → pc = 0) → pl.length ≤ pc → pl.length + f = 3 → (∀ x ∈ pl, x.size ≤ 8) → TzL w → MaxL w →
    Calls Tryz.prog 57 #[.slice A l.length c, .int .i64 p, .slice PA pl.length pc] w (OwnRes 9 1 encS ((filesP l f p (pl.map tx)).map mk) w) := by
  intro f
  induction f with
  | zero =>
    intro p PA pc pl w _ _ _ _ hf _ _ _
    have h3 : (pl.length : Int) = 3 := by omega
    rw [show (filesP l 0 p (pl.map tx)).map mk = [] from rfl]
    go_enter Tryz.func57, Tryz.ntmps57
    go_wp2
    go_ret
    exact ⟨_, rfl, Own.nil, Below.refl _ _⟩
  | succ f ih =>
    intro p PA pc pl w hs hps hcz hple hf hsz ht hm
    have h3 : ¬ (pl.length : Int) = 3 := by omega
    have HS := Lib.hid hs
    have HPS := Lib.hid hps
    have HCZ := Lib.hid hcz
    have HSZ := Lib.hid hsz
    have HT := Lib.hid ht
    have HM := Lib.hid hm
    have HV := Lib.hid hv
    have HIH := Lib.hid ih
    have HFO := Lib.hid (fun w h h2 h3 => ifolderOf_any A c l p w h hv h2 h3)
    have hen3 : ((folderOf l p).getD []).length ≤ 3 := folder_len
    have HOK := Lib.hid (show ∀ e ∈ (folderOf l p).getD [], entOk e = true by
      cases hfo : folderOf l p with
      | none => intro e he; cases he
      | some en => intro e he; exact entsV_ok (folder_valid hfo) he)
    rw [filesP_succ]
    clear hs hps hcz hsz ht hm hv ih
    unfold RfRes at HFO
    generalize (folderOf l p).getD [] = en at *
    generalize (folderOf l p).isSome = okf at *
    have HFA := Lib.hid (show 3 ^ f * 3 ≤ 27 by
      have : f ≤ 2 := by omega
      have h := Nat.pow_le_pow_right (n := 3) (by omega) this
      omega)
    have HLA := Lib.hid (fun k => accF_len (s := l) (f := f) (ps := pl.map tx) (l := en) (k := k) hen3)
    have HLS := Lib.hid (fun e => stepF_len l f (pl.map tx) e)
    go_enter Tryz.func57, Tryz.ntmps57
    go_wp2_with fail
    refine (HFO.out _ HS.out HT.out HM.out).mono ?_
    rintro e w1 ⟨v1, rfl, hown1, hb1⟩
    obtain ⟨EA, ec, rfl, _, hes, _⟩ := hown1.sl
    have HES := Lib.hid hes
    have HB1 := Lib.hid hb1
    clear hes hown1 hb1
    go_wp2_with fail
    go_loopw [9, 26] (fun v i wr => ∃ (k : Nat), k ≤ en.length ∧ i = .int .i64 k ∧ Own wr w1.heap.size 9 1 encS v (accF l f (pl.map tx) en k) ∧ Hid (Below w1.heap.size w1 wr)) (fun _ i _ => en.length - (intOf i).toNat)
    case atStart => exact ⟨0, Nat.zero_le _, rfl, Own.nil, Below.refl _ _⟩
    case round =>
      obtain ⟨k, hk, rfl, hown, HBW⟩ := hrel
      have HBA := Lib.hid (Below_then HB1.out HBW.out (Nat.le_refl _))
      by_cases hlt : k < en.length
      · obtain ⟨b, o, rfl, hc0, hc1⟩ := (HES.out.below HBW.out).getE hlt
        have hN := accF_next (s := l) (f := f) (ps := pl.map tx) hlt
        have hok := HOK.out _ (List.getElem_mem hlt)
        have hst := HLS.out en[k]
        have hla := HLA.out k
        have hfa := HFA.out
        generalize en[k] = y at *
        have HW0 := Lib.hid hown
        have HBOX := Lib.hid (RowE.new wr y)
        have HW5 := Lib.hid (hown.alloc (rowE y))
        have HB5 := Lib.hid (HBA.out.alloc HBA.out.size (rowE y))
        have hysz := entOk_size hok
        clear hown
        obtain ⟨t, a⟩ := y
        simp only at hc0 hc1 hysz
        have HB15 := Lib.hid (HBW.out.alloc HBW.out.size (rowE (t, a)))
        have HLEN := Lib.hid (show (pl ++ [t]).length = pl.length + 1 by simp)
        have HMAP := Lib.hid (show (pl ++ [t]).map bs = pl.map tx ++ [tx t] by simp)
        have HSZ2 := Lib.hid (show ∀ x ∈ pl ++ [t], x.size ≤ 8 from fun x hx => by
          rw [List.mem_append, List.mem_singleton] at hx
          rcases hx with hx | rfl
          · exact HSZ.out x hx
          · exact hysz)
        have HL := Lib.hid (show pl.length ≤ 16777216 by omega)
        have HCL := Lib.hid (fun w h => CloneS_any PA pc pl w h HCZ.out HL.out)
        have HFI := Lib.hid (fun w h => ifileOf_any A c l a w h HV.out)
        go_wp2_with fail
        revert HBOX HW5 HB5 HB15
        generalize wr.alloc (rowE (t, a)) = w5
        intro HBOX HW5 HB5 HB15
        have HD := Lib.hid (Below.refl w5.heap.size w5).drew
        have HDa := Lib.hid (((Below.refl w5.heap.size w5).alloc (Nat.le_refl _) (rowS t)).drew)
        have HPd := Lib.hid ((HPS.out.below HB5.out).drew)
        have HPa := Lib.hid (((HPS.out.below HB5.out).alloc (rowS t)).drew)
        have HRa := Lib.hid (show StrAt (w5.alloc (rowS t)).drew w5.heap.size t from StrAt.new w5 t)
        go_region_held3 (fun w' => w'.cell? ⟨wr.heap.size, 0, none⟩ = some (.string t) ∧ w'.cell? ⟨wr.heap.size, 1, none⟩ = some (.int .i64 a))
          (first | assumption | exact HBOX.out | exact HBOX.out.below HB3.out | exact HBOX.out.below HBR.out | exact HBOX.out.below HB2.out | exact HBOX.out.below HDa.out | exact HBOX.out.below HD.out)
          ((first
            | (go_at_call 74; refine (HCL.out _ HPd.out).mono ?_; rintro e w2 ⟨v2, rfl, hown2, hb2⟩; have HW2 := Lib.hid ((hown2.mono HD.out.size).alloc (rowS t)); have HB2 := Lib.hid (Below_then HD.out hb2 (Nat.le_refl _)); have HBR := Lib.hid (HB2.out.alloc HB2.out.size (rowS t)); have HRR := Lib.hid (StrAt.new w2 t); clear hown2 hb2)
            | (go_at_call 74; refine (HCL.out _ HPa.out).mono ?_; rintro e w2 ⟨v2, rfl, hown2, hb2⟩; have HB2 := Lib.hid (Below_then HDa.out hb2 (Nat.le_refl _)); have HW2 := Lib.hid (hown2.mono HDa.out.size); have HBR := HB2; have HRR := Lib.hid (HRa.out.below hb2); clear hown2 hb2)
            | (refine step_str_d HW2.out HBR.out HRR.out HL.out (by rfl) rfl (by rfl) (by rfl) ?_; intro v3 w3 hown3 hb3; have HW3 := Lib.hid hown3; have HB3 := Lib.hid hb3; clear hown3 hb3)))
        all_goals
          obtain ⟨X, d, ev, hle3, hs3, _⟩ := HW3.out.sl
          rw [HLEN.out] at ev hle3
          subst ev
          have HX3 := Lib.hid hs3
          have HCW := Lib.hid HW3.out.cz
          have HB03 := Lib.hid (Below_then HB5.out HB3.out (Nat.le_refl _))
          have HB13 := Lib.hid (Below_then HB15.out HB3.out (Nat.le_refl _))
          have HS3 := Lib.hid (HS.out.below HB03.out)
          have HWA := Lib.hid (HW5.out.below HB3.out)
          have hk3 := HBOX.out.below HB3.out
          have hk0 := hk3.1
          have hk1 := hk3.2
          clear hs3 hk3
          have hFI := HFI.out w3 HS3.out
          unfold FoRes at hFI
          cases hfi : (fileOf l a).isSome
          · rw [hfi] at hFI
            have HN := Lib.hid (show accF l f (pl.map tx) en (k + 1) = accF l f (pl.map tx) en k ++ (filesP l f a ((pl ++ [t]).map tx)).map mk by
              rw [hN]; unfold stepF; rw [hfi, if_neg (by simp)]; rw [show (pl ++ [t]).map tx = pl.map tx ++ [tx t] from HMAP.out])
            have hfl : ((filesP l f a ((pl ++ [t]).map tx)).map mk).length ≤ 3 ^ f := by rw [List.length_map]; exact filesP_len l f a ((pl ++ [t]).map tx)
            have HFI3 := Lib.hid hFI
            have hIH := fun w h h2 h3 h4 => HIH.out a X d (pl ++ [t]) w h h2 HCW.out (by rw [HLEN.out]; exact hle3) (by rw [HLEN.out]; omega) HSZ2.out h3 h4
            rw [HLEN.out] at hIH
            generalize (filesP l f a ((pl ++ [t]).map tx)).map mk = FM at *
            have HI3 := Lib.hid hIH
            clear hFI hIH hN hfi
            generalize mk ((fileOf l a).getD []) = CT at *
            go_wp2_with fail
            refine HFI3.out.mono ?_
            rintro e w4 ⟨rfl, hb4⟩
            have HB04 := Lib.hid (Below_then HB03.out hb4 (Nat.le_refl _))
            have HB14 := Lib.hid (Below_then HB13.out hb4 (Nat.le_refl _))
            have HS4 := Lib.hid (HS.out.below HB04.out)
            have HX4 := Lib.hid (HX3.out.below hb4)
            have HWA4 := Lib.hid (HWA.out.below hb4)
            have hm1 := Below_cells hb4 _ _ _ hk1
            clear hb4 hk0 hk1
            go_wp2_with fail
            refine (HI3.out _ HS4.out HX4.out (HT.out.below HB04.out) (HM.out.below HB04.out)).mono ?_
            rintro e w5' ⟨v5, rfl, hown5, hb5⟩
            obtain ⟨X5, d5, rfl, hle5, hs5, _⟩ := hown5.sl
            have HC5 := Lib.hid hown5.cz
            have HX5 := Lib.hid hs5
            have HB05 := Lib.hid (Below_then HB04.out hb5 (Nat.le_refl _))
            have HB15 := Lib.hid (Below_then HB14.out hb5 (Nat.le_refl _))
            have HWA5 := Lib.hid (HWA4.out.below hb5)
            have hbound : (accF l f (pl.map tx) en k).length + FM.length ≤ 33554432 := by
              have : 3 ^ f ≤ 27 := by omega
              omega
            have HBD := Lib.hid hbound
            clear hown5 hs5 hb5 hm1
            go_wp2_with (at_builtin; refine app_strN (w0 := w1) rfl rfl HWA5.out HB15.out HBD.out HX5.out HC5.out (by rfl) (by rfl) ?_; intro v6 w6 hown6 hb6 hg6; have HW6 := Lib.hid hown6; have HB6 := Lib.hid hb6; clear hown6 hb6 hg6)
            go_roundw
            case rel => exact ⟨k + 1, by omega, by go_num, by rw [HN.out]; exact HW6.out, HB6.out⟩
            case measure => simp [intOf]; omega
          · rw [hfi] at hFI
            have HN := Lib.hid (show accF l f (pl.map tx) en (k + 1) = accF l f (pl.map tx) en k ++ [mk (joinP ((pl ++ [t]).map bs))] by
              rw [hN]; unfold stepF; rw [hfi, if_pos rfl, HMAP.out]; rfl)
            have HFI3 := Lib.hid hFI
            have hJ := fun w h => iJoinPath_any X d (pl ++ [t]) w h (by rw [HLEN.out]; exact hle3) (by rw [HLEN.out]; omega) (fun x hx => Nat.le_trans (HSZ2.out x hx) (by omega))
            rw [HLEN.out] at hJ
            generalize mk (joinP ((pl ++ [t]).map bs)) = JP at *
            have HJ := Lib.hid hJ
            have HBD := Lib.hid (show (accF l f (pl.map tx) en k).length ≤ 16777216 by omega)
            clear hFI hJ hN hfi
            generalize mk ((fileOf l a).getD []) = CT at *
            go_wp2_with fail
            refine HFI3.out.mono ?_
            rintro e w4 ⟨rfl, hb4⟩
            have HB04 := Lib.hid (Below_then HB03.out hb4 (Nat.le_refl _))
            have HB14 := Lib.hid (Below_then HB13.out hb4 (Nat.le_refl _))
            have HX4 := Lib.hid (HX3.out.below hb4)
            have HWA4 := Lib.hid (HWA.out.below hb4)
            clear hb4 hk0 hk1
            go_wp2_with fail
            refine (HJ.out _ HX4.out).mono ?_
            rintro e w5' ⟨rfl, hb5⟩
            have HB05 := Lib.hid (Below_then HB04.out hb5 (Nat.le_refl _))
            have HB15 := Lib.hid (Below_then HB14.out hb5 (Nat.le_refl _))
            have HWA5 := Lib.hid (HWA4.out.below hb5)
            clear hb5
            go_wp2_with (at_builtin; refine app_str (w0 := w1) rfl rfl rfl rfl HWA5.out HB15.out HBD.out ?_; intro v6 w6 hown6 hb6; have HW6 := Lib.hid hown6; have HB6 := Lib.hid hb6; clear hown6 hb6)
            go_roundw
            case rel => exact ⟨k + 1, by omega, by go_num, by rw [HN.out]; exact HW6.out, HB6.out⟩
            case measure => simp [intOf]; omega
      · have HE := Lib.hid (accF_all (s := l) (f := f) (ps := pl.map tx) (l := en) (k := k) (by omega))
        go_wp2
        go_ret
        exact ⟨_, rfl, HE.out ▸ hown.mono HB1.out.size, HBA.out⟩
set_option maxHeartbeats 2000000 in
set_option maxRecDepth 100000 in
theorem iAllFiles_any (A : Option Addr) (c : Nat) (l : List Pc) (root : Int) (w : World) (hs : Sl w encP 2 A l) (hl : l.length ≤ 16777216) (hf : FitP l) (ht : TzL w) (hm : MaxL w) :
    Calls Tryz.prog 32 #[.slice A l.length c, .int .i64 root] w (OwnRes 9 1 encS ((allF l root).map mk) w) := by
  have HS := Lib.hid hs
  have HT := Lib.hid ht
  have HM := Lib.hid hm
  have hSV := fun w h => iStoreValid_any A c l w h hl hf
  clear hs ht hm
  unfold allF
  cases hv : storeV l
  · rw [hv] at hSV
    rw [if_neg (by simp)]
    have HSV := Lib.hid hSV
    clear hSV hv
    go_enter Tryz.func32, Tryz.ntmps32
    go_wp2_with fail
    refine (HSV.out _ HS.out).mono ?_
    rintro e w1 ⟨rfl, hb⟩
    have HB := Lib.hid hb
    clear hb
    go_wp2
    go_ret
    exact ⟨_, rfl, Own.nil, HB.out⟩
  · have hFB := fun w h h2 h3 => ifilesBelow_any A c l hv 3 root none 0 [] w h Sl.none_ (fun _ => rfl) (Nat.le_refl _) rfl (by intro x hx; cases hx) h2 h3
    rw [if_pos rfl]
    rw [hv] at hSV
    rw [show ([] : List ByteArray).map tx = [] from rfl] at hFB
    generalize (filesP l 3 root []).map mk = FM at *
    have HSV := Lib.hid hSV
    have HFB := Lib.hid hFB
    clear hSV hv hFB
    go_enter Tryz.func32, Tryz.ntmps32
    go_wp2_with fail
    refine (HSV.out _ HS.out).mono ?_
    rintro e w1 ⟨rfl, hb⟩
    have HB := Lib.hid hb
    have HS1 := Lib.hid (HS.out.below hb)
    have HT1 := Lib.hid (HT.out.below hb)
    have HM1 := Lib.hid (HM.out.below hb)
    clear hb
    go_wp2_with fail
    refine (HFB.out _ HS1.out HT1.out HM1.out).mono ?_
    rintro e w2 ⟨v2, rfl, hown2, hb2⟩
    have HW2 := Lib.hid (hown2.mono HB.out.size)
    have HB2 := Lib.hid (Below_then HB.out hb2 (Nat.le_refl _))
    clear hown2 hb2
    go_wp2
    go_ret
    exact ⟨_, rfl, HW2.out, HB2.out⟩
end Go.Proofs.YtaeaccakkielmaaGreatDoor

/- All files below a folder, the reference's: l11Files, AllFiles. -/
set_option linter.unusedVariables false
namespace Go.Proofs.YtaeaccakkielmaaGreatDoor
open Go.RowKit
section
variable {ops : Array Oper} {o : Oper} {a : Act} {K : Act → World → Prop} {Q : Exit → Act → World → Prop} {E' : Prop} {w0 wr : World} {v : Value}
set_option maxRecDepth 100000 in
theorem step_strK {l m : List ByteArray} {A : Option Addr} {c : Nat} {s x : Operand} (hw : Region.wanted o (yielded ops a.tmps) = true) (ho : o.op = .call { callee := .builtin .append, args := #[s, x], argTypes := #[29, 29] })
    (hown : Own wr w0.heap.size 9 1 encS v l) (hb : Below w0.heap.size w0 wr) (hn : l.length + m.length ≤ 33554432) (hsl : Sl wr encS 1 A m) (hcz : A = none → c = 0)
    (hs : a.eval s = v) (hx : a.eval x = .slice A m.length c)
    (h : ∀ v' w', Own w' w0.heap.size 9 1 encS v' (l ++ m) → Below w0.heap.size w0 w' → Grew v wr w' → Kin v wr v' → K (a.put o.dst v') w') : if Region.wanted o (yielded ops a.tmps) = true then Oper.wp Tryz.prog o a wr K Q else E' := by
  obtain ⟨i0, hi0, hz0, hz1, hz2⟩ := info_parts str_info
  rw [if_pos hw]
  cases A with
  | none =>
    have hm : m = [] := by
      cases m with
      | nil => rfl
      | cons y r => obtain ⟨b, o, e, _⟩ := hsl (by simp); cases e
    subst hm
    rw [hcz rfl] at hx
    have hrun := run_append_owned_none (P := Tryz.prog) (w := wr) w0.heap.size 29 o.type 9 i0 1 Tryz.underlying29 hi0 v l.length (flat encS l) hown
    have hK := h v wr (by rw [List.append_nil]; exact hown) hb (Grew.refl _ _) (fun b _ h => h)
    simp at hx
    unfold Oper.wp
    simp [execOp, ho, resolve, invoke, builtin, hs, hx, hrun, Result.andThen]
    exact hK
  | some ad =>
    obtain ⟨v', w', hr, h2, h3, h4, h5⟩ := run_append_own_at (P := Tryz.prog) wr w0.heap.size 29 o.type 9 i0 _ 1 16 Tryz.underlying29 hi0 hz0 hz1 hz2 rfl (by decide) v l.length (flat encS l) hown ad m.length c (flat encS m) (flat_length (enc := encS) (size := 1) (fun _ => rfl) m) (by
        intro j u hu
        have hpos : 0 < m.length := by
          have hlt := (List.getElem?_eq_some_iff.1 hu).1
          rw [flat_length (enc := encS) (size := 1) (fun _ => rfl)] at hlt
          cases m with
          | nil => simp at hlt
          | cons y r => simp
        obtain ⟨b, o', e, hc⟩ := hsl hpos
        injection e with e
        subst e
        have hadd : (⟨b, o', none⟩ : Addr).add j = ⟨b, o' + j, none⟩ := by unfold Addr.add; split <;> simp_all
        rw [hadd]; exact hc j u hu) (by
        intro u hu
        unfold flat at hu
        obtain ⟨y, _, hy⟩ := List.mem_flatMap.1 hu
        exact oneS y u hy) (by unfold maxLen; omega) (by omega) hb.size
    unfold Oper.wp execOp
    simp only [ho, resolve, invoke, builtin, Sem.run_bind, Sem.run_pure, Result.andThen_ok, List.map_toArray, List.map_cons, List.map_nil, hs, hx, hr]
    refine h v' w' ?_ (hb.grown h3 hb.size (fun k hk => (World.ownsRow.lt hown k hk).1)) h3 ?_
    · show w'.ownsRow _ _ _ v' (l ++ m).length (flat encS (l ++ m))
      rw [flat_append, List.length_append]; exact h2
    · intro b hb2 hne hv'
      rcases h5 with h5 | h5
      · exact hne (h5 ▸ hv')
      · rw [h5] at hv'; injection hv' with e; omega
end
theorem strAt_one (w : World) (t : ByteArray) : StrAt ((w.alloc (.cells #[] 9)).drew.alloc (rowS t)) (w.heap.size + 1) t := by
  have h := StrAt.new (w.alloc (.cells #[] 9)).drew t
  have e : (w.alloc (.cells #[] 9)).drew.heap.size = w.heap.size + 1 := by
    show (w.alloc (.cells #[] 9)).heap.size = _
    simp
  rw [e] at h; exact h
theorem own_one (w : World) (t : ByteArray) : Own ((w.alloc (rowS t)).drew.alloc (.cells #[] 9)) w.heap.size 9 1 encS (.slice (some ⟨w.heap.size + 1, 0, none⟩) 0 0) [] := by
  have e : (w.alloc (rowS t)).drew.heap.size = w.heap.size + 1 := by
    show (w.alloc (rowS t)).heap.size = _
    simp
  have h := Own.made (w := (w.alloc (rowS t)).drew) (base := w.heap.size) (enc := encS) (E := 9) (size := 1) (by omega)
  rw [e] at h; exact h
theorem own_lit {α : Type} {enc : α → List Value} {W : World} {b base size : Nat} {E : TypeId} {l : List α} (he : ∀ x, (enc x).length = size) (h : W.heap[b]? = some (.cells (flat enc l).toArray E (0, 0))) (hb : base ≤ b) (hm : l.length ≤ maxLen) :
    Own W base E size enc (.slice (some ⟨b, 0, none⟩) l.length l.length) l := by
  refine Filled.own ⟨(flat enc l).toArray, h, ?_, ?_, ?_⟩ he hb hm
  · simp [flat_length he]
  · simp [flat_length he]
  · simp
def CellE (w : World) (b o : Nat) (y : En) : Prop := w.cell? ⟨b, o, none⟩ = some (.string y.1) ∧ w.cell? ⟨b, o + 1, none⟩ = some (.int .i64 y.2)
theorem CellE.below {w w' : World} {b o : Nat} {y : En} (h : CellE w b o y) (hb : Below w.heap.size w w') : CellE w' b o y := ⟨Below_cells hb _ _ _ h.1, Below_cells hb _ _ _ h.2⟩
theorem CellE.grew {w w' : World} {b o : Nat} {y : En} {v : Value} (h : CellE w b o y) (hg : Grew v w w') (hv : v.ownBlock ≠ some b) : CellE w' b o y := ⟨hg.cell hv h.1, hg.cell hv h.2⟩
theorem fileOf_text {l : List Pc} {p : Int} : readFi (bs ((getT l p).getD ⟨#[]⟩)) = fileOf l p := by
  unfold fileOf
  cases getT l p with
  | none => rfl
  | some t => rfl
theorem fileOf_got {l : List Pc} {p : Int} (h : (fileOf l p).isSome = true) : (getT l p).isSome = true := by
  unfold fileOf at h
  cases hg : getT l p with
  | none => rw [hg] at h; cases h
  | some t => rfl
theorem folderOf_got {l : List Pc} {p : Int} (h : (folderOf l p).getD [] ≠ []) : (getT l p).isSome = true ∧ (folderOf l p).isSome = true := by
  unfold folderOf at *
  cases hg : getT l p with
  | none => rw [hg] at h; exact absurd rfl h
  | some t =>
    rw [hg] at h
    refine ⟨rfl, ?_⟩
    cases hr : readF (tx t) with
    | none => rw [Option.bind_some, hr] at h; exact absurd rfl h
    | some e => rw [Option.bind_some, hr]; rfl
def L11 (A : Option Addr) (c : Nat) (l : List Pc) (p : Int) (PA : Option Addr) (pc : Nat) (pl : List ByteArray) (w : World) : Prop :=
  Sl w encP 2 A l → Sl w encS 1 PA pl → (PA = none → pc = 0) → (∀ x ∈ pl, x.size ≤ 8) →
    Calls Tryz.prog 48 #[.slice A l.length c, .int .i64 p, .slice PA pl.length pc] w (OwnRes 9 1 encS ((specF l p (pl.map tx)).map mk) w)
set_option maxHeartbeats 16000000 in
set_option maxRecDepth 100000 in
theorem sl11_step (A : Option Addr) (c : Nat) (l : List Pc) (hv : storeV l = true) (pl : List ByteArray) (hl3 : pl.length ≤ 3)
    (ih : pl.length < 3 → ∀ (p : Int) (PA : Option Addr) (pc : Nat) (pl2 : List ByteArray) (w : World), pl2.length = pl.length + 1 → L11 A c l p PA pc pl2 w)
    (p : Int) (PA : Option Addr) (pc : Nat) (w : World) : L11 A c l p PA pc pl w := by
  intro hs hps hcz hsz
  have HS := Lib.hid hs
  have HPS := Lib.hid hps
  have HCZ := Lib.hid hcz
  have HSZ := Lib.hid hsz
  have HIH := Lib.hid ih
  have HV := Lib.hid hv
  have hl : l.length ≤ 16777216 := by have := storeV_len hv; omega
  have hG := fun w h => sl4Get_any A c l p w h hl
  have htz := getT_size hv (p := p)
  have hRF := fun w => sReadFile_any ((getT l p).getD ⟨#[]⟩) w (by omega)
  have hRD := fun w => sReadFolder_any ((getT l p).getD ⟨#[]⟩) w htz
  have hFT := folT_of (l := l) (p := p)
  have hSome := folT_some (l := l) (p := p)
  have hGot := fileOf_got (l := l) (p := p)
  have hFG := folderOf_got (l := l) (p := p)
  have hen3 : ((folderOf l p).getD []).length ≤ 3 := folder_len
  have HOK := Lib.hid (show ∀ e ∈ (folderOf l p).getD [], entOk e = true by
    cases hfo : folderOf l p with
    | none => intro e he; cases he
    | some en => intro e he; exact entsV_ok (folder_valid hfo) he)
  unfold RdRes at hRF
  unfold RfRes at hRD
  unfold folT at hFT
  rw [fileOf_text] at hRF
  rw [hFT, hSome] at hRD
  have hmt : (pl.map tx).length = pl.length := List.length_map ..
  have HFILE := Lib.hid (fun h h2 => specF_file (s := l) (p := p) (ps := pl.map tx) h h2)
  have HR0 := Lib.hid (show ((folderOf l p).getD [] = [] ∨ 3 ≤ pl.length) → ((fileOf l p).isSome = false ∨ pl.map tx = []) → (specF l p (pl.map tx)).map mk = [] from fun h1 h2 => by
    by_cases h3 : 3 ≤ pl.length
    · rw [specF_long h2 (by omega)]; rfl
    · have h4 := h1.resolve_right h3
      rw [specF_folder h2 (by omega), h4]; rfl)
  have HR1 := Lib.hid (show pl.length < 3 → ((fileOf l p).isSome = false ∨ pl.map tx = []) → (specF l p (pl.map tx)).map mk = accF l (2 - pl.length) (pl.map tx) ((folderOf l p).getD []) ((folderOf l p).getD []).length from fun h1 h2 => by
    rw [accF_all (Nat.le_refl _), specF_folder h2 (by omega), hmt])
  have HNEXT := Lib.hid (fun k (hk : k < ((folderOf l p).getD []).length) (h : pl.length < 3) => show accF l (2 - pl.length) (pl.map tx) ((folderOf l p).getD []) (k + 1) = accF l (2 - pl.length) (pl.map tx) ((folderOf l p).getD []) k ++ (specF l (((folderOf l p).getD [])[k]).2 (pl.map tx ++ [tx (((folderOf l p).getD [])[k]).1])).map mk by
    rw [accF_next hk, specF_step (by omega), hmt])
  have HLA := Lib.hid (fun k => accF_len (s := l) (f := 2 - pl.length) (ps := pl.map tx) (l := (folderOf l p).getD []) (k := k) hen3)
  clear hs hps hcz hsz ih hFT hSome htz
  generalize (getT l p).getD ⟨#[]⟩ = TT at *
  generalize (getT l p).isSome = okg at *
  generalize (folderOf l p).getD [] = en at *
  generalize (folderOf l p).isSome = okf at *
  generalize hSP : (specF l p (pl.map tx)).map mk = SP at *
  generalize mk ((fileOf l p).getD []) = CT at *
  generalize (fileOf l p).isSome = okc at *
  have HG := Lib.hid hG
  have HRF := Lib.hid hRF
  have HRD := Lib.hid hRD
  have HSP := Lib.hid hSP
  clear hG hRF hRD hSP
  by_cases hfile : okc = true ∧ 0 < pl.length
  · obtain ⟨rfl, hpos⟩ := hfile
    obtain rfl := hGot rfl
    have hne : pl.map tx ≠ [] := fun e => by rw [← List.length_eq_zero_iff, hmt] at e; omega
    rw [← HSP.out, HFILE.out rfl hne]
    have hJ := fun w h => sJoinPath_any PA pc pl w h (by omega) (fun x hx => Nat.le_trans (HSZ.out x hx) (by omega))
    show Calls _ _ _ _ (OwnRes _ _ _ [mk (joinP (pl.map bs))] _)
    generalize mk (joinP (pl.map bs)) = JP at *
    have HJ := Lib.hid hJ
    clear hJ HR0 HR1 HNEXT HLA
    go_enter Tryz.func48, Tryz.ntmps48
    go_wp2_with (first | (go_at_call 66; refine (HG.out _ HS.out).mono ?_; rintro e w' ⟨rfl, rfl⟩) | (go_at_call 51; refine (HRF.out _).mono ?_; rintro e w' ⟨rfl, rfl⟩) | (go_at_call 45; refine (HJ.out _ HPS.out).mono ?_; rintro e w' ⟨rfl, rfl⟩))
    go_ret
    exact ⟨_, rfl, own_lit (enc := encS) (l := [JP]) (fun _ => rfl) (heap_alloc_new w _) (Nat.le_refl _) (by unfold maxLen; simp), (Below.refl _ _).alloc (Nat.le_refl _) _⟩
  · have hor : okc = false ∨ pl.map tx = [] := by
      cases okc
      · exact .inl rfl
      · right
        have : ¬ 0 < pl.length := fun h => hfile ⟨rfl, h⟩
        rw [← List.length_eq_zero_iff, hmt]; omega
    have hguard : okg = false ∨ (okg = true ∧ okc = false) ∨ (okg = true ∧ okc = true ∧ ¬ 0 < pl.length) := by
      cases okg
      · exact .inl rfl
      · cases okc
        · exact .inr (.inl ⟨rfl, rfl⟩)
        · exact .inr (.inr ⟨rfl, rfl, fun h => hfile ⟨rfl, h⟩⟩)
    have HB := Lib.hid ((Below.refl w.heap.size w).alloc (Nat.le_refl _) (.cells #[] 9))
    have HACC := Lib.hid (((Own.made (enc := encS) (E := 9) (size := 1) (Nat.le_refl w.heap.size))))
    have HR0' := Lib.hid (fun h => HR0.out h hor)
    have HR1' := Lib.hid (fun h => HR1.out h hor)
    clear hfile hor hGot HR0 HR1 HSP HFILE
    by_cases hen : en = []
    · subst hen
      obtain rfl := HR0'.out (.inl rfl)
      clear HR1' HNEXT HLA HR0' HIH
      rcases hguard with rfl | ⟨rfl, rfl⟩ | ⟨rfl, rfl, hnp⟩
      all_goals
        go_enter Tryz.func48, Tryz.ntmps48
        go_wp2_with (first | (go_at_call 66; refine (HG.out _ HS.out).mono ?_; rintro e w' ⟨rfl, rfl⟩) | (go_at_call 51; refine (HRF.out _).mono ?_; rintro e w' ⟨rfl, rfl⟩))
        refine (HRD.out _).mono ?_
        rintro e w2 ⟨v, rfl, hown, hb⟩
        obtain ⟨X, d, rfl, hle, _, _⟩ := hown.sl
        replace HB := Lib.hid (HB.out.trans (hb.mono (by simp)))
        replace HACC := Lib.hid (HACC.out.below hb)
        clear hb hown
        go_wp2_with fail
        go_loopw [11, 14] (fun v i wr => v = .slice (some ⟨w.heap.size, 0, none⟩) 0 0 ∧ i = .int .i64 0 ∧ wr = w2) (fun _ _ _ => 0)
        case atStart => exact ⟨rfl, rfl, rfl⟩
        case round =>
          obtain ⟨rfl, rfl, rfl⟩ := hrel
          go_wp2
          go_ret
          exact ⟨_, rfl, HACC.out, HB.out⟩
    · obtain ⟨rfl, rfl⟩ := hFG hen
      have hpos : (0 : Int) < (en.length : Int) := by have := List.length_pos_iff.2 hen; omega
      by_cases hp3 : pl.length < 3
      case neg =>
        have hp3' : ¬ (pl.length : Int) < 3 := by omega
        obtain rfl := HR0'.out (.inr (by omega))
        clear HR1' HNEXT HLA HR0' HIH
        rcases hguard with h | ⟨_, rfl⟩ | ⟨_, rfl, hnp⟩
        · cases h
        · go_enter Tryz.func48, Tryz.ntmps48
          go_wp2_with (first | (go_at_call 66; refine (HG.out _ HS.out).mono ?_; rintro e w' ⟨rfl, rfl⟩) | (go_at_call 51; refine (HRF.out _).mono ?_; rintro e w' ⟨rfl, rfl⟩))
          refine (HRD.out _).mono ?_
          rintro e w2 ⟨v, rfl, hown, hb⟩
          obtain ⟨X, d, rfl, hle, _, _⟩ := hown.sl
          replace HB := Lib.hid (HB.out.trans (hb.mono (by simp)))
          replace HACC := Lib.hid (HACC.out.below hb)
          clear hb hown
          go_wp2_with fail
          go_loopw [11, 14] (fun v i wr => v = .slice (some ⟨w.heap.size, 0, none⟩) 0 0 ∧ i = .int .i64 0 ∧ wr = w2) (fun _ _ _ => 0)
          case atStart => exact ⟨rfl, rfl, rfl⟩
          case round =>
            obtain ⟨rfl, rfl, rfl⟩ := hrel
            go_wp2
            go_ret
            exact ⟨_, rfl, HACC.out, HB.out⟩
        · omega
      case pos =>
        have hp3' : (pl.length : Int) < 3 := by omega
        rw [HR1'.out hp3]
        have HNX := Lib.hid (fun k hk => HNEXT.out k hk hp3)
        have HI := Lib.hid (HIH.out hp3)
        clear HR1' HNEXT HR0' HIH
        rcases hguard with h | ⟨_, rfl⟩ | ⟨_, rfl, hnp⟩
        · cases h
        all_goals
          go_enter Tryz.func48, Tryz.ntmps48
          go_wp2_with (first | (go_at_call 66; refine (HG.out _ HS.out).mono ?_; rintro e w' ⟨rfl, rfl⟩) | (go_at_call 51; refine (HRF.out _).mono ?_; rintro e w' ⟨rfl, rfl⟩))
          refine (HRD.out _).mono ?_
          rintro e w2 ⟨v, rfl, hown, hb⟩
          obtain ⟨X, d, rfl, hle, _, _⟩ := hown.sl
          have HSX := Lib.hid hown.sl'
          have HLX := Lib.hid hown.ltA
          have HAX := Lib.hid (hown.apart (v := .slice (some ⟨w.heap.size, 0, none⟩) 0 0) (by intro g hg; have hg : some w.heap.size = some g := hg; injection hg with hg; subst hg; simp))
          replace HB := Lib.hid (HB.out.trans (hb.mono (by simp)))
          replace HACC := Lib.hid (HACC.out.below hb)
          clear hb hown
          go_wp2_with fail
          go_loopw [11, 14] (fun v i wr => ∃ (k : Nat), k ≤ en.length ∧ i = .int .i64 k ∧ Own wr w.heap.size 9 1 encS v (accF l (2 - pl.length) (pl.map tx) en k) ∧ Hid (Below w.heap.size w wr) ∧ Hid (Sl wr encE 2 X en) ∧ Hid (Apart X v) ∧ w2.heap.size ≤ wr.heap.size) (fun _ i _ => en.length - (intOf i).toNat)
          case atStart => exact ⟨0, Nat.zero_le _, rfl, HACC.out, HB.out, HSX.out, HAX.out, Nat.le_refl _⟩
          case round =>
            obtain ⟨k, hk, rfl, hown, HBW, HXW, HAW, hzw⟩ := hrel
            have HWW := Lib.hid hown
            clear hown
            by_cases hlt : k < en.length
            · have hlt' : (k : Int) < (en.length : Int) := by omega
              obtain ⟨b, o, rfl, hc0, hc1⟩ := HXW.out.getE hlt
              have HSW := Lib.hid (HS.out.below HBW.out)
              have HPW := Lib.hid (HPS.out.below HBW.out)
              have hysz := entOk_size (HOK.out _ (List.getElem_mem hlt))
              have HN := Lib.hid (HNX.out k hlt)
              have hla := HLA.out k
              have hIH := fun PA pc pl2 w h => HI.out en[k].2 PA pc pl2 w h
              generalize en[k] = y at *
              obtain ⟨t, a⟩ := y
              simp only at hc0 hc1 hysz
              have hspl := specF_len l a (pl.map tx ++ [tx t])
              have hFM : ((specF l a (pl.map tx ++ [tx t])).map mk).length ≤ 27 := by rw [List.length_map]; exact hspl
              have hIH2 : ∀ (PA : Option Addr) (pc : Nat) (w : World), Sl w encP 2 A l → Sl w encS 1 PA (pl ++ [t]) → (PA = none → pc = 0) → Calls Tryz.prog 48 #[.slice A l.length c, .int .i64 a, .slice PA (pl.length + 1) pc] w (OwnRes 9 1 encS ((specF l a (pl.map tx ++ [tx t])).map mk) w) := fun PA pc w h1 h2 h3 => by
                have h := hIH PA pc (pl ++ [t]) w (by simp) h1 h2 h3 (fun x hx => by
                  rw [List.mem_append, List.mem_singleton] at hx
                  rcases hx with hx | rfl
                  · exact HSZ.out x hx
                  · exact hysz)
                rw [show (pl ++ [t]).map tx = pl.map tx ++ [tx t] by simp, show (pl ++ [t]).length = pl.length + 1 by simp] at h
                exact h
              rw [show tx (t, a).1 = tx t from rfl, show (t, a).2 = a from rfl] at HN
              generalize (specF l a (pl.map tx ++ [tx t])).map mk = FM at *
              unfold OwnRes at hIH2
              have HIX := Lib.hid hIH2
              have HL2 := Lib.hid (show pl.length ≤ 16777216 by omega)
              have HL1 := Lib.hid (show ([] : List ByteArray).length + pl.length ≤ 33554432 by simp; omega)
              have hpw : 3 ^ (2 - pl.length) ≤ 9 := Nat.pow_le_pow_right (n := 3) (by omega) (show 2 - pl.length ≤ 2 by omega)
              have HL3 := Lib.hid (show (accF l (2 - pl.length) (pl.map tx) en k).length + FM.length ≤ 33554432 by omega)
              clear hIH2 hIH hla hspl hFM hpw
              have HCE := Lib.hid (show CellE wr b (o + k * 2) (t, a) from ⟨hc0, hc1⟩)
              have HB0 := Lib.hid (Below.refl wr.heap.size wr).drew
              have HBa := Lib.hid ((Below.refl wr.heap.size wr).alloc (Nat.le_refl _) (.cells #[] 9)).drew
              have HBb := Lib.hid ((Below.refl wr.heap.size wr).alloc (Nat.le_refl _) (rowS t)).drew
              have HBab := Lib.hid (HBa.out.alloc HBa.out.size (rowS t))
              have HBba := Lib.hid (HBb.out.alloc HBb.out.size (.cells #[] 9))
              have HOa := Lib.hid (Own.made (w := wr) (base := wr.heap.size) (enc := encS) (E := 9) (size := 1) (Nat.le_refl wr.heap.size)).drew
              have HOab := Lib.hid (HOa.out.alloc (rowS t))
              have HOba := Lib.hid (own_one wr t)
              have HPa := Lib.hid (HPW.out.below HBa.out)
              have HPab := Lib.hid (HPW.out.below HBab.out)
              have HPba := Lib.hid (HPW.out.below HBba.out)
              have HTab := Lib.hid (strAt_one wr t)
              have HTb := Lib.hid (show StrAt (wr.alloc (rowS t)).drew wr.heap.size t from StrAt.new wr t)
              have HTba := Lib.hid (HTb.out.below ((Below.refl _ _).alloc (Nat.le_refl _) (.cells #[] 9)))
              go_wp2_with fail
              go_region_held3 (fun w' => w'.cell? ⟨b, o + k * 2, none⟩ = some (.string t) ∧ w'.cell? ⟨b, o + k * 2 + 1, none⟩ = some (.int .i64 a))
                (first | assumption | exact HCE.out | exact HCE.out.below HB0.out | exact HCE.out.below HBa.out | exact HCE.out.below HBb.out | exact HCE.out.below HBab.out | exact HCE.out.below HBba.out | exact HCE.out.below HB7.out | exact HCE.out.below HB7b.out | exact HCE.out.below HB8.out | exact HCE.out.below HB9.out | exact HCA.out)
                ((first
                  | (refine step_strK (w0 := wr) (by rfl) rfl HOa.out HBa.out HL1.out HPa.out HCZ.out (by rfl) (by rfl) ?_; intro v7 w7 hown7 hb7 hg7 hk7; have HW7 := Lib.hid ((show Own w7 wr.heap.size 9 1 encS v7 pl from hown7).alloc (rowS t)); have HB7 := Lib.hid hb7; have HB7b := Lib.hid (hb7.alloc hb7.size (rowS t)); have HT7 := Lib.hid (StrAt.new w7 t); clear hown7 hb7 hg7 hk7)
                  | (refine step_strK (w0 := wr) (by rfl) rfl HOab.out HBab.out HL1.out HPab.out HCZ.out (by rfl) (by rfl) ?_; intro v7 w7 hown7 hb7 hg7 hk7; have HW7 := Lib.hid (show Own w7 wr.heap.size 9 1 encS v7 pl from hown7); have HB7b := Lib.hid hb7; have HT7 := Lib.hid (hg7.cell (by intro e; injection e with e; simp at e) HTab.out); clear hown7 hb7 hg7 hk7)
                  | (refine step_strK (w0 := wr) (by rfl) rfl HOba.out HBba.out HL1.out HPba.out HCZ.out (by rfl) (by rfl) ?_; intro v7 w7 hown7 hb7 hg7 hk7; have HW7 := Lib.hid (show Own w7 wr.heap.size 9 1 encS v7 pl from hown7); have HB7b := Lib.hid hb7; have HT7 := Lib.hid (hg7.cell (by intro e; injection e with e; simp at e) HTba.out); clear hown7 hb7 hg7 hk7)
                  | (refine step_str_d (w0 := wr) HW7.out HB7b.out HT7.out HL2.out (by rfl) rfl (by rfl) (by rfl) ?_; intro v8 w8 hown8 hb8; obtain ⟨X8, d8, e8, hle8, hs8, _⟩ := hown8.sl; rw [List.length_append, List.length_singleton] at e8; subst e8; have HS8 := Lib.hid hs8; have HC8 := Lib.hid hown8.cz; have HB8 := Lib.hid hb8; clear hown8 hb8 hs8)
                  | (go_at_call 48; refine (HIX.out _ _ _ (HSW.out.below HB8.out) HS8.out HC8.out).mono ?_; rintro e w9 ⟨v9, rfl, hown9, hb9⟩; obtain ⟨X9, d9, rfl, hle9, hs9, _⟩ := hown9.sl; have HS9 := Lib.hid hs9; have HC9 := Lib.hid hown9.cz; have HB9 := Lib.hid (Below_then HB8.out hb9 (Nat.le_refl _)); have HWA := Lib.hid (HWW.out.below HB9.out); have HBW9 := Lib.hid (Below_then HBW.out HB9.out (Nat.le_refl _)); have HXW9 := Lib.hid (HXW.out.below HB9.out); have HLX9 := Lib.hid (HLX.out.mono (Nat.le_trans hzw HB9.out.size)); have HZ9 := Lib.hid (Nat.le_trans hzw HB9.out.size); clear hown9 hb9 hs9)
                  | (refine step_strK (w0 := w) (by rfl) rfl HWA.out HBW9.out HL3.out HS9.out HC9.out (by rfl) (by rfl) ?_; intro vA wA hownA hbA hgA hkA; have HWF := Lib.hid hownA; have HBF := Lib.hid hbA; have HXF := Lib.hid (HXW9.out.grew hgA HAW.out); have HCA := Lib.hid ((HCE.out.below HB9.out).grew hgA (HAW.out b o rfl)); have HPF := Lib.hid (HAW.out.kin HLX9.out hkA); have HZF := Lib.hid (Nat.le_trans HZ9.out hgA.size); clear hownA hbA hgA hkA)))
              all_goals
                go_wp2
                go_roundw
                case rel => exact ⟨k + 1, by omega, by go_num, by rw [HN.out]; exact HWF.out, HBF.out, HXF.out, HPF.out, HZF.out⟩
                case measure => simp [intOf]; omega
            · have hlt' : ¬ (k : Int) < (en.length : Int) := by omega
              have hke : k = en.length := by omega
              subst hke
              go_wp2
              go_ret
              exact ⟨_, rfl, HWW.out, HBW.out⟩
theorem sl11_all (A : Option Addr) (c : Nat) (l : List Pc) (hv : storeV l = true) : ∀ (f : Nat) (pl : List ByteArray), pl.length + f = 3 → ∀ (p : Int) (PA : Option Addr) (pc : Nat) (w : World), L11 A c l p PA pc pl w
  | 0, pl, hf, p, PA, pc, w => sl11_step A c l hv pl (by omega) (fun h => by omega) p PA pc w
  | f + 1, pl, hf, p, PA, pc, w => sl11_step A c l hv pl (by omega) (fun h p2 PA2 pc2 pl2 w2 h2 => sl11_all A c l hv f pl2 (by omega) p2 PA2 pc2 w2) p PA pc w
set_option maxHeartbeats 4000000 in
set_option maxRecDepth 100000 in
theorem sAllFiles_any (A : Option Addr) (c : Nat) (l : List Pc) (root : Int) (w : World) (hs : Sl w encP 2 A l) (hl : l.length ≤ 16777216) (hf : FitP l) :
    Calls Tryz.prog 26 #[.slice A l.length c, .int .i64 root] w (OwnRes 9 1 encS ((allF l root).map mk) w) := by
  have HS := Lib.hid hs
  have hSV := fun w h => sStoreValid_any A c l w h hl hf
  have HB := Lib.hid (Below.refl w.heap.size w)
  clear hs
  unfold allF
  cases hv : storeV l
  · rw [hv] at hSV
    rw [if_neg (by simp)]
    have HSV := Lib.hid hSV
    clear hSV hv
    go_enter Tryz.func26, Tryz.ntmps26
    go_wp2_with fail
    refine (HSV.out _ HS.out).mono ?_
    rintro e w1 ⟨rfl, hb⟩
    replace HB := Lib.hid (Below_then HB.out hb (Nat.le_refl _))
    clear hb
    have HW := Lib.hid (Own.made (enc := encS) (E := 9) (size := 1) HB.out.size)
    have HB2 := Lib.hid (HB.out.alloc HB.out.size (.cells #[] 9))
    go_wp2
    go_ret
    exact ⟨_, rfl, HW.out, HB2.out⟩
  · rw [if_pos rfl, ← specF_root]
    have hN := fun PA w => sl11_all A c l hv 3 [] rfl root PA 0 w
    unfold L11 at hN
    rw [show ([] : List ByteArray).map tx = [] from rfl] at hN
    rw [hv] at hSV
    generalize (specF l root []).map mk = FM at *
    have HSV := Lib.hid hSV
    have HN := Lib.hid hN
    clear hSV hv hN
    go_enter Tryz.func26, Tryz.ntmps26
    go_wp2_with fail
    refine (HSV.out _ HS.out).mono ?_
    rintro e w1 ⟨rfl, hb⟩
    replace HB := Lib.hid (Below_then HB.out hb (Nat.le_refl _))
    replace HS := Lib.hid (HS.out.below hb)
    clear hb
    have HB2 := Lib.hid (HB.out.alloc HB.out.size (.cells #[] 9))
    have HS2 := Lib.hid (HS.out.alloc (.cells #[] 9))
    go_wp2_with fail
    refine (HN.out _ _ HS2.out Sl.none_ (by intro h; cases h) (by intro x hx; cases hx)).mono ?_
    rintro e w2 ⟨v2, rfl, hown2, hb2⟩
    have HW2 := Lib.hid (hown2.mono HB2.out.size)
    have HB3 := Lib.hid (Below_then HB2.out hb2 (Nat.le_refl _))
    clear hown2 hb2
    go_wp2
    go_ret
    exact ⟨_, rfl, HW2.out, HB3.out⟩
end Go.Proofs.YtaeaccakkielmaaGreatDoor

/- UsedBelow of both. -/
set_option linter.unusedVariables false
namespace Go.Proofs.YtaeaccakkielmaaGreatDoor
open Go.RowKit
set_option maxHeartbeats 8000000 in
set_option maxRecDepth 100000 in
theorem sUsedBelow_any (A : Option Addr) (c : Nat) (l : List Pc) (root : Int) (path : ByteArray) (w : World) (hs : Sl w encP 2 A l) (hl : l.length ≤ 16777216) (hf : FitP l) (hp : path.size ≤ 1048576) :
    Calls Tryz.prog 7 #[.slice A l.length c, .int .i64 root, .string path] w fun e w' => e = .returned (.int .i64 (usedP l root (bs path))) ∧ Below w.heap.size w w' := by
  have HS := Lib.hid hs
  have HB := Lib.hid (Below.refl w.heap.size w)
  have hP := fun w => sPathParts_any path w hp
  have hSV := fun w h => sStoreValid_any A c l w h hl hf
  unfold PathR at hP
  generalize hPL : ((pathP (bs path)).getD []).map mk = PL at *
  clear hPL hs
  cases hpp : (pathP (bs path)).isSome
  · have HR := Lib.hid (usedP_path (s := l) (root := root) hpp)
    rw [hpp] at hP
    generalize usedP l root (bs path) = R at *
    have HP := Lib.hid hP
    clear hP hSV hpp
    go_enter Tryz.func7, Tryz.ntmps7
    go_wp2_with fail
    refine (HP.out _).mono ?_
    rintro e w' ⟨v, rfl, hown, hb⟩
    obtain ⟨X_P, d_P, rfl, hle_P, hs_, _⟩ := hown.sl
    have HO_P := Lib.hid (hown.mono HB.out.size)
    have HS_P := Lib.hid hs_
    have HC_P := Lib.hid hown.cz
    clear hs_ hown
    replace HB := Lib.hid (Below_then HB.out hb (Nat.le_refl _))
    replace HS := Lib.hid (HS.out.below hb)
    clear hb
    go_wp2
    go_ret
    exact ⟨ret_int HR.out.symm, HB.out⟩
  · cases hv : storeV l
    · have HR := Lib.hid (usedP_store (root := root) (path := bs path) hv)
      rw [hpp] at hP
      rw [hv] at hSV
      generalize usedP l root (bs path) = R at *
      have HP := Lib.hid hP
      have HSV := Lib.hid hSV
      clear hP hSV hpp hv
      go_enter Tryz.func7, Tryz.ntmps7
      go_wp2_with fail
      refine (HP.out _).mono ?_
      rintro e w' ⟨v, rfl, hown, hb⟩
      obtain ⟨X_P, d_P, rfl, hle_P, hs_, _⟩ := hown.sl
      have HO_P := Lib.hid (hown.mono HB.out.size)
      have HS_P := Lib.hid hs_
      have HC_P := Lib.hid hown.cz
      clear hs_ hown
      replace HB := Lib.hid (Below_then HB.out hb (Nat.le_refl _))
      replace HS := Lib.hid (HS.out.below hb)
      clear hb
      go_wp2_with fail
      refine (HSV.out _ HS.out).mono ?_
      rintro e w' ⟨rfl, hb⟩
      replace HB := Lib.hid (Below_then HB.out hb (Nat.le_refl _))
      replace HS := Lib.hid (HS.out.below hb)
      clear hb
      go_wp2
      go_ret
      exact ⟨ret_int HR.out.symm, HB.out⟩
    · have hA := fun w h => sAllFiles_any A c l root w h hl hf
      unfold OwnRes at hA
      rw [show (allF l root).map mk = filesB l root from rfl] at hA
      have hn27 := filesB_len l root
      have HSZ := Lib.hid (filesB_size l root)
      have HY := Lib.hid (fun k hk h => @useUpto_yes l root (bs path) (filesB l root) k hk h)
      have HN := Lib.hid (fun k hk h => @useUpto_no l root (bs path) (filesB l root) k hk h)
      have HBD := Lib.hid (useUpto_bd l root (bs path) (filesB l root))
      have HAL := Lib.hid (fun k hk => useUpto_all (root := root) (k := k) hpp hv hk)
      have HRA := Lib.hid (fun p w h hp => sReadAt_any A c l root p w h hl hf hp)
      have HPB := Lib.hid (fun p w h => sPathBelow_any p path w h hp)
      have HU0 := Lib.hid (useUpto_zero l root (bs path) (filesB l root))
      rw [hpp] at hP
      rw [hv] at hSV
      generalize usedP l root (bs path) = R at *
      generalize useUpto l root (bs path) (filesB l root) = U at *
      generalize filesB l root = F at *
      have HP := Lib.hid hP
      have HSV := Lib.hid hSV
      have HA := Lib.hid hA
      clear hP hSV hpp hv hA
      go_enter Tryz.func7, Tryz.ntmps7
      go_wp2_with fail
      refine (HP.out _).mono ?_
      rintro e w' ⟨v, rfl, hown, hb⟩
      obtain ⟨X_P, d_P, rfl, hle_P, hs_, _⟩ := hown.sl
      have HO_P := Lib.hid (hown.mono HB.out.size)
      have HS_P := Lib.hid hs_
      have HC_P := Lib.hid hown.cz
      clear hs_ hown
      replace HB := Lib.hid (Below_then HB.out hb (Nat.le_refl _))
      replace HS := Lib.hid (HS.out.below hb)
      clear hb
      go_wp2_with fail
      refine (HSV.out _ HS.out).mono ?_
      rintro e w' ⟨rfl, hb⟩
      replace HB := Lib.hid (Below_then HB.out hb (Nat.le_refl _))
      replace HS := Lib.hid (HS.out.below hb)
      clear hb
      go_wp2_with fail
      refine (HA.out _ HS.out).mono ?_
      rintro e w3 ⟨v, rfl, hown, hb⟩
      obtain ⟨X_F, d_F, rfl, hle_F, hs_, _⟩ := hown.sl
      have HO_F := Lib.hid (hown.mono HB.out.size)
      have HS_F := Lib.hid hs_
      have HC_F := Lib.hid hown.cz
      clear hs_ hown
      replace HB := Lib.hid (Below_then HB.out hb (Nat.le_refl _))
      replace HS := Lib.hid (HS.out.below hb)
      clear hb
      go_wp2_with fail
      go_loopw [9, 11] (fun s i wr => ∃ (k : Nat), k ≤ F.length ∧ i = .int .i64 k ∧ s = .int .i64 (U k) ∧ Hid (Below w3.heap.size w3 wr)) (fun _ i _ => F.length - (intOf i).toNat)
      case atStart => exact ⟨0, Nat.zero_le _, rfl, by rw [HU0.out], Below.refl _ _⟩
      case round =>
        obtain ⟨k, hk, rfl, rfl, HBW⟩ := hrel
        have HBA := Lib.hid (Below_then HB.out HBW.out (Nat.le_refl _))
        by_cases hlt : k < F.length
        · have hlt' : (k : Int) < (F.length : Int) := by omega
          obtain ⟨b, o, rfl, hc⟩ := (HS_F.out.below HBW.out).getS hlt
          have HSW := Lib.hid (HS.out.below HBW.out)
          have hz := HSZ.out _ (List.getElem_mem hlt)
          obtain ⟨hU1, hU2⟩ := HBD.out k hk
          have hU3 : U k ≤ 1080 := by omega
          have hy := HY.out k hlt
          have hn := HN.out k hlt
          have hPB := fun w => HPB.out F[k] w (by omega)
          have hRA := fun w h => HRA.out F[k] w h (by omega)
          have hrl := readAt_len l root (bs F[k])
          unfold FoRes at hRA
          generalize F[k] = x at *
          cases hbl : belowP (bs x) (bs path)
          · have HNX := Lib.hid (hn hbl)
            rw [hbl] at hPB
            have HPX := Lib.hid hPB
            clear hn hy hbl hPB hRA hrl
            go_wp2_with fail
            refine (HPX.out _).mono ?_
            rintro e w4 ⟨rfl, hb⟩
            replace HBW := Lib.hid (Below_then HBW.out hb (Nat.le_refl _))
            clear hb hc
            go_wp2
            go_roundw
            case rel => exact ⟨k + 1, by omega, by go_num, by rw [HNX.out], HBW.out⟩
            case measure => simp [intOf]; omega
          · have hy2 := hy hbl
            rw [hbl] at hPB
            rw [← mk_size] at hrl
            generalize mk ((readAt l root (bs x)).getD []) = CT at *
            generalize (readAt l root (bs x)).isSome = okr at *
            have HPX := Lib.hid hPB
            have HRX := Lib.hid hRA
            have HYX := Lib.hid hy2
            clear hn hy hbl hPB hRA hy2
            go_wp2_with fail
            refine (HPX.out _).mono ?_
            rintro e w4 ⟨rfl, hb⟩
            replace HBW := Lib.hid (Below_then HBW.out hb (Nat.le_refl _))
            replace HSW := Lib.hid (HSW.out.below hb)
            have hc4 := Below_cells hb _ _ _ hc
            clear hb hc
            go_wp2_with fail
            refine (HRX.out _ HSW.out).mono ?_
            rintro e w5 ⟨rfl, hb⟩
            replace HBW := Lib.hid (Below_then HBW.out hb (Nat.le_refl _))
            clear hb hc4
            go_wp2
            go_roundw
            case rel => exact ⟨k + 1, by omega, by go_num, by rw [HYX.out], HBW.out⟩
            case measure => simp [intOf]; omega
        · have HE := Lib.hid (HAL.out k (by omega))
          have hlt' : ¬ (k : Int) < (F.length : Int) := by omega
          go_wp2
          go_ret
          exact ⟨ret_int HE.out, HBA.out⟩
set_option maxHeartbeats 8000000 in
set_option maxRecDepth 100000 in
theorem iUsedBelow_any (A : Option Addr) (c : Nat) (l : List Pc) (root : Int) (path : ByteArray) (w : World) (hs : Sl w encP 2 A l) (hl : l.length ≤ 16777216) (hf : FitP l) (hp : path.size ≤ 1048576) (ht : TzL w) (hm : MaxL w) :
    Calls Tryz.prog 9 #[.slice A l.length c, .int .i64 root, .string path] w fun e w' => e = .returned (.int .i64 (usedP l root (bs path))) ∧ Below w.heap.size w w' := by
  have HS := Lib.hid hs
  have HT := Lib.hid ht
  have HM := Lib.hid hm
  have HB := Lib.hid (Below.refl w.heap.size w)
  have hP := fun w h => iPathParts_any path w hp h
  have hSV := fun w h => iStoreValid_any A c l w h hl hf
  unfold PathI at hP
  clear hs ht hm
  cases hpp : (pathP (bs path)).isSome
  · have HR := Lib.hid (usedP_path (s := l) (root := root) hpp)
    rw [hpp] at hP
    generalize usedP l root (bs path) = R at *
    have HP := Lib.hid hP
    clear hP hSV hpp
    go_enter Tryz.func9, Tryz.ntmps9
    go_wp2_with fail
    refine (HP.out _ HM.out).mono ?_
    rintro e w1 ⟨v, rfl, hb⟩
    replace HB := Lib.hid (Below_then HB.out hb (Nat.le_refl _))
    clear hb
    go_wp2
    go_ret
    exact ⟨ret_int HR.out.symm, HB.out⟩
  · cases hv : storeV l
    · have HR := Lib.hid (usedP_store (root := root) (path := bs path) hv)
      rw [hpp] at hP
      rw [hv] at hSV
      generalize usedP l root (bs path) = R at *
      have HP := Lib.hid hP
      have HSV := Lib.hid hSV
      clear hP hSV hpp hv
      go_enter Tryz.func9, Tryz.ntmps9
      go_wp2_with fail
      refine (HP.out _ HM.out).mono ?_
      rintro e w1 ⟨v, rfl, hb⟩
      replace HB := Lib.hid (Below_then HB.out hb (Nat.le_refl _))
      replace HS := Lib.hid (HS.out.below hb)
      clear hb
      go_wp2_with fail
      refine (HSV.out _ HS.out).mono ?_
      rintro e w' ⟨rfl, hb⟩
      replace HB := Lib.hid (Below_then HB.out hb (Nat.le_refl _))
      replace HS := Lib.hid (HS.out.below hb)
      clear hb
      go_wp2
      go_ret
      exact ⟨ret_int HR.out.symm, HB.out⟩
    · have hA := fun w h h2 h3 => iAllFiles_any A c l root w h hl hf h2 h3
      unfold OwnRes at hA
      rw [show (allF l root).map mk = filesB l root from rfl] at hA
      have hn27 := filesB_len l root
      have HSZ := Lib.hid (filesB_size l root)
      have HY := Lib.hid (fun k hk h => @useUpto_yes l root (bs path) (filesB l root) k hk h)
      have HN := Lib.hid (fun k hk h => @useUpto_no l root (bs path) (filesB l root) k hk h)
      have HBD := Lib.hid (useUpto_bd l root (bs path) (filesB l root))
      have HAL := Lib.hid (fun k hk => useUpto_all (root := root) (k := k) hpp hv hk)
      have HRA := Lib.hid (fun p w h hp h2 h3 => iReadAt_any A c l root p w h hl hf hp h2 h3)
      have HPB := Lib.hid (fun p w h h2 => iPathBelow_any p path w h hp h2)
      have HU0 := Lib.hid (useUpto_zero l root (bs path) (filesB l root))
      rw [hpp] at hP
      rw [hv] at hSV
      generalize usedP l root (bs path) = R at *
      generalize useUpto l root (bs path) (filesB l root) = U at *
      generalize filesB l root = F at *
      have HP := Lib.hid hP
      have HSV := Lib.hid hSV
      have HA := Lib.hid hA
      clear hP hSV hpp hv hA
      go_enter Tryz.func9, Tryz.ntmps9
      go_wp2_with fail
      refine (HP.out _ HM.out).mono ?_
      rintro e w1 ⟨v, rfl, hb⟩
      replace HB := Lib.hid (Below_then HB.out hb (Nat.le_refl _))
      replace HS := Lib.hid (HS.out.below hb)
      replace HT := Lib.hid (HT.out.below hb)
      replace HM := Lib.hid (HM.out.below hb)
      clear hb
      go_wp2_with fail
      refine (HSV.out _ HS.out).mono ?_
      rintro e w' ⟨rfl, hb⟩
      replace HB := Lib.hid (Below_then HB.out hb (Nat.le_refl _))
      replace HS := Lib.hid (HS.out.below hb)
      replace HT := Lib.hid (HT.out.below hb)
      replace HM := Lib.hid (HM.out.below hb)
      clear hb
      go_wp2_with fail
      refine (HA.out _ HS.out HT.out HM.out).mono ?_
      rintro e w3 ⟨v, rfl, hown, hb⟩
      obtain ⟨X_F, d_F, rfl, hle_F, hs_, _⟩ := hown.sl
      have HO_F := Lib.hid (hown.mono HB.out.size)
      have HS_F := Lib.hid hs_
      have HC_F := Lib.hid hown.cz
      clear hs_ hown
      replace HB := Lib.hid (Below_then HB.out hb (Nat.le_refl _))
      replace HS := Lib.hid (HS.out.below hb)
      replace HT := Lib.hid (HT.out.below hb)
      replace HM := Lib.hid (HM.out.below hb)
      clear hb
      go_wp2_with fail
      go_loopw [9, 30] (fun s i wr => ∃ (k : Nat), k ≤ F.length ∧ i = .int .i64 k ∧ s = .int .i64 (U k) ∧ Hid (Below w3.heap.size w3 wr)) (fun _ i _ => F.length - (intOf i).toNat)
      case atStart => exact ⟨0, Nat.zero_le _, rfl, by rw [HU0.out], Below.refl _ _⟩
      case round =>
        obtain ⟨k, hk, rfl, rfl, HBW⟩ := hrel
        have HBA := Lib.hid (Below_then HB.out HBW.out (Nat.le_refl _))
        by_cases hlt : k < F.length
        · have hlt' : (k : Int) < (F.length : Int) := by omega
          obtain ⟨b, o, rfl, hc⟩ := (HS_F.out.below HBW.out).getS hlt
          have HSW := Lib.hid (HS.out.below HBW.out)
          have HTW := Lib.hid (HT.out.below HBW.out)
          have HMW := Lib.hid (HM.out.below HBW.out)
          have hz := HSZ.out _ (List.getElem_mem hlt)
          obtain ⟨hU1, hU2⟩ := HBD.out k hk
          have hU3 : U k ≤ 1080 := by omega
          have hy := HY.out k hlt
          have hn := HN.out k hlt
          have hPB := fun w h => HPB.out F[k] w (by omega) h
          have hRA := fun w h h2 h3 => HRA.out F[k] w h (by omega) h2 h3
          have hrl := readAt_len l root (bs F[k])
          unfold FoRes at hRA
          generalize F[k] = x at *
          cases hbl : belowP (bs x) (bs path)
          · have HNX := Lib.hid (hn hbl)
            rw [hbl] at hPB
            have HPX := Lib.hid hPB
            clear hn hy hbl hPB hRA hrl
            go_wp2_with fail
            refine (HPX.out _ HMW.out).mono ?_
            rintro e w4 ⟨rfl, hb⟩
            replace HBW := Lib.hid (Below_then HBW.out hb (Nat.le_refl _))
            clear hb hc
            go_wp2
            go_roundw
            case rel => exact ⟨k + 1, by omega, by go_num, by rw [HNX.out], HBW.out⟩
            case measure => simp [intOf]; omega
          · have hy2 := hy hbl
            rw [hbl] at hPB
            rw [← mk_size] at hrl
            generalize mk ((readAt l root (bs x)).getD []) = CT at *
            generalize (readAt l root (bs x)).isSome = okr at *
            have HPX := Lib.hid hPB
            have HRX := Lib.hid hRA
            have HYX := Lib.hid hy2
            clear hn hy hbl hPB hRA hy2
            go_wp2_with fail
            refine (HPX.out _ HMW.out).mono ?_
            rintro e w4 ⟨rfl, hb⟩
            replace HBW := Lib.hid (Below_then HBW.out hb (Nat.le_refl _))
            replace HSW := Lib.hid (HSW.out.below hb)
            replace HTW := Lib.hid (HTW.out.below hb)
            replace HMW := Lib.hid (HMW.out.below hb)
            clear hb hc
            go_wp2_with fail
            refine (HRX.out _ HSW.out HTW.out HMW.out).mono ?_
            rintro e w5 ⟨rfl, hb⟩
            replace HBW := Lib.hid (Below_then HBW.out hb (Nat.le_refl _))
            clear hb
            go_wp2
            go_roundw
            case rel => exact ⟨k + 1, by omega, by go_num, by rw [HYX.out], HBW.out⟩
            case measure => simp [intOf]; omega
        · have HE := Lib.hid (HAL.out k (by omega))
          have hlt' : ¬ (k : Int) < (F.length : Int) := by omega
          go_wp2
          go_ret
          exact ⟨ret_int HE.out, HBA.out⟩
end Go.Proofs.YtaeaccakkielmaaGreatDoor

/- Words of the reference; common words. -/
set_option linter.unusedVariables false
namespace Go.Proofs.YtaeaccakkielmaaGreatDoor
open Go.RowKit

/-- What the reference has come to behind k bytes (the end counts as one more). -/
def wsAt (s : Bs) (k : Nat) : List Bs × Bs := if k ≤ s.length then wrun [] [] (s.take k) else (wordsOf s, [])
theorem wsAt_zero (s : Bs) : wsAt s 0 = ([], []) := by unfold wsAt; rw [if_pos (Nat.zero_le _)]; rfl
theorem wsAt_step {s : Bs} {k : Nat} (hk : k < s.length) : wsAt s (k + 1) = if s[k] = 32 then (addW (wsAt s k).1 (wsAt s k).2, []) else ((wsAt s k).1, (wsAt s k).2 ++ [s[k]]) := by
  unfold wsAt
  rw [if_pos (show k + 1 ≤ s.length by omega), if_pos (show k ≤ s.length by omega), List.take_succ_eq_append_getElem hk, wrun_snoc]
theorem wsAt_end {s : Bs} (hv : textV s = true) : wsAt s (s.length + 1) = (addW (wsAt s s.length).1 (wsAt s s.length).2, []) := by
  have e : wsAt s s.length = wrun [] [] s := by unfold wsAt; rw [if_pos (Nat.le_refl _), List.take_length]
  rw [e, wrun_spl]
  unfold wsAt wordsOf
  rw [if_neg (by omega), if_pos hv]
theorem wsAt_all (s : Bs) : wsAt s (s.length + 1) = (wordsOf s, []) := by unfold wsAt; rw [if_neg (by omega)]
theorem hasS_upto {fs : List ByteArray} {x : ByteArray} {j : Nat} (h : j < fs.length) : hasS (fs.take (j + 1)) x = (hasS (fs.take j) x || (bs fs[j] == bs x)) := by
  unfold hasS; rw [List.take_succ_eq_append_getElem h, List.any_append]
  have e : (bs x == bs fs[j]) = (bs fs[j] == bs x) := by rw [Bool.eq_iff_iff, beq_iff_eq, beq_iff_eq]; exact eq_comm
  simp only [List.any_cons, List.any_nil, Bool.or_false, e]
theorem ext_one {s : ByteArray} {k : Nat} (hk : k < s.size) (l : Bs) : mk l ++ s.extract k (k + 1) = mk (l ++ [s[k]]) := by
  apply ByteArray.ext
  apply Array.ext'
  show ((mk l ++ s.extract k (k + 1)).data).toList = _
  rw [ByteArray.data_append, Array.toList_append, Lib.extract_data]
  show l ++ _ = l ++ [s[k]]
  congr 1
  rw [show k + 1 - k = 1 from by omega]
  have hk' : k < s.data.toList.length := by simpa using hk
  rw [List.take_one, List.head?_drop, List.getElem?_eq_getElem hk']; rfl
set_option maxHeartbeats 8000000 in
set_option maxRecDepth 100000 in
theorem sWordsOf_any (s : ByteArray) (w : World) (hs : s.size ≤ 16777216) :
    Calls Tryz.prog 36 #[.string s] w (OwnRes 9 1 encS (wordsB s) w) := by
  have hTV := fun w => sTextValid_any s w hs
  cases hv : textV (bs s)
  · have e : wordsB s = [] := by unfold wordsB wordsOf; rw [hv]; rfl
    rw [e]
    rw [hv] at hTV
    have HTV := Lib.hid hTV
    clear hTV hv e
    go_enter Tryz.func36, Tryz.ntmps36
    go_wp2_with fail
    go_loopw [3, 5] (fun v i wr => v = .slice (some ⟨w.heap.size, 0, none⟩) 0 0 ∧ i = .int .i64 0 ∧ wr = w.alloc (.cells #[] 9)) (fun _ _ _ => 0)
    case atStart => exact ⟨rfl, rfl, rfl⟩
    case round =>
      obtain ⟨rfl, rfl, rfl⟩ := hrel
      go_wp2_with (go_at_call 46; refine (HTV.out _).mono ?_; rintro e w' ⟨rfl, rfl⟩)
      go_ret
      exact ⟨_, rfl, Own.made (Nat.le_refl _), (Below.refl _ _).alloc (Nat.le_refl _) _⟩
  · have hsz : s.size ≤ 60 := textV_size hv
    rw [hv] at hTV
    have HTV := Lib.hid hTV
    have HEND := Lib.hid (wsAt_end hv)
    have HALL := Lib.hid (wsAt_all (bs s))
    clear hTV hv
    go_enter Tryz.func36, Tryz.ntmps36
    go_wp2_with fail
    go_loopw [3, 4, 5] (fun v wd i wr => ∃ (k : Nat) (acc : List Bs) (wl : Bs) (ab : List ByteArray), k ≤ s.size + 1 ∧ i = .int .i64 k ∧ wd = .string (mk wl) ∧ wl.length ≤ k ∧ ab.length ≤ k ∧ Hid (wsAt (bs s) k = (acc, wl)) ∧ Hid (ab = acc.map mk) ∧ Own wr w.heap.size 9 1 encS v ab ∧ Below w.heap.size w wr) (fun _ _ i _ => s.size + 1 - (intOf i).toNat)
    case atStart => exact ⟨0, [], [], [], by omega, rfl, rfl, by simp, by simp, wsAt_zero _, rfl, Own.made (Nat.le_refl _), (Below.refl _ _).alloc (Nat.le_refl _) _⟩
    case round =>
      obtain ⟨k, acc, wl, ab, hk, rfl, rfl, hwl, hal, hst, hab, hown, hb⟩ := hrel
      obtain ⟨X, d, rfl, _, hsx, _⟩ := hown.sl
      have HW := Lib.hid hown
      have HSX := Lib.hid hsx
      have HB := Lib.hid hb
      clear hown hsx hb
      by_cases hle : k ≤ s.size
      · by_cases hch : ∃ h : k < s.size, s[k] ≠ 32
        · obtain ⟨hlt, hne⟩ := hch
          have hst2 := wsAt_step (s := bs s) (k := k) hlt
          rw [get_bs s k hlt, if_neg hne, hst.out] at hst2
          have HST2 := Lib.hid hst2
          have hcn : ((s[k].toNat : Int) == 32) = false := by
            rw [beq_eq_false_iff_ne]; intro e; apply hne; apply UInt8.toNat_inj.1; have : s[k].toNat = 32 := by omega
            rw [this]; rfl
          have hcn2 : ((s[k].toNat : Int) != 32) = true := by rw [bne, hcn]; rfl
          have z1 : (mk wl).size ≤ 100 := by rw [mk_size]; omega
          have z2 : (s.extract k (k + 1)).size ≤ 1 := by simp; omega
          have HEX := Lib.hid (ext_one hlt wl)
          clear hst2 hne
          go_wp2_with (go_at_call 46; refine (HTV.out _).mono ?_; rintro e w' ⟨rfl, rfl⟩)
          go_roundw
          case rel => exact ⟨k + 1, acc, wl ++ [s[k]], ab, by omega, by go_num, by rw [HEX.out], by simp; omega, by omega, HST2.out, hab, HW.out, HB.out⟩
          case measure => simp [intOf]; omega
        · have hnx : wsAt (bs s) (k + 1) = (addW acc wl, []) := by
            by_cases hlt : k < s.size
            · have h32 : s[k] = 32 := Decidable.of_not_not fun h => hch ⟨hlt, h⟩
              rw [wsAt_step (s := bs s) hlt, get_bs s k hlt, if_pos h32, hst.out]
            · have e : k = (bs s).length := by have := size_bs s; omega
              rw [e, HEND.out, ← e, hst.out]
          have hcs : k < s.size → ∃ h : k < s.size, s[k] = 32 := fun h => ⟨h, Decidable.of_not_not fun h2 => hch ⟨h, h2⟩⟩
          have HNX := Lib.hid hnx
          have hqs : (mk wl).size ≤ 16777216 := by rw [mk_size]; omega
          have hWV := fun w => sWordValid_any (mk wl) w hqs
          have hbq : bs (mk wl) = wl := rfl
          rw [hbq] at hWV
          have HWV := Lib.hid hWV
          have HHS := Lib.hid (show hasS ab (mk wl) = acc.contains wl by rw [hab.out, hasS_map])
          have HMB := Lib.hid hqs
          clear hch hnx hbq hWV hqs
          have hsp : (∃ h : k < s.size, ((s[k].toNat : Int) == 32) = true ∧ ((s[k].toNat : Int) != 32) = false) ∨ ¬ k < s.size := by
            by_cases h : k < s.size
            · obtain ⟨h, h32⟩ := hcs h
              exact .inl ⟨h, by rw [h32]; rfl, by rw [h32]; rfl⟩
            · exact .inr h
          obtain ⟨hlt, hcn, hcn2⟩ | hlt := hsp
          all_goals
            clear hcs
            go_wp2_with (first | (go_at_call 46; refine (HTV.out _).mono ?_; rintro e w' ⟨rfl, rfl⟩) | (go_at_call 61; refine (HWV.out _).mono ?_; rintro e w' ⟨rfl, rfl⟩))
            go_loop [6, 7] (fun v i => ∃ (j : Nat) (f : Bool), j ≤ ab.length ∧ i = .int .i64 j ∧ v = .bool f ∧ Hid (f = (!wordV wl || hasS (ab.take j) (mk wl)))) (fun _ i => ab.length - (intOf i).toNat)
            case atStart => exact ⟨0, _, Nat.zero_le _, rfl, rfl, by show _ = _; simp [hasS]⟩
            case round =>
              obtain ⟨j, f, hj, rfl, rfl, hf⟩ := hrel
              by_cases hjl : j < ab.length
              · obtain ⟨b, o, rfl, hc⟩ := HSX.out.getS hjl
                have hup := hasS_upto (x := mk wl) hjl
                cases f
                · have hq := eq_toList ab[j] (mk wl)
                  generalize ab[j] = y at *
                  have HUP := Lib.hid hup
                  have HQ := Lib.hid hq
                  clear hup hq
                  go_wp2
                  go_round
                  case rel => exact ⟨j + 1, _, by omega, by go_num, rfl, by
                    show _ = _
                    rw [HQ.out, HUP.out, ← Bool.or_assoc, ← hf.out, Bool.false_or]⟩
                  case measure => simp [intOf]; omega
                · have HUP := Lib.hid hup
                  clear hup hc
                  go_wp2
                  go_round
                  case rel => exact ⟨j + 1, true, by omega, by go_num, rfl, by
                    show _ = _
                    rw [HUP.out, ← Bool.or_assoc, ← hf.out, Bool.true_or]⟩
                  case measure => simp [intOf]; omega
              · have hff : f = (!wordV wl || acc.contains wl) := by
                  rw [hf.out, List.take_of_length_le (by omega), HHS.out]
                have HFF := Lib.hid hff
                clear hff hf
                cases f
                · have hyes : addW acc wl = acc ++ [wl] := by
                    have := HFF.out
                    rw [eq_comm, Bool.or_eq_false_iff, Bool.not_eq_false'] at this
                    exact addW_yes this.1 this.2
                  have HYES := Lib.hid hyes
                  have hl1 : ab.length ≤ 16777216 := by omega
                  clear hyes
                  go_wp2_with (at_builtin; refine app_str rfl rfl rfl rfl HW.out HB.out hl1 ?_; intro v1 w2 hown2 hb2; have HW2 := Lib.hid hown2; have HB2 := Lib.hid hb2; clear hown2 hb2)
                  go_roundw
                  case rel => exact ⟨k + 1, acc ++ [wl], [], ab ++ [mk wl], by omega, by go_num, rfl, by simp, by simp; omega, by show _ = _; rw [HNX.out, HYES.out], by show _ = _; rw [hab.out, List.map_append]; rfl, HW2.out, HB2.out⟩
                  case measure => simp [intOf]; omega
                · have hno : addW acc wl = acc := by
                    have := HFF.out
                    rw [eq_comm, Bool.or_eq_true, Bool.not_eq_true'] at this
                    exact addW_no this
                  have HNO := Lib.hid hno
                  clear hno
                  go_wp2
                  go_roundw
                  case rel => exact ⟨k + 1, acc, [], ab, by omega, by go_num, rfl, by simp, by omega, by show _ = _; rw [HNX.out, HNO.out], hab, HW.out, HB.out⟩
                  case measure => simp [intOf]; omega
      · go_wp2
        go_ret
        refine ⟨_, rfl, ?_, HB.out⟩
        have e : k = (bs s).length + 1 := by have := size_bs s; omega
        have h1 := hst.out
        rw [e, HALL.out] at h1
        injection h1 with h1 _
        unfold wordsB
        rw [h1, ← hab.out]; exact HW.out
end Go.Proofs.YtaeaccakkielmaaGreatDoor

/- Common words. -/
set_option linter.unusedVariables false
namespace Go.Proofs.YtaeaccakkielmaaGreatDoor
open Go.RowKit

def commonB (a b : ByteArray) : List ByteArray := (commonW (bs a) (bs b)).map mk
theorem commonB_len (a b : ByteArray) : (commonB a b).length ≤ 61 := by
  unfold commonB; rw [List.length_map]; exact Nat.le_trans (commonW_le _ _) (wordsOf_len _)
theorem filter_upto {p : Bs → Bool} {l : List Bs} {k : Nat} (h : k < l.length) : (l.take (k + 1)).filter p = (l.take k).filter p ++ if p l[k] then [l[k]] else [] := by
  rw [List.take_succ_eq_append_getElem h, List.filter_append]
  cases hp : p l[k] <;> simp [hp]
end Go.Proofs.YtaeaccakkielmaaGreatDoor

/- FilesWith of both. -/
set_option linter.unusedVariables false
namespace Go.Proofs.YtaeaccakkielmaaGreatDoor
open Go.RowKit
set_option maxHeartbeats 8000000 in
set_option maxRecDepth 100000 in
theorem iFilesWith_any (A : Option Addr) (c : Nat) (l : List Pc) (root : Int) (word : ByteArray) (w : World) (hs : Sl w encP 2 A l) (hl : l.length ≤ 16777216) (hf : FitP l) (hp : word.size ≤ 16777216) (ht : TzL w) (hm : MaxL w) :
    Calls Tryz.prog 12 #[.slice A l.length c, .int .i64 root, .string word] w (OwnRes 9 1 encS (withB l root (bs word)) w) := by
  obtain ⟨q, rfl⟩ : ∃ q, word = mk q := ⟨bs word, (mk_tx word).symm⟩
  rw [show bs (mk q) = q from rfl]
  have HS := Lib.hid hs
  have HT := Lib.hid ht
  have HM := Lib.hid hm
  have HB := Lib.hid (Below.refl w.heap.size w)
  have hA := fun w h h2 h3 => iAllFiles_any A c l root w h hl hf h2 h3
  unfold OwnRes at hA
  rw [show (allF l root).map mk = filesB l root from rfl] at hA
  have E : Hid (withB l root q = (filesB l root).filter fun f => hasW l root q (bs f)) := rfl
  have hn27 := filesB_len l root
  have HSZ := Lib.hid (filesB_size l root)
  have HRA := Lib.hid (fun p w h hp h2 h3 => iReadAt_any A c l root p w h hl hf hp h2 h3)
  generalize withB l root q = R at *
  generalize filesB l root = F at *
  have HA := Lib.hid hA
  clear hA hs ht hm
  go_enter Tryz.func12, Tryz.ntmps12
  go_wp2_with fail
  refine (HA.out _ HS.out HT.out HM.out).mono ?_
  rintro e w3 ⟨v, rfl, hown, hb⟩
  obtain ⟨X_F, d_F, rfl, hle_F, hs_, _⟩ := hown.sl
  have HO_F := Lib.hid (hown.mono HB.out.size)
  have HS_F := Lib.hid hs_
  have HC_F := Lib.hid hown.cz
  clear hs_ hown
  replace HB := Lib.hid (Below_then HB.out hb (Nat.le_refl _))
  replace HS := Lib.hid (HS.out.below hb)
  replace HT := Lib.hid (HT.out.below hb)
  replace HM := Lib.hid (HM.out.below hb)
  clear hb
  go_wp2_with fail
  go_loopw [7, 16] (fun v i wr => ∃ (k : Nat) (acc : List ByteArray), k ≤ F.length ∧ i = .int .i64 k ∧ acc.length ≤ k ∧ Hid (acc = (F.take k).filter fun f => hasW l root q (bs f)) ∧ Own wr w3.heap.size 9 1 encS v acc ∧ Hid (Below w3.heap.size w3 wr)) (fun _ i _ => F.length - (intOf i).toNat)
  case atStart => exact ⟨0, [], Nat.zero_le _, rfl, Nat.le_refl _, rfl, Own.nil, Below.refl _ _⟩
  case round =>
    obtain ⟨k, acc, hk, rfl, hak, hh, hown, HBW⟩ := hrel
    have HW := Lib.hid hown
    have HBA := Lib.hid (Below_then HB.out HBW.out (Nat.le_refl _))
    clear hown
    by_cases hlt : k < F.length
    · have hlt' : (k : Int) < (F.length : Int) := by omega
      obtain ⟨b, o, rfl, hc⟩ := (HS_F.out.below HBW.out).getS hlt
      have HSW := Lib.hid (HS.out.below HBW.out)
      have HTW := Lib.hid (HT.out.below HBW.out)
      have HMW := Lib.hid (HM.out.below HBW.out)
      have hz := HSZ.out _ (List.getElem_mem hlt)
      have hRA := fun w h h2 h3 => HRA.out F[k] w h (by omega) h2 h3
      have hrl := readAt_len l root (bs F[k])
      have hfu := filterB_upto (p := fun f => hasW l root q (bs f)) hlt
      have hhw : hasW l root q (bs F[k]) = hasS (wordsB (mk ((readAt l root (bs F[k])).getD []))) (mk q) := by
        unfold wordsB hasW; rw [hasS_map]; rfl
      rw [hhw] at hfu
      unfold FoRes at hRA
      rw [← mk_size] at hrl
      generalize F[k] = x at *
      generalize mk ((readAt l root (bs x)).getD []) = CT at *
      generalize (readAt l root (bs x)).isSome = okr at *
      have hWO := fun w h => iWordsOf_any CT w (by omega) h
      unfold OwnRes at hWO
      have hw61 := wordsB_len CT
      generalize wordsB CT = ws at *
      have hCN := fun Y d w h => ContainsS_any Y d ws (mk q) w h (by omega)
      have HRX := Lib.hid hRA
      have HWO := Lib.hid hWO
      have HF := Lib.hid hfu
      clear hfu hRA hhw hWO
      have hl1 : acc.length ≤ 16777216 := by omega
      cases hcn : hasS ws (mk q)
      · rw [hcn] at hCN
        have HCN := Lib.hid hCN
        have HC := Lib.hid hcn
        clear hCN hcn
        go_wp2_with fail
        refine (HRX.out _ HSW.out HTW.out HMW.out).mono ?_
        rintro e w' ⟨rfl, hb⟩
        replace HBW := Lib.hid (Below_then HBW.out hb (Nat.le_refl _))
        replace HBA := Lib.hid (Below_then HBA.out hb (Nat.le_refl _))
        replace HMW := Lib.hid (HMW.out.below hb)
        replace HW := Lib.hid (HW.out.below hb)
        clear hb
        go_wp2_with fail
        refine (HWO.out _ HMW.out).mono ?_
        rintro e w' ⟨v, rfl, hown, hb⟩
        obtain ⟨X_Y, d_Y, rfl, hle_Y, hs_, _⟩ := hown.sl
        have HO_Y := Lib.hid (hown.mono HBA.out.size)
        have HS_Y := Lib.hid hs_
        have HC_Y := Lib.hid hown.cz
        clear hs_ hown
        replace HBW := Lib.hid (Below_then HBW.out hb (Nat.le_refl _))
        replace HW := Lib.hid (HW.out.below hb)
        clear hb
        go_wp2_with (go_at_call 37; refine (HCN.out _ _ _ HS_Y.out).mono ?_; rintro e w' ⟨rfl, rfl⟩)
        go_roundw
        case rel => exact ⟨k + 1, acc, by omega, by go_num, by omega, by show _ = _; rw [HF.out, HC.out, hh.out]; simp, HW.out, HBW.out⟩
        case measure => simp [intOf]; omega
      · rw [hcn] at hCN
        have HCN := Lib.hid hCN
        have HC := Lib.hid hcn
        clear hCN hcn
        go_wp2_with fail
        refine (HRX.out _ HSW.out HTW.out HMW.out).mono ?_
        rintro e w' ⟨rfl, hb⟩
        replace HBW := Lib.hid (Below_then HBW.out hb (Nat.le_refl _))
        replace HBA := Lib.hid (Below_then HBA.out hb (Nat.le_refl _))
        replace HMW := Lib.hid (HMW.out.below hb)
        replace HW := Lib.hid (HW.out.below hb)
        clear hb
        go_wp2_with fail
        refine (HWO.out _ HMW.out).mono ?_
        rintro e w' ⟨v, rfl, hown, hb⟩
        obtain ⟨X_Y, d_Y, rfl, hle_Y, hs_, _⟩ := hown.sl
        have HO_Y := Lib.hid (hown.mono HBA.out.size)
        have HS_Y := Lib.hid hs_
        have HC_Y := Lib.hid hown.cz
        clear hs_ hown
        replace HBW := Lib.hid (Below_then HBW.out hb (Nat.le_refl _))
        replace HW := Lib.hid (HW.out.below hb)
        clear hb
        go_wp2_with (first
          | (go_at_call 37; refine (HCN.out _ _ _ HS_Y.out).mono ?_; rintro e w' ⟨rfl, rfl⟩)
          | (at_builtin; refine app_str (w0 := w3) rfl rfl rfl rfl HW.out HBW.out hl1 ?_; intro v1 w6 hown6 hb6; have HW6 := Lib.hid hown6; have HB6 := Lib.hid hb6; clear hown6 hb6))
        go_roundw
        case rel => exact ⟨k + 1, acc ++ [x], by omega, by go_num, by simp; omega, by show _ = _; rw [HF.out, HC.out, hh.out]; simp, HW6.out, HB6.out⟩
        case measure => simp [intOf]; omega
    · have hlt' : ¬ (k : Int) < (F.length : Int) := by omega
      go_wp2
      go_ret
      refine ⟨_, rfl, ?_, HBA.out⟩
      rw [E.out]
      have := hh.out
      rw [List.take_of_length_le (by omega)] at this
      rw [← this]; exact HW.out.mono HB.out.size
set_option maxHeartbeats 16000000 in
set_option maxRecDepth 100000 in
theorem sFilesWith_any (A : Option Addr) (c : Nat) (l : List Pc) (root : Int) (word : ByteArray) (w : World) (hs : Sl w encP 2 A l) (hl : l.length ≤ 16777216) (hf : FitP l) :
    Calls Tryz.prog 11 #[.slice A l.length c, .int .i64 root, .string word] w (OwnRes 9 1 encS (withB l root (bs word)) w) := by
  obtain ⟨q, rfl⟩ : ∃ q, word = mk q := ⟨bs word, (mk_tx word).symm⟩
  rw [show bs (mk q) = q from rfl]
  have HS := Lib.hid (hs.alloc (.cells #[] 9))
  have HB := Lib.hid ((Below.refl w.heap.size w).alloc (Nat.le_refl _) (.cells #[] 9))
  have HW := Lib.hid (Own.made (enc := encS) (E := 9) (size := 1) (Nat.le_refl w.heap.size))
  have hA := fun w h => sAllFiles_any A c l root w h hl hf
  unfold OwnRes at hA
  rw [show (allF l root).map mk = filesB l root from rfl] at hA
  have E : Hid (withB l root q = (filesB l root).filter fun f => hasW l root q (bs f)) := rfl
  have hn27 := filesB_len l root
  have HSZ := Lib.hid (filesB_size l root)
  have HRA := Lib.hid (fun p w h hp => sReadAt_any A c l root p w h hl hf hp)
  have HLS := Lib.hid hs
  generalize withB l root q = R at *
  generalize filesB l root = F at *
  have HA := Lib.hid hA
  clear hA hs
  go_enter Tryz.func11, Tryz.ntmps11
  go_wp2_with fail
  refine (HA.out _ HS.out).mono ?_
  rintro e w2 ⟨v, rfl, hown, hb⟩
  obtain ⟨X, d, rfl, hle, _, _⟩ := hown.sl
  have HSX := Lib.hid hown.sl'
  have HLX := Lib.hid hown.ltA
  have HAX := Lib.hid (hown.apart (v := .slice (some ⟨w.heap.size, 0, none⟩) 0 0) (by intro g hg; have hg : some w.heap.size = some g := hg; injection hg with hg; subst hg; simp))
  replace HB := Lib.hid (HB.out.trans (hb.mono (by simp)))
  replace HW := Lib.hid (HW.out.below hb)
  clear hb hown
  go_wp2_with fail
  go_loopw [7, 9] (fun v i wr => ∃ (k : Nat) (acc : List ByteArray), k ≤ F.length ∧ i = .int .i64 k ∧ acc.length ≤ k ∧ Hid (acc = (F.take k).filter fun f => hasW l root q (bs f)) ∧ Own wr w.heap.size 9 1 encS v acc ∧ Hid (Below w.heap.size w wr) ∧ Hid (Sl wr encS 1 X F) ∧ Hid (Apart X v) ∧ w2.heap.size ≤ wr.heap.size) (fun _ i _ => F.length - (intOf i).toNat)
  case atStart => exact ⟨0, [], Nat.zero_le _, rfl, Nat.le_refl _, rfl, HW.out, HB.out, HSX.out, HAX.out, Nat.le_refl _⟩
  case round =>
    obtain ⟨k, acc, hk, rfl, hak, hh, hown, HBW, HXW, HAW, hzw⟩ := hrel
    have HWW := Lib.hid hown
    clear hown
    by_cases hlt : k < F.length
    · have hlt' : (k : Int) < (F.length : Int) := by omega
      obtain ⟨b, o, rfl, hc⟩ := HXW.out.getS hlt
      have HSW := Lib.hid (HLS.out.below HBW.out)
      have hz := HSZ.out _ (List.getElem_mem hlt)
      have hRA := fun w h => HRA.out F[k] w h (by omega)
      have hrl := readAt_len l root (bs F[k])
      have hfu := filterB_upto (p := fun f => hasW l root q (bs f)) hlt
      have hhw : hasW l root q (bs F[k]) = (wordsOf (bs (mk ((readAt l root (bs F[k])).getD [])))).contains q := rfl
      rw [hhw] at hfu
      have HGX := Lib.hid (fun (w : World) (h : Sl w encS 1 (some ⟨b, o, none⟩) F) => h.getS hlt)
      unfold FoRes at hRA
      rw [← mk_size] at hrl
      generalize F[k] = x at *
      generalize mk ((readAt l root (bs x)).getD []) = CT at *
      generalize (readAt l root (bs x)).isSome = okr at *
      have hWO := fun w => sWordsOf_any CT w (by omega)
      unfold OwnRes wordsB at hWO
      have hys61 := wordsOf_len (bs CT)
      have HND := Lib.hid (wordsOf_ok (bs CT)).2
      generalize wordsOf (bs CT) = ys at *
      generalize hyb : ys.map mk = yb at *
      have HYB := Lib.hid hyb
      have hyl : yb.length = ys.length := by rw [← hyb, List.length_map]
      have HRX := Lib.hid hRA
      have HWO := Lib.hid hWO
      have HF := Lib.hid hfu
      clear hfu hRA hhw hWO hyb
      go_wp2_with fail
      refine (HRX.out _ HSW.out).mono ?_
      rintro e w4 ⟨rfl, hb⟩
      replace HBW := Lib.hid (Below_then HBW.out hb (Nat.le_refl _))
      replace HXW := Lib.hid (HXW.out.below hb)
      replace HWW := Lib.hid (HWW.out.below hb)
      have hz4 : w2.heap.size ≤ w4.heap.size := Nat.le_trans hzw hb.size
      clear hb hc
      go_wp2_with fail
      refine (HWO.out _).mono ?_
      rintro e w5 ⟨v5, rfl, hown, hb⟩
      obtain ⟨Y, d5, rfl, hle5, _, _⟩ := hown.sl
      have HSY := Lib.hid hown.sl'
      have HLY := Lib.hid hown.ltA
      have HAY := Lib.hid (hown.apart (v := u7) (fun g hg => (World.ownsRow.lt HWW.out g hg).2))
      replace HBW := Lib.hid (Below_then HBW.out hb (Nat.le_refl _))
      replace HXW := Lib.hid (HXW.out.below hb)
      replace HWW := Lib.hid (HWW.out.below hb)
      have hz5 : w2.heap.size ≤ w5.heap.size := Nat.le_trans hz4 hb.size
      clear hb hown
      go_wp2_with fail
      go_loopw [7, 13] (fun v i wr2 => ∃ (j : Nat) (acc2 : List ByteArray), j ≤ yb.length ∧ i = .int .i64 j ∧ acc2.length ≤ k + 1 ∧ Hid (acc2 = acc ++ if (ys.take j).contains q then [x] else []) ∧ Own wr2 w.heap.size 9 1 encS v acc2 ∧ Hid (Below w.heap.size w wr2) ∧ Hid (Sl wr2 encS 1 (some ⟨b, o, none⟩) F) ∧ Hid (Sl wr2 encS 1 Y yb) ∧ Hid (Apart (some ⟨b, o, none⟩) v) ∧ Hid (Apart Y v) ∧ w5.heap.size ≤ wr2.heap.size) (fun _ i _ => yb.length - (intOf i).toNat)
      case atStart => exact ⟨0, acc, Nat.zero_le _, rfl, by omega, by show _ = _; simp, HWW.out, HBW.out, HXW.out, HSY.out, HAW.out, HAY.out, Nat.le_refl _⟩
      case round =>
        obtain ⟨j, acc2, hj, rfl, hak2, hh2, hown, HBJ, HXJ, HYJ, HAJ, HAYJ, hz2⟩ := hrel
        have HWJ := Lib.hid hown
        clear hown
        by_cases hjl : j < yb.length
        · have hjy : j < ys.length := by omega
          have hye : yb[j] = mk ys[j] := by
            have : yb[j]? = some (mk ys[j]) := by rw [← HYB.out, List.getElem?_map, List.getElem?_eq_getElem hjy]; rfl
            rw [List.getElem?_eq_getElem hjl] at this; injection this
          obtain ⟨b1, o1, e1, hc1⟩ := HGX.out _ HXJ.out
          obtain ⟨b2, o2, e2, hc2⟩ := HYJ.out.getS hjl
          injection e1 with e1; injection e1 with e3 e4
          subst e3 e4 e2
          rw [hye] at hc2
          have htk : ys.take (j + 1) = ys.take j ++ [ys[j]] := List.take_succ_eq_append_getElem hjy
          have hndj : (ys.take j).contains ys[j] = false := by
            rw [List.contains_eq_mem, decide_eq_false_iff_not]
            intro hm
            have h1 : (ys.take j ++ ys.drop j).Nodup := by rw [List.take_append_drop]; exact HND.out
            rw [List.nodup_append] at h1
            exact h1.2.2 _ hm ys[j] (by rw [List.drop_eq_getElem_cons hjy]; exact List.mem_cons_self) rfl
          have heq : ((mk ys[j]).toList == (mk q).toList) = (ys[j] == q) := eq_toList (mk ys[j]) (mk q)
          generalize ys[j] = y at *
          have HTK := Lib.hid htk
          have HNDJ := Lib.hid hndj
          have hl1 : acc2.length ≤ 16777216 := by omega
          have HLX2 := Lib.hid (HLX.out.mono (Nat.le_trans hz5 hz2))
          have HLY2 := Lib.hid (HLY.out.mono hz2)
          clear htk hndj hye
          cases hqy : (y == q)
          · rw [hqy] at heq
            have hyq : (q == y) = false := by rw [beq_eq_false_iff_ne] at hqy ⊢; exact fun e => hqy e.symm
            have HQY := Lib.hid hyq
            clear hqy hyq
            go_wp2
            go_roundw
            case rel => exact ⟨j + 1, acc2, by omega, by go_num, by omega, by
              show _ = _
              have hqy := HQY.out
              have : (ys.take (j + 1)).contains q = (ys.take j).contains q := by rw [HTK.out, List.contains_append, List.contains_cons, hqy, List.contains_nil, Bool.or_false, Bool.or_false]
              rw [this, ← hh2.out], HWJ.out, HBJ.out, HXJ.out, HYJ.out, HAJ.out, HAYJ.out, hz2⟩
            case measure => simp [intOf]; omega
          · rw [hqy] at heq
            have hyq : q = y := (beq_iff_eq.1 hqy).symm
            have HQY := Lib.hid hyq
            clear hqy hyq
            go_wp2_with (at_builtin; refine app_str3 rfl rfl rfl rfl HWJ.out HBJ.out hl1 ?_; intro v4 w4' hown4 hb4 hg4 hk4; have HW4 := Lib.hid hown4; have HB4 := Lib.hid hb4; have HX4 := Lib.hid (HXJ.out.grew hg4 HAJ.out); have HY4 := Lib.hid (HYJ.out.grew hg4 HAYJ.out); have HPX4 := Lib.hid (HAJ.out.kin HLX2.out hk4); have HPY4 := Lib.hid (HAYJ.out.kin HLY2.out hk4); have HZ4 := Lib.hid (Nat.le_trans hz2 hg4.size); clear hown4 hb4 hg4 hk4)
            go_roundw
            case rel => exact ⟨j + 1, acc2 ++ [x], by omega, by go_num, (by
              have hqy := HQY.out
              have h1 := hh2.out
              rw [hqy, HNDJ.out] at h1
              simp at h1
              rw [h1, List.length_append]; simp; omega), by
              show _ = _
              have hqy := HQY.out
              have h1 := hh2.out
              rw [hqy, HNDJ.out] at h1
              have : (ys.take (j + 1)).contains q = true := by rw [HTK.out, List.contains_append, List.contains_cons, hqy, beq_self_eq_true, Bool.true_or, Bool.or_true]
              rw [this, h1]; simp, HW4.out, HB4.out, HX4.out, HY4.out, HPX4.out, HPY4.out, HZ4.out⟩
            case measure => simp [intOf]; omega
        · have hjl' : ¬ (j : Int) < (yb.length : Int) := by omega
          have HE2 := Lib.hid (show acc2 = acc ++ if ys.contains q then [x] else [] by have := hh2.out; rwa [List.take_of_length_le (by omega)] at this)
          have hal : acc2.length ≤ k + 1 := hak2
          have HZJ := Lib.hid (Nat.le_trans hz5 hz2)
          go_wp2
          go_roundw
          case rel => exact ⟨k + 1, acc2, by omega, by go_num, hal, by show _ = _; rw [HF.out, HE2.out, hh.out], HWJ.out, HBJ.out, HXJ.out, HAJ.out, HZJ.out⟩
          case measure => simp [intOf]; omega
    · have hlt' : ¬ (k : Int) < (F.length : Int) := by omega
      go_wp2
      go_ret
      refine ⟨_, rfl, ?_, HBW.out⟩
      rw [E.out]
      have := hh.out
      rw [List.take_of_length_le (by omega)] at this
      rw [← this]; exact HWW.out
end Go.Proofs.YtaeaccakkielmaaGreatDoor

/- Copies of slices of numbers. -/
set_option linter.unusedVariables false
namespace Go.Proofs.YtaeaccakkielmaaGreatDoor
open Go.RowKit

end Go.Proofs.YtaeaccakkielmaaGreatDoor

/- Slices of numbers and of strings, as a law copies, measures, compares and marks them: in one shape with slices of structs. -/
set_option linter.unusedVariables false
namespace Go.Proofs.YtaeaccakkielmaaGreatDoor
open Go.RowKit

theorem str_eq2 (A B : Option Addr) (c d : Nat) (l : List ByteArray) (w : World) (ha : Sl w encS 1 A l) (hb : Sl w encS 1 B l) (hl : l.length ≤ 16777216) :
    Calls Tryz.prog 13 #[.slice A l.length c, .slice B l.length d] w fun e w' => e = .returned (.bool true) ∧ Below w.heap.size w w' :=
  (l_eqStringS_same A B c d l w ha hb hl).mono fun _ _ ⟨h, hd⟩ => ⟨h, hd.below⟩
/-! ### marks of strings -/
def markStrL (k n : Nat) : List ByteArray := (List.range n).map fun j => mk (markT (k + j))
theorem markStrL_len (k n : Nat) : (markStrL k n).length = n := by simp [markStrL]
theorem markStrL_succ (k n : Nat) : markStrL k (n + 1) = markStrL k n ++ [mk (markT (k + n))] := by simp [markStrL, List.range_succ]
theorem markStrL_at {k n j : Nat} (h : j < n) : (markStrL k n)[j]'(by rw [markStrL_len]; exact h) = mk (markT (k + j)) := by simp [markStrL]
set_option maxHeartbeats 4000000 in
set_option maxRecDepth 100000 in
theorem markStringS_any (base : Nat) (v : Value) (l : List ByteArray) (k : Nat) (w : World) (h : Own w base 9 1 encS v l) (hl : l.length ≤ 16777216) (hk : k ≤ 100000000) :
    Calls Tryz.prog 15 #[v, .int .i64 k] w (Marked 9 1 encS base v (markStrL k l.length) (k + l.length) w) := by
  by_cases h0 : 0 < l.length
  · obtain ⟨g, cap, rfl, hg, hlc, hcm, hf⟩ := h.row h0
    have HF := Lib.hid hf
    have hcm' := hcm
    unfold maxLen at hcm'
    clear hf h
    go_enter Tryz.func15, Tryz.ntmps15
    go_wp2
    go_loopw [1, 5] (fun sk si wr => ∃ (j K : Nat), j ≤ l.length ∧ si = .int .i64 (j : Int) ∧ sk = .int .i64 (K : Int) ∧ Hid (K = k + j) ∧ K ≤ 300000000 ∧ Filled wr g (cap * 1) 9 (flat encS (markStrL k j)) ∧ Grew (.slice (some ⟨g, 0, none⟩) l.length cap) w wr) (fun _ si _ => l.length - (intOf si).toNat)
    case atStart => exact ⟨0, k, Nat.zero_le _, rfl, rfl, rfl, by omega, HF.out, Grew.refl _ _⟩
    case round =>
      obtain ⟨j, K, hj, rfl, rfl, hK, hKb, hf, hg2⟩ := hrel
      by_cases hlt : j < l.length
      · have hlen : (flat encS (markStrL k j)).length = j := by rw [flatS_len, markStrL_len]
        have HF0 := Lib.hid hf
        have HG0 := Lib.hid hg2
        have HLN := Lib.hid hlen
        clear hlen hf hg2
        go_wp2_with fail
        refine (markText_any K _ (by omega)).mono ?_
        rintro e w2 ⟨rfl, hb2⟩
        have HF2 := Lib.hid (HF0.out.below hb2)
        have HG2 := Lib.hid (HG0.out.trans (Grew.below hb2))
        clear hb2
        obtain ⟨u, hu⟩ := HF2.out.cell (j := j) (by omega)
        have hfr := HF2.out.free j
        have hst := HF2.out.store (.string (mk (markT K))) (by rw [HLN.out]; omega)
        rw [HLN.out, show flat encS (markStrL k j) ++ [Value.string (mk (markT K))] = flat encS (markStrL k (j + 1)) from by rw [markStrL_succ, flat_snoc, ← hK.out]; rfl] at hst
        have HST := Lib.hid hst
        clear hst
        go_wp2
        go_roundw
        case rel => exact ⟨j + 1, K + 1, by omega, by go_num, by go_num, by show _ = _; rw [hK.out]; omega, by have := hK.out; omega, HST.out, HG2.out.set rfl _⟩
        case measure => simp [intOf]; omega
      · have hjl : j = l.length := by omega
        subst hjl
        have HG2 := Lib.hid hg2
        have HF2 := Lib.hid hf
        clear hg2 hf
        go_wp2
        go_ret
        have ho := HF2.out.ownc (base := base) (fun _ => rfl) hg hcm (by rw [markStrL_len]; exact hlc)
        rw [markStrL_len] at ho
        exact ⟨ret_int (by rw [hK.out]), ho, HG2.out⟩
  · have hz : l.length = 0 := by omega
    obtain ⟨A, c, hv, _, _, _⟩ := h.sl
    subst hv
    rw [hz] at h ⊢
    have H := Lib.hid h
    clear h
    go_enter Tryz.func15, Tryz.ntmps15
    go_wp2
    go_loopw [1, 5] (fun sk si wr => si = .int .i64 0 ∧ sk = .int .i64 (k : Int) ∧ w = wr) (fun _ _ _ => 0)
    case atStart => exact ⟨rfl, rfl, rfl⟩
    case round =>
      obtain ⟨rfl, rfl, rfl⟩ := hrel
      go_wp2
      go_ret
      exact ⟨rfl, H.out.empty hz (by rw [markStrL_len]), Grew.refl _ _⟩
set_option maxHeartbeats 4000000 in
set_option maxRecDepth 100000 in
theorem heldStringS_any (A : Option Addr) (c : Nat) (k n : Nat) (w : World) (hs : Sl w encS 1 A (markStrL k n)) (hn : n ≤ 16777216) (hk : k ≤ 100000000) :
    Calls Tryz.prog 16 #[.slice A n c, .int .i64 k] w fun e w' => e = .returned (.int .i64 ((k + n : Nat) : Int)) ∧ Below w.heap.size w w' := by
  have HS := Lib.hid hs
  clear hs
  go_enter Tryz.func16, Tryz.ntmps16
  go_wp2
  go_loopw [1, 5] (fun sk si wr => ∃ (j K : Nat), j ≤ n ∧ si = .int .i64 (j : Int) ∧ sk = .int .i64 (K : Int) ∧ Hid (K = k + j) ∧ K ≤ 300000000 ∧ Below w.heap.size w wr) (fun _ si _ => n - (intOf si).toNat)
  case atStart => exact ⟨0, k, Nat.zero_le _, rfl, rfl, rfl, by omega, Below.refl _ _⟩
  case round =>
    obtain ⟨j, K, hj, rfl, rfl, hK, hKb, hb⟩ := hrel
    have HB0 := Lib.hid hb
    clear hb
    by_cases hlt : j < n
    · have hat := markStrL_at (k := k) hlt
      rw [← hK.out] at hat
      obtain ⟨b, o, rfl, hc⟩ := (HS.out.below HB0.out).getS (k := j) (by rw [markStrL_len]; exact hlt)
      rw [hat] at hc
      clear hat
      replace hc := far_cell hc
      go_wp2
      refine wp_region_far (by kernel_rfl) (by kernel_rfl) ?_
      repeat (go_big_quiet_step ((go_at_call 39; exact far_call (markText_any K _ (by omega)))))
      refine wpQuiet_nil ?_
      intro _ hwF
      obtain ⟨pF, hwF⟩ := hwF
      subst hwF
      have HB2 := Lib.hid (Below_then HB0.out (far_below _ pF) (Nat.le_refl _))
      generalize far _ pF = wF at *
      clear hc
      go_wp2
      go_roundw
      case rel => exact ⟨j + 1, K + 1, by omega, by go_num, by go_num, by show _ = _; rw [hK.out]; omega, by have := hK.out; omega, HB2.out⟩
      case measure => simp [intOf]; omega
    · have hjl : j = n := by omega
      subst hjl
      go_wp2
      go_ret
      exact ⟨ret_int (by rw [hK.out]), HB0.out⟩
end Go.Proofs.YtaeaccakkielmaaGreatDoor

/- Laws' walks: FnExactSpotOf, FnExactFoldName, FnFoldName. -/
set_option linter.unusedVariables false
namespace Go.Proofs.YtaeaccakkielmaaGreatDoor
open Go.RowKit
attribute [local go_sem] mk_toList

/-- A law's end: true, and nothing that was there has turned. -/
def LawOk (w : World) (e : Ending) (w' : World) : Prop := e = .returned (.bool true) ∧ Below w.heap.size w w'

/-! ### spots -/
def spotOf (seed many : Int) : Int := if pv seed && inI many 1 16 then prPair seed 17 % many else -1
/-! ### folded names -/
theorem foldName_facts (s : Bs) : foldName (foldName s) = foldName s ∧ (foldName s ≠ [] → (foldName s).length = s.length) := by
  by_cases h : 1 ≤ s.length ∧ s.length ≤ 8 ∧ s.all fineC = true
  · have e : foldName s = s.map foldC := by unfold foldName; rw [if_pos h]
    have hff : ∀ c, fineC c = true → foldC (foldC c) = foldC c ∧ fineC (foldC c) = true := by
      intro c hc
      have h2 : foldC (foldC c) = foldC c := by
        refine foldC_same ?_
        unfold fineC smallC digitC inI at hc
        simp at hc; omega
      refine ⟨h2, ?_⟩
      unfold fineC at hc ⊢
      rw [h2]; exact hc
    have hall := List.all_eq_true.1 h.2.2
    refine ⟨?_, fun _ => by rw [e]; simp⟩
    rw [e]
    have h3 : 1 ≤ (s.map foldC).length ∧ (s.map foldC).length ≤ 8 ∧ (s.map foldC).all fineC = true := by
      refine ⟨by simpa using h.1, by simpa using h.2.1, ?_⟩
      rw [List.all_eq_true]; intro c hc
      obtain ⟨d, hd, rfl⟩ := List.mem_map.1 hc
      exact (hff d (hall d hd)).2
    have e2 : foldName (s.map foldC) = (s.map foldC).map foldC := by unfold foldName; rw [if_pos h3]
    rw [e2, List.map_map]
    refine List.map_congr_left fun c hc => ?_
    exact (hff c (hall c hc)).1
  · have e : foldName s = [] := by unfold foldName; rw [if_neg h]
    rw [e]
    exact ⟨rfl, fun h => absurd rfl h⟩

theorem foldName_le (s : Bs) : (foldName s).length ≤ 8 := by
  unfold foldName; split
  · rename_i h; simpa using h.2.1
  · simp

end Go.Proofs.YtaeaccakkielmaaGreatDoor

/- FnExactFilesWith, walked. Written by exgen.py. -/
set_option linter.unusedVariables false
namespace Go.Proofs.YtaeaccakkielmaaGreatDoor
open Go.RowKit

set_option maxHeartbeats 2000000 in
set_option maxRecDepth 100000 in
theorem wFnExactFilesWith (A0 : Option Addr) (n0 c0 : Nat) (a1 : Int) (a2 : ByteArray) (w : World) (h0 : PiecesIn w A0 n0 c0) (hmx : MaxL w) (htz : TzL w) : Calls Tryz.prog 4 #[.slice A0 n0 c0, .int .i64 a1, .string a2] w (LawOk w) := by
  obtain ⟨l0, rfl, hnc0, hcm0, hs0, hm0⟩ := h0
  have HM0 := Lib.hid hm0
  clear hm0
  have HS0 := Lib.hid hs0
  have hln0 : l0.length ≤ maxLen := Nat.le_trans hnc0 hcm0
  have HLN0 := Lib.hid hln0
  clear hs0 hnc0 hcm0 hln0
  by_cases ht2 : a2.size ≤ 1048576
  case neg =>
    go_enter Tryz.func4, Tryz.ntmps4
    go_wp2
    go_ret
    exact ⟨rfl, Below.refl _ _⟩
  case pos =>
    go_enter Tryz.func4, Tryz.ntmps4
    have HB0 := Lib.hid (Below.refl w.heap.size w)
    go_wp2_with fail
    refine (szPieceS_any _ _ l0 1048576 _ (HS0.out.below HB0.out) HLN0.out HM0.out (by omega) (by omega)).mono ?_
    rintro e w1 ⟨r0, rfl, hr0, hg0, hb⟩
    have HB1 := Lib.hid (Below_then HB0.out hb (Nat.le_refl _))
    have hz1 := hb.size
    have HG0 := Lib.hid hg0
    clear hb hg0
    by_cases hn0 : r0 < 0
    case pos =>
      go_wp2
      go_ret
      exact ⟨rfl, HB1.out⟩
    case neg =>
      obtain ⟨hl0, hf0⟩ := HG0.out (by omega)
      have HF0 := Lib.hid hf0
      clear hf0 HG0
      have HTZ := Lib.hid htz
      have HMX := Lib.hid hmx
      clear htz hmx
      have hf0 : FitP l0 := fun p hp => Nat.le_trans (HF0.out p hp) (by omega)
      have hS := fun A c w h => sFilesWith_any A c l0 a1 a2 w h (by omega) hf0
      have hI := fun A c w h ht hm => iFilesWith_any A c l0 a1 a2 w h (by omega) hf0 (by omega) ht hm
      unfold OwnRes at hS hI
      have hR0 := withB_len l0 a1 (bs a2)
      generalize withB l0 a1 (bs a2) = R0 at *
      have HCS := Lib.hid hS
      have HCI := Lib.hid hI
      clear hS hI hf0
      go_wp2_with fail
      refine (toPieceS_any _ _ _ _ (HS0.out.below HB1.out) (by omega)).mono ?_
      rintro e w2 ⟨v, rfl, hown, hb⟩
      obtain ⟨X_s0, d_s0, rfl, hle_s0, _, _⟩ := hown.sl
      have HU_s0 := Lib.hid hown.up
      have HO_s0 := Lib.hid hown
      have HB2 := Lib.hid (Below_then HB1.out hb (Nat.le_refl _))
      have hz2 := hb.size
      clear hb hown
      go_wp2_with fail
      refine (HCS.out _ _ _ HO_s0.out.sl').mono ?_
      rintro e w3 ⟨v, rfl, hown0, hb⟩
      obtain ⟨X_w0_, d_w0_, rfl, _, _, _⟩ := hown0.sl
      have HU_w0_ := Lib.hid hown0.up
      have HO_w0_ := Lib.hid hown0
      have HB3 := Lib.hid (Below_then HB2.out hb (Nat.le_refl _))
      have hz3 := hb.size
      clear hb hown0
      go_wp2_with fail
      refine (toPieceS_any _ _ _ _ (HS0.out.below HB3.out) (by omega)).mono ?_
      rintro e w4 ⟨v, rfl, hown, hb⟩
      obtain ⟨X_x0, d_x0, rfl, hle_x0, _, _⟩ := hown.sl
      have HU_x0 := Lib.hid hown.up
      have HO_x0 := Lib.hid hown
      have HB4 := Lib.hid (Below_then HB3.out hb (Nat.le_refl _))
      have hz4 := hb.size
      replace HO_w0_ := Lib.hid (HO_w0_.out.below hb)
      clear hb hown
      go_wp2_with fail
      refine (HCI.out _ _ _ HO_x0.out.sl' (HTZ.out.below HB4.out) (HMX.out.below HB4.out)).mono ?_
      rintro e w5 ⟨v, rfl, hown0, hb⟩
      obtain ⟨X_g0_, d_g0_, rfl, _, _, _⟩ := hown0.sl
      have HU_g0_ := Lib.hid hown0.up
      have HO_g0_ := Lib.hid hown0
      have HB5 := Lib.hid (Below_then HB4.out hb (Nat.le_refl _))
      have hz5 := hb.size
      replace HO_w0_ := Lib.hid (HO_w0_.out.below hb)
      replace HO_x0 := Lib.hid (HO_x0.out.below hb)
      clear hb hown0
      go_wp2_with fail
      refine (str_eq2 _ _ _ _ R0 _ HO_g0_.out.sl' HO_w0_.out.sl' (by omega)).mono ?_
      rintro e w6 ⟨rfl, hb⟩
      have HB6 := Lib.hid (Below_then HB5.out hb (Nat.le_refl _))
      have hz6 := hb.size
      replace HO_w0_ := Lib.hid (HO_w0_.out.below hb)
      replace HO_x0 := Lib.hid (HO_x0.out.below hb)
      replace HO_g0_ := Lib.hid (HO_g0_.out.below hb)
      clear hb
      go_wp2_with fail
      refine (toPieceS_any _ _ _ _ (HS0.out.below HB6.out) (by omega)).mono ?_
      rintro e w7 ⟨v, rfl, hown, hb⟩
      obtain ⟨X_y0, d_y0, rfl, hle_y0, _, _⟩ := hown.sl
      have HU_y0 := Lib.hid hown.up
      have HO_y0 := Lib.hid hown
      have HB7 := Lib.hid (Below_then HB6.out hb (Nat.le_refl _))
      have hz7 := hb.size
      replace HO_w0_ := Lib.hid (HO_w0_.out.below hb)
      replace HO_x0 := Lib.hid (HO_x0.out.below hb)
      replace HO_g0_ := Lib.hid (HO_g0_.out.below hb)
      clear hb hown
      go_wp2_with fail
      refine (eqPieceS_same _ _ _ _ l0 _ HO_x0.out.sl' HO_y0.out.sl' (by omega)).mono ?_
      rintro e w8 ⟨rfl, hb⟩
      have HB8 := Lib.hid (Below_then HB7.out hb (Nat.le_refl _))
      have hz8 := hb.size
      replace HO_w0_ := Lib.hid (HO_w0_.out.below hb)
      replace HO_x0 := Lib.hid (HO_x0.out.below hb)
      replace HO_g0_ := Lib.hid (HO_g0_.out.below hb)
      replace HO_y0 := Lib.hid (HO_y0.out.below hb)
      clear hb
      clear HO_y0 HU_y0
      go_wp2_with fail
      refine (markPieceS_any _ _ l0 1 _ HO_x0.out (by omega) (by omega)).mono ?_
      rintro e w9 ⟨rfl, hown, hgr⟩
      have HB9 := Lib.hid (hgr.under HB8.out (fun g hg => Nat.le_trans HB3.out.size (HO_x0.out.lo g hg)))
      have hz9 := hgr.size
      replace HO_w0_ := Lib.hid (HO_w0_.out.grew hgr (apart_of HU_w0_.out HO_x0.out.lo (by omega)))
      replace HO_g0_ := Lib.hid (HO_g0_.out.grew hgr (apart_of' HO_g0_.out.lo HU_x0.out (by omega)))
      clear HO_x0 HU_x0
      clear hgr hown
      generalize hK0 : 1 + 2 * l0.length = K0 at *
      have hKb0 : K0 ≤ 10000000 := by omega
      have hKz0 : (0 : Int) ≤ (K0 : Int) := by omega
      have HK0 := Lib.hid hK0
      clear hK0
      go_wp2_with fail
      refine (str_eq2 _ _ _ _ R0 _ HO_g0_.out.sl' HO_w0_.out.sl' (by omega)).mono ?_
      rintro e w10 ⟨rfl, hb⟩
      have HB10 := Lib.hid (Below_then HB9.out hb (Nat.le_refl _))
      have hz10 := hb.size
      replace HO_w0_ := Lib.hid (HO_w0_.out.below hb)
      replace HO_g0_ := Lib.hid (HO_g0_.out.below hb)
      clear hb
      go_wp2_with fail
      refine (markStringS_any _ _ R0 1 _ HO_g0_.out (by omega) (by omega)).mono ?_
      rintro e w11 ⟨rfl, hown, hgr⟩
      have HB11 := Lib.hid (hgr.under HB10.out (fun g hg => Nat.le_trans HB4.out.size (HO_g0_.out.lo g hg)))
      have hz11 := hgr.size
      replace HO_w0_ := Lib.hid (HO_w0_.out.grew hgr (apart_of HU_w0_.out HO_g0_.out.lo (by omega)))
      replace HO_g0_ := Lib.hid hown
      clear hgr hown
      generalize hM0 : 1 + R0.length = M0 at *
      have hMb0 : M0 ≤ 10000000 := by omega
      have hMz0 : (0 : Int) ≤ (M0 : Int) := by omega
      have HMM0 := Lib.hid hM0
      clear hM0
      go_wp2_with fail
      refine (heldStringS_any _ _ 1 _ _ HO_g0_.out.sl' (by omega) (by omega)).mono ?_
      rintro e w12 ⟨rfl, hb⟩
      have HB12 := Lib.hid (Below_then HB11.out hb (Nat.le_refl _))
      have hz12 := hb.size
      replace HO_w0_ := Lib.hid (HO_w0_.out.below hb)
      replace HO_g0_ := Lib.hid (HO_g0_.out.below hb)
      clear hb
      rw [HMM0.out]
      go_wp2_with fail
      refine (toPieceS_any _ _ _ _ (HS0.out.below HB12.out) (by omega)).mono ?_
      rintro e w13 ⟨v, rfl, hown, hb⟩
      obtain ⟨X_z0, d_z0, rfl, hle_z0, _, _⟩ := hown.sl
      have HU_z0 := Lib.hid hown.up
      have HO_z0 := Lib.hid hown
      have HB13 := Lib.hid (Below_then HB12.out hb (Nat.le_refl _))
      have hz13 := hb.size
      replace HO_w0_ := Lib.hid (HO_w0_.out.below hb)
      replace HO_g0_ := Lib.hid (HO_g0_.out.below hb)
      clear hb hown
      go_wp2_with fail
      refine (HCI.out _ _ _ HO_z0.out.sl' (HTZ.out.below HB13.out) (HMX.out.below HB13.out)).mono ?_
      rintro e w14 ⟨v, rfl, hown0, hb⟩
      obtain ⟨X_h0_, d_h0_, rfl, _, _, _⟩ := hown0.sl
      have HU_h0_ := Lib.hid hown0.up
      have HO_h0_ := Lib.hid hown0
      have HB14 := Lib.hid (Below_then HB13.out hb (Nat.le_refl _))
      have hz14 := hb.size
      replace HO_w0_ := Lib.hid (HO_w0_.out.below hb)
      replace HO_g0_ := Lib.hid (HO_g0_.out.below hb)
      clear hb hown0
      go_wp2_with fail
      refine (str_eq2 _ _ _ _ R0 _ HO_h0_.out.sl' HO_w0_.out.sl' (by omega)).mono ?_
      rintro e w15 ⟨rfl, hb⟩
      have HB15 := Lib.hid (Below_then HB14.out hb (Nat.le_refl _))
      have hz15 := hb.size
      replace HO_w0_ := Lib.hid (HO_w0_.out.below hb)
      replace HO_g0_ := Lib.hid (HO_g0_.out.below hb)
      replace HO_h0_ := Lib.hid (HO_h0_.out.below hb)
      clear hb
      go_wp2_with fail
      refine (heldStringS_any _ _ 1 _ _ HO_g0_.out.sl' (by omega) (by omega)).mono ?_
      rintro e w16 ⟨rfl, hb⟩
      have HB16 := Lib.hid (Below_then HB15.out hb (Nat.le_refl _))
      have hz16 := hb.size
      replace HO_g0_ := Lib.hid (HO_g0_.out.below hb)
      clear hb
      rw [HMM0.out]
      go_wp2
      go_ret
      exact ⟨rfl, HB16.out⟩
end Go.Proofs.YtaeaccakkielmaaGreatDoor

/- The frame of a law whose row lists variables of the library: the world's shape is kept beside the condition. -/
set_option linter.unusedVariables false
namespace Go.Proofs.YtaeaccakkielmaaGreatDoor
open Go Go.ChangeShapes Go.WideShapes
variable {H : Type} {enc : TypeId × Value → H}
theorem returns_and_shaped {a : Assume} {C : Checked} {os : Os} {f : FuncId} {fn : Func} {s : ChangeSpec} {conds : List PathCond} {apart fresh handsOn again : Bool} {X : World → Array Value → Prop}
    (hX : ∀ (w w' : World) (args : Array Value), w.heap = w'.heap → X w args → X w' args)
    (own : ownKnob C.prog.godebug = none) (started : os.Started) (noInit : C.prog.inits.idxOf? f = none) (hfn : C.prog.funcs[f]? = some fn)
    (witness : ∃ (w : World) (tape : Tape) (i : Input), w.os = os ∧ (w.forCall tape i).Shaped C.prog ∧ i.vars = [] ∧ Input.okWide C.prog (w.forCall tape i) .any w.heap.size f i ∧
      ((s.pre enc C.prog fn conds apart (w.forCall tape i).memory i.args ∧ X (w.forCall tape i).memory i.args) ∧ sizedMet enc C.prog fn (OpenSpec.ofChange s) apart (w.forCall tape i).memory i.args) ∧ a.holds C.prog (lone (Frame.enter C.prog f i.args .normal) [] (w.forCall tape i)))
    (contract : ∀ (W : World) (base : Nat) (args : Array Value) (ds gs : List (DataW H)) (before : List MemPlace),
      (∀ (j : Nat) t v, fn.params[j]? = some t → args[j]? = some v → Value.okWide C.prog W .any base t v) →
      DataW.Whole enc C.prog fn.params.toList s.vars apart W args.toList ds gs before → W.ShapedOpen C.prog → X W args →
      Calls C.prog f args W fun e W' => ∃ v, e = .returned v ∧ s.post enc C.prog fn apart fresh handsOn again W args v W') :
    ReturnsInHanded a C os f .any (fun w args => (s.pre enc C.prog fn conds apart w args ∧ X w args) ∧ sizedMet enc C.prog fn (OpenSpec.ofChange s) apart w args) (s.post enc C.prog fn apart fresh handsOn again) := by
  refine returnsInHanded_of_calls own started noInit witness ?_
  intro w tape i _ hsh _ hok hpre hholds
  obtain ⟨_, _, _, fn', hfn', _, _, _, _, hval⟩ := hok
  have e : fn' = fn := Option.some.inj (hfn'.symm.trans hfn)
  subst e
  obtain ⟨⟨⟨ds, gs, before, hw, hc⟩, hx⟩, hz⟩ := hpre
  have hw' := DataW.Whole.of_heap (w' := w.forCall tape i) (by rfl) hw
  refine (contract (w.forCall tape i) w.heap.size i.args ds gs before hval hw' hsh (hX _ _ _ (by rfl) hx)).mono fun e W' ⟨v, he, hp⟩ => ?_
  subst he
  exact ChangeSpec.post_blind hp
end Go.Proofs.YtaeaccakkielmaaGreatDoor

/- What the listed table of math/bits holds. -/
set_option linter.unusedVariables false
namespace Go.Proofs.YtaeaccakkielmaaGreatDoor
open Go Go.ChangeShapes Go.WideShapes
set_option maxRecDepth 100000 in
theorem tz_laid {W : World} (h : laidMetH Tryz.prog [("math/bits.deBruijn64tab", Rows.laid_math_bits_deBruijn64tab)] W) : TzL W := by
  rw [MakeChecks.laidMetH_plain _ _ _ (by kernel_rfl)] at h
  obtain ⟨ps, ⟨g, t, cs, fuel, p, q, hg, ht, hv, hd, _, _⟩, _, _⟩ := h
  obtain rfl := Option.some.inj ((show Tryz.prog.globalNamed "math/bits.deBruijn64tab" = some 5 by kernel_rfl).symm.trans hg)
  obtain rfl := Option.some.inj ((show (Tryz.prog.globals[5]?).map (·.type) = some 142 by kernel_rfl).symm.trans ht)
  obtain ⟨xs, m, _, ex, _, hl, hel⟩ := DataW.trod_array Tryz.underlying142 hd
  have c5 : Tryz.prog.cellsOf 5 = 1 := by kernel_rfl
  have hE := hel 15 (by omega)
  rw [c5, Nat.mul_one, List.getElem?_eq_getElem (by omega)] at hE
  obtain ⟨z, e1, e2, _⟩ := DataW.trod_int Tryz.underlying5 hE
  have e3 := (Prod.mk.inj ex).1
  unfold Rows.laid_math_bits_deBruijn64tab at e3
  have e4 : (xs.map (·.1))[15]? = some (.lit (.int .u8 4)) := by rw [← DataW.agg.inj e3]; rfl
  rw [List.getElem?_map, List.getElem?_eq_getElem (by omega : 15 < xs.length), e2] at e4
  have hz : z = 4 := by simpa using e4
  unfold TzL
  rw [World.var?_cell hg hv 15, ← hz]
  have : cs.toList[15]? = some (.int .u8 z) := by
    have h0 : ((cs.toList.drop 15).take 1)[0]? = some (.int .u8 z) := by rw [e1]; rfl
    simpa using h0
  simpa using this
end Go.Proofs.YtaeaccakkielmaaGreatDoor
