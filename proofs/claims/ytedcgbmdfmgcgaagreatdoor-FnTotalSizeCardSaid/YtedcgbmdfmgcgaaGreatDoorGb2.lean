/- Texts in one: Pi, Wi, Wj, Wl. -/
import Derived.Test.YtedcgbmdfmgcgaaGreatDoorIne
import Derived.Test.YtedcgbmdfmgcgaaGreatDoorPe
import Derived.Test.YtedcgbmdfmgcgaaGreatDoorBe
import Derived.Test.YtedcgbmdfmgcgaaGreatDoorGa1
import Derived.Test.YtedcgbmdfmgcgaaGreatDoorGb1
import Derived.Test.YtedcgbmdfmgcgaaGreatDoorFt
import Derived.Test.YtedcgbmdfmgcgaaGreatDoorWk1
import Derived.Test.YtedcgbmdfmgcgaaGreatDoorS3
/- PutEntry of the program, walked. -/
set_option linter.unusedVariables false
namespace Go.Proofs.YtedcgbmdfmgcgaaGreatDoor
open Go.RowKit
attribute [local go_sem] mk_toList
theorem insE_set {l : List En} {e : En} (h : hereE l (tx e.1) = true) (hk : posE l (tx e.1) < l.length) : insE l e = l.set (posE l (tx e.1)) e := by
  obtain ⟨_, h2⟩ := hereE_iff.1 h
  rw [insE_here hk rfl h2, List.set_eq_take_append_cons_drop, if_pos hk]
theorem insE_call {l : List En} {x : En} {B : Nat} {w0 w2 w3 : World} {X : Option Addr} {d : Nat} (hb2 : Below w0.heap.size w0 w2) (hown3 : Own w3 w2.heap.size 100 2 encE (.slice X l.length d) l) (hb3 : Below w2.heap.size w2 w3) (hB : B ≤ l.length) (hl : l.length ≤ 16777216) :
    Calls Tryz.prog 126 #[.slice X l.length d, .int .i64 (B : Nat), .slice (some ⟨w3.heap.size, 0, none⟩) 1 1] (w3.alloc (.cells #[.string x.1, .int .i64 x.2] 100)) fun e w' => ∃ v', e = .returned v' ∧ Own w' w0.heap.size 100 2 encE v' (l.take B ++ x :: l.drop B) ∧ Below w0.heap.size w0 w' :=
  (InsertEn_any w2.heap.size X d l x B _ w3.heap.size (Nat.le_trans hb3.size (by simp)) (hown3.alloc _) (heap_alloc_new w3 _) (by
    rintro g o rfl
    have := hown3.blk g rfl
    omega) hB hl).mono fun e w' ⟨v', he, ho, hb⟩ => ⟨v', he, ho.mono hb2.size, Below_then hb2 ((hb3.alloc hb3.size _).trans hb) (Nat.le_refl _)⟩
set_option maxHeartbeats 4000000 in
set_option maxRecDepth 100000 in
theorem iPutEntry_any (A : Option Addr) (c : Nat) (l : List En) (e0 : En) (w : World) (hs : Sl w encE 2 A l) (hcz : A = none → c = 0) (hv : entsV l = true) (he : e0.1.size ≤ 16777216) :
    Calls Tryz.prog 103 #[.slice A l.length c, .agg #[.string e0.1, .int .i64 e0.2]] w (EnRes (putE l e0) w) := by
  have hl3 := entsV_len hv
  have HS := Lib.hid hs
  have hEV := fun w h => iEntriesValid_any A c l w h (by omega) (fitE_valid hv)
  rw [hv] at hEV
  have HEV := Lib.hid hEV
  have hCL := fun w h => CloneEn_any A c l w h hcz (by omega)
  unfold OwnRes at hCL
  have HCL := Lib.hid hCL
  have hil := insE_len l e0
  have hpos := posE_le l (tx e0.1)
  have hFE := fun X d w h => findEntry_any X d l e0.1 w h (by omega) (entsV_sorted hv)
  unfold FeRes at hFE
  have hE2 := fun X d w h => iEntriesValid_any X d (insE l e0) w h (by omega) (fitE_ins hv he)
  have hPY : entsV (insE l e0) = true → putE l e0 = (insE l e0, true) := fun h => by unfold putE; rw [hv, if_pos rfl, if_pos h]
  have hPN : entsV (insE l e0) = false → putE l e0 = (l, false) := fun h => by unfold putE; rw [hv, if_pos rfl, if_neg (by rw [h]; simp)]
  have hSET : ∀ h : hereE l (tx e0.1) = true, insE l e0 = l.set (posE l (tx e0.1)) e0 := fun h => insE_set h (hereE_iff.1 h).1
  have hINS : hereE l (tx e0.1) = false → insE l e0 = l.take (posE l (tx e0.1)) ++ e0 :: l.drop (posE l (tx e0.1)) := fun h => insE_not rfl (fun hk e => by
    rw [hereE_iff.2 ⟨hk, e⟩] at h; cases h)
  have hlt : hereE l (tx e0.1) = true → posE l (tx e0.1) < l.length := fun h => (hereE_iff.1 h).1
  obtain ⟨n0, p0⟩ := e0
  simp only at *
  have HPY := Lib.hid hPY
  have HPN := Lib.hid hPN
  have HSET := Lib.hid hSET
  have HINS := Lib.hid hINS
  have HLT := Lib.hid hlt
  clear hs hEV hCL hPY hPN hSET hINS hlt hcz hv he
  generalize putE l (n0, p0) = R at *
  generalize hI : insE l (n0, p0) = I at *
  have HI := Lib.hid hI
  clear hI
  generalize posE l (tx n0) = k at *
  cases hh : hereE l (tx n0)
  · rw [hh] at hFE
    have HFE := Lib.hid hFE
    have HX := Lib.hid (HINS.out hh)
    clear hFE hh
    go_enter Tryz.func103, Tryz.ntmps103
    go_wp2_with fail
    refine (HEV.out _ (HS.out.alloc _)).mono ?_
    rintro e w1 ⟨rfl, hb1⟩
    have HB1 := Lib.hid (Below_of_alloc hb1)
    have HS1 := Lib.hid (HS.out.below HB1.out)
    have HBX := Lib.hid ((BoxE.new w (n0, p0)).below hb1)
    clear hb1
    go_wp2_with fail
    refine (HCL.out _ HS1.out).mono ?_
    rintro e w2 ⟨v2, rfl, hown2, hb2⟩
    obtain ⟨X, d, rfl, hle2, hsx2, _⟩ := hown2.sl
    have HSX := Lib.hid hsx2
    have HW2 := Lib.hid hown2
    have HY2 := Lib.hid hb2
    replace HBX := Lib.hid (HBX.out.below hb2)
    obtain ⟨hx0, hx1⟩ := HBX.out
    clear hown2 hb2 hsx2
    go_wp2_with fail
    refine (HFE.out X d _ HSX.out).mono ?_
    rintro e w3 ⟨rfl, hb3⟩
    have HW3 := Lib.hid (HW2.out.below hb3)
    have HY3 := Lib.hid (Below_then HY2.out hb3 (Nat.le_refl _))
    have HS3 := Lib.hid ((HS1.out.below HY2.out).below hb3)
    obtain ⟨hx2, hx3⟩ := HBX.out.below hb3
    clear hb3 hx0 hx1
    go_wp2_with fail
    refine (insE_call (x := (n0, p0)) HB1.out HW3.out HY3.out hpos (by omega)).mono ?_
    rintro e w4 ⟨v4, rfl, hown4, hb4⟩
    rw [← HX.out] at hown4
    obtain ⟨Z, dz, rfl, hlez, hsz, _⟩ := hown4.sl
    have HW4 := Lib.hid hown4
    have HSZ := Lib.hid hsz
    have HB4 := Lib.hid hb4
    have HS4 := Lib.hid (HS.out.below hb4)
    clear hown4 hsz hb4
    cases hvi : entsV I
    · rw [hvi] at hE2
      have HE2 := Lib.hid hE2
      have HR := Lib.hid (HPN.out hvi)
      clear hE2 hvi
      go_wp2_with fail
      refine (HE2.out Z dz _ HSZ.out).mono ?_
      rintro e w5 ⟨rfl, hb5⟩
      have HB5 := Lib.hid (Below_then HB4.out hb5 (Nat.le_refl _))
      have HS5 := Lib.hid (HS4.out.below hb5)
      clear hb5
      go_wp2_with fail
      refine (HCL.out _ HS5.out).mono ?_
      rintro e w6 ⟨v6, rfl, hown6, hb6⟩
      have HW6 := Lib.hid (hown6.mono HB5.out.size)
      have HB6 := Lib.hid (Below_then HB5.out hb6 (Nat.le_refl _))
      clear hown6 hb6
      go_wp2
      go_ret2
      rw [HR.out]
      exact ⟨_, rfl, HW6.out, HB6.out⟩
    · rw [hvi] at hE2
      have HE2 := Lib.hid hE2
      have HR := Lib.hid (HPY.out hvi)
      clear hE2 hvi
      go_wp2_with fail
      refine (HE2.out Z dz _ HSZ.out).mono ?_
      rintro e w5 ⟨rfl, hb5⟩
      have HB5 := Lib.hid (Below_then HB4.out hb5 (Nat.le_refl _))
      have HW5 := Lib.hid (HW4.out.below hb5)
      clear hb5
      go_wp2
      go_ret2
      rw [HR.out]
      exact ⟨_, rfl, HW5.out, HB5.out⟩
  · rw [hh] at hFE
    have HFE := Lib.hid hFE
    have HX := Lib.hid (HSET.out hh)
    have hkl := HLT.out hh
    clear hFE hh
    go_enter Tryz.func103, Tryz.ntmps103
    go_wp2_with fail
    refine (HEV.out _ (HS.out.alloc _)).mono ?_
    rintro e w1 ⟨rfl, hb1⟩
    have HB1 := Lib.hid (Below_of_alloc hb1)
    have HS1 := Lib.hid (HS.out.below HB1.out)
    have HBX := Lib.hid ((BoxE.new w (n0, p0)).below hb1)
    clear hb1
    go_wp2_with fail
    refine (HCL.out _ HS1.out).mono ?_
    rintro e w2 ⟨v2, rfl, hown2, hb2⟩
    obtain ⟨X, d, rfl, hle2, hsx2, _⟩ := hown2.sl
    obtain ⟨g, rfl, hg1, hg2⟩ := hown2.head (by omega)
    have HSX := Lib.hid hsx2
    have HW2 := Lib.hid hown2
    have HB2 := Lib.hid (Below_then HB1.out hb2 (Nat.le_refl _))
    have hgw : w.heap.size ≤ g := Nat.le_trans HB1.out.size hg1
    replace HBX := Lib.hid (HBX.out.below hb2)
    obtain ⟨hx0, hx1⟩ := HBX.out
    clear hown2 hb2 hsx2
    go_wp2_with fail
    refine (HFE.out (some ⟨g, 0, none⟩) d _ HSX.out).mono ?_
    rintro e w3 ⟨rfl, hb3⟩
    have HW3 := Lib.hid (HW2.out.below hb3)
    have HB3 := Lib.hid (Below_then HB2.out hb3 (Nat.le_refl _))
    obtain ⟨hx2, hx3⟩ := HBX.out.below hb3
    clear hb3 hx0 hx1
    have hset := HW3.out.setEl (fun _ => rfl) (by omega) hkl (n0, p0)
    rw [← HX.out] at hset
    have hIl : l.length = I.length := by rw [HX.out, List.length_set]
    have HSET2 := Lib.hid (show Own ((w3.setCell ⟨g, k * 2, none⟩ (.string n0)).setCell ⟨g, k * 2 + 1, none⟩ (.int .i64 p0)) w1.heap.size 100 2 encE (.slice (some ⟨g, 0, none⟩) l.length d) I from hset)
    obtain ⟨b3, o3, e, hy0, hy1⟩ := HW3.out.sl'.getE hkl
    injection e with e; injection e with e1 e2
    subst e1 e2
    simp only [Nat.zero_add] at hy0 hy1
    have hz0 := HW3.out.free' (k * 2)
    have hz1 := HW3.out.free' (k * 2 + 1)
    have HB4 := Lib.hid ((HB3.out.setCell (p := ⟨g, k * 2, none⟩) hgw (.string n0)).setCell (p := ⟨g, k * 2 + 1, none⟩) hgw (.int .i64 p0))
    have HSZ := Lib.hid (show Sl ((w3.setCell ⟨g, k * 2, none⟩ (.string n0)).setCell ⟨g, k * 2 + 1, none⟩ (.int .i64 p0)) encE 2 (some ⟨g, 0, none⟩) I from HSET2.out.sl')
    have HW4 := Lib.hid (HSET2.out.mono HB1.out.size)
    have hE3 : ∀ w, Sl w encE 2 (some ⟨g, 0, none⟩) I → Calls Tryz.prog 105 #[.slice (some ⟨g, 0, none⟩) l.length d] w fun e w' => e = .returned (.bool (entsV I)) ∧ Below w.heap.size w w' := by
      rw [hIl]; exact hE2 _ _
    clear hset hE2 hIl
    cases hvi : entsV I
    · rw [hvi] at hE3
      have HE2 := Lib.hid hE3
      have HR := Lib.hid (HPN.out hvi)
      clear hE3 hvi
      go_wp2_with fail
      refine (HE2.out _ HSZ.out).mono ?_
      rintro e w5 ⟨rfl, hb5⟩
      have HB5 := Lib.hid (Below_then HB4.out hb5 (Nat.le_refl _))
      have HS5 := Lib.hid (HS.out.below HB5.out)
      clear hb5
      go_wp2_with fail
      refine (HCL.out _ HS5.out).mono ?_
      rintro e w6 ⟨v6, rfl, hown6, hb6⟩
      have HW6 := Lib.hid (hown6.mono HB5.out.size)
      have HB6 := Lib.hid (Below_then HB5.out hb6 (Nat.le_refl _))
      clear hown6 hb6
      go_wp2
      go_ret2
      rw [HR.out]
      exact ⟨_, rfl, HW6.out, HB6.out⟩
    · rw [hvi] at hE3
      have HE2 := Lib.hid hE3
      have HR := Lib.hid (HPY.out hvi)
      clear hE3 hvi
      go_wp2_with fail
      refine (HE2.out _ HSZ.out).mono ?_
      rintro e w5 ⟨rfl, hb5⟩
      have HB5 := Lib.hid (Below_then HB4.out hb5 (Nat.le_refl _))
      have HW5 := Lib.hid (HW4.out.below hb5)
      clear hb5
      go_wp2
      go_ret2
      rw [HR.out]
      exact ⟨_, rfl, HW5.out, HB5.out⟩
end Go.Proofs.YtedcgbmdfmgcgaaGreatDoor

/- The folders on the way: foldersToWrite of the program, walked. -/
set_option linter.unusedVariables false
namespace Go.Proofs.YtedcgbmdfmgcgaaGreatDoor
open Go.RowKit
theorem fitP_valid {l : List Pc} (h : storeV l = true) : FitP l := fun q hq => by
  have := textV_size (pieceOk_iff.1 (storeV_piece h hq)).1
  omega
theorem putE_val (l : List En) (e : En) : entsV (putE l e).1 = true := by
  unfold putE
  split
  · split
    · assumption
    · assumption
  · rfl
theorem foldsL_at {s : List Pc} {a : Option Int} {pl : List ByteArray} {k : Nat} {acc : List (List En)} (h : k < pl.length) :
    (foldsL s a ((pl.drop k).map tx)).map (acc ++ ·) = (listAt s a).bind fun l => (foldsL s (getE l (tx pl[k])) ((pl.drop (k + 1)).map tx)).map ((acc ++ [l]) ++ ·) := by
  rw [List.drop_eq_getElem_cons h, List.map_cons, foldsL_step]
theorem foldsL_start {s : List Pc} {a : Option Int} {ns : List Bs} : foldsL s a ns = (foldsL s a ns).map ([] ++ ·) := by
  cases foldsL s a ns <;> rfl
theorem Own.apart_of {α : Type} {enc : α → List Value} {w : World} {base size : Nat} {E : TypeId} {A : Option Addr} {n c : Nat} {l : List α} (h : Own w base E size enc (.slice A n c) l) : A = none ∨ ∃ b o, A = some ⟨b, o, none⟩ := by
  obtain ⟨A', c', e, _, _, hg⟩ := h.sl
  injection e with e1 _ _
  subst e1
  rcases hg with ⟨_, h⟩ | ⟨g, h, _⟩
  · exact .inl h
  · exact .inr ⟨g, 0, h⟩
theorem RowL.of_own {w : World} {base : Nat} {v : Value} {A : Option Addr} {n c : Nat} {l : List En} {E : TypeId} (h : Own w base E 2 encE (.slice A n c) l) (hn : n = l.length) (hle : l.length ≤ c) (hv : entsV l = true) (hb : ∀ g, v.ownBlock = some g → g < base) : RowL w v (A, n, c) l :=
  ⟨hn, (by obtain ⟨A', c', e, _, hs, _⟩ := h.sl; (injection e with e1); rw [e1]; exact hs), h.cz, hle, h.apart_of, h.apart hb, h.ltA, hv⟩
theorem RowL.nil_ {w : World} {v : Value} : RowL w v (none, 0, 0) [] := ⟨rfl, Sl.none_, fun _ => rfl, Nat.le_refl _, .inl rfl, (fun b o e => by (have e : (none : Option Addr) = some ⟨b, o, none⟩ := e); cases e), (fun b o e => by (have e : (none : Option Addr) = some ⟨b, o, none⟩ := e); cases e), rfl⟩
set_option maxHeartbeats 1000000 in
set_option maxRecDepth 100000 in
theorem iFileText_any (s : ByteArray) (w : World) (hs : s.size ≤ 16777216) : Calls Tryz.prog 66 #[.string s] w fun e w' => e = .returned (.string (mk (fileT (bs s)))) ∧ w = w' := by
  have hCV := fun w => iContentValid_any s w hs
  cases hc : contV (bs s)
  · have HE := Lib.hid (show mk (fileT (bs s)) = ⟨#[]⟩ by unfold fileT; rw [hc]; rfl)
    rw [hc] at hCV
    have HCV := Lib.hid hCV
    clear hCV hc
    go_enter Tryz.func66, Tryz.ntmps66
    go_wp2_with (go_at_call 62; refine (HCV.out _).mono ?_; rintro e w' ⟨rfl, rfl⟩)
    go_ret
    rw [HE.out]; exact ⟨rfl, rfl⟩
  · have HE := Lib.hid (show mk (fileT (bs s)) = ⟨#[102]⟩ ++ s by rw [fileT_ok hc, show (102 :: bs s) = [102] ++ bs s from rfl, ← mk_append]; exact congrArg (mk [102] ++ ·) (mk_tx s))
    have hz : s.size ≤ 40 := by
      have := hc
      unfold contV at this
      rw [Bool.and_eq_true, decide_eq_true_eq, size_bs] at this; exact this.2
    have hq := str_add (x := ⟨#[102]⟩) (y := s) (by decide) (by omega)
    rw [hc] at hCV
    have HCV := Lib.hid hCV
    clear hCV hc
    go_enter Tryz.func66, Tryz.ntmps66
    go_wp2_with (go_at_call 62; refine (HCV.out _).mono ?_; rintro e w' ⟨rfl, rfl⟩)
    go_ret
    rw [HE.out]; exact ⟨rfl, rfl⟩
def FwiRes (r : Option (List (List En))) (w : World) (e : Ending) (w' : World) : Prop :=
  ∃ v, e = .returned (.tuple #[v, .bool r.isSome]) ∧ Folds w' w.heap.size v (r.getD []) ∧ Below w.heap.size w w'
theorem FwiRes.no {r : Option (List (List En))} {w w' : World} (h : r = none) (hb : Below w.heap.size w w') : FwiRes r w (.returned (.tuple #[.slice none 0 0, .bool false])) w' := by
  subst h; exact ⟨_, rfl, Folds.nil, hb⟩
theorem FwiRes.yes {r : Option (List (List En))} {w w' : World} {v : Value} {fs : List (List En)} (h : r = some fs) (hf : Folds w' w.heap.size v fs) (hb : Below w.heap.size w w') : FwiRes r w (.returned (.tuple #[v, .bool true])) w' := by
  subst h; exact ⟨_, rfl, hf, hb⟩
set_option maxHeartbeats 8000000 in
set_option maxRecDepth 100000 in
theorem ifoldersToWrite_any (A PA : Option Addr) (c pc : Nat) (l : List Pc) (root : Int) (pl : List ByteArray) (w : World) (hs : Sl w encP 2 A l) (hv : storeV l = true) (hps : Sl w encS 1 PA pl) (hpl : pl.length ≤ 3) (ht : TzL w) (hm : MaxL w) :
    Calls Tryz.prog 63 #[.slice A l.length c, .int .i64 root, .slice PA pl.length pc] w (FwiRes (foldsL l (some root) (pl.map tx)) w) := by
  have HS := Lib.hid hs
  have HV := Lib.hid hv
  have HPS := Lib.hid hps
  have HT := Lib.hid ht
  have HM := Lib.hid hm
  have HE0 := Lib.hid (show foldsL l (some root) (pl.map tx) = (foldsL l (some root) ((pl.drop 0).map tx)).map ([] ++ ·) from foldsL_start)
  clear hs hv hps ht hm
  generalize foldsL l (some root) (pl.map tx) = R at *
  go_enter Tryz.func63, Tryz.ntmps63
  go_wp2_with fail
  go_loopw [8, 9, 10, 21] (fun vf va vt vi wr => ∃ (k : Nat) (a : Option Int) (acc : List (List En)), k ≤ pl.length ∧ va = .int .i64 (a.getD (-1)) ∧ vt = .bool a.isSome ∧ vi = .int .i64 k ∧ acc.length = k ∧ Hid (R = (foldsL l a ((pl.drop k).map tx)).map (acc ++ ·)) ∧ Hid (Folds wr w.heap.size vf acc) ∧ Hid (Below w.heap.size w wr)) (fun _ _ _ vi _ => pl.length - (intOf vi).toNat)
  case atStart => exact ⟨0, some root, [], Nat.zero_le _, rfl, rfl, rfl, rfl, HE0.out, Folds.nil, Below.refl _ _⟩
  case round =>
    obtain ⟨k, a, acc, hk, rfl, rfl, rfl, hacc, HR, HF, HB⟩ := hrel
    have HSW := Lib.hid (HS.out.below HB.out)
    have HTW := Lib.hid (HT.out.below HB.out)
    have HMW := Lib.hid (HM.out.below HB.out)
    by_cases hlt : k < pl.length
    · have hlt' : (k : Int) < (pl.length : Int) := by omega
      have hal : acc.length ≤ 16777216 := by omega
      have HAL := Lib.hid hacc
      clear hacc
      obtain ⟨b, o, rfl, hc⟩ := (HPS.out.below HB.out).getS hlt
      have hstep := HR.out.trans (foldsL_at hlt)
      generalize pl[k] = nm at *
      cases a with
      | none =>
        have HSTEP := Lib.hid (show R = (foldsL l (getE [] (tx nm)) ((pl.drop (k + 1)).map tx)).map ((acc ++ [[]]) ++ ·) from hstep)
        have hPN := fun A c w h => printNamed_any A c [] nm w h (by decide) (entsV_sorted rfl)
        unfold PnRes at hPN
        have hge : getE [] (tx nm) = none := rfl
        rw [hge] at hPN
        have HPN := Lib.hid hPN
        simp only [Option.isSome_none, Option.getD_none] at *
        clear hstep hPN hge
        go_wp2_with (at_builtin; refine app_fold (w0 := w) (l := []) rfl rfl (by rfl) (by rfl) HF.out HB.out hal RowL.nil_ ?_; intro v4 w4 hF4 hb4 hg4 hk4; have HF4 := Lib.hid hF4; have HB4 := Lib.hid hb4; clear hF4 hb4 hg4 hk4)
        refine (HPN.out none 0 _ Sl.none_).mono ?_
        rintro e w5 ⟨rfl, hb5⟩
        have HF5 := Lib.hid (HF4.out.below hb5)
        have HB5 := Lib.hid (Below_then HB4.out hb5 (Nat.le_refl _))
        clear hb5
        go_wp2
        go_roundw
        case rel => exact ⟨k + 1, none, acc ++ [[]], by omega, rfl, rfl, by go_num, by rw [List.length_append, HAL.out]; rfl, HSTEP.out, HF5.out, HB5.out⟩
        case measure => simp [intOf]; omega
      | some p =>
        have hFO := fun w h h2 h3 => ifolderOf_any A c l p w h HV.out h2 h3
        unfold RfRes at hFO
        have hla : listAt l (some p) = folderOf l p := rfl
        rw [hla] at hstep
        cases hfo : folderOf l p with
        | none =>
          have HSTEP := Lib.hid (show R = none by rw [hstep, hfo]; rfl)
          rw [hfo] at hFO
          have HFO := Lib.hid hFO
          simp only [Option.isSome_some, Option.getD_some] at *
          clear hstep hFO hla hfo
          go_wp2_with fail
          refine (HFO.out _ HSW.out HTW.out HMW.out).mono ?_
          rintro e w3 ⟨v3, rfl, hown3, hb3⟩
          have HB3 := Lib.hid (Below_then HB.out hb3 (Nat.le_refl _))
          clear hown3 hb3
          go_wp2
          go_ret2
          exact FwiRes.no HSTEP.out HB3.out
        | some en =>
          have hen3 : en.length ≤ 3 := entsV_len (folder_valid hfo)
          have HEV := Lib.hid (folder_valid hfo)
          have HSTEP := Lib.hid (show R = (foldsL l (getE en (tx nm)) ((pl.drop (k + 1)).map tx)).map ((acc ++ [en]) ++ ·) by rw [hstep, hfo]; rfl)
          rw [hfo] at hFO
          have HFO := Lib.hid hFO
          have hPN := fun A c w h => printNamed_any A c en nm w h (by omega) (entsV_sorted HEV.out)
          unfold PnRes at hPN
          simp only [Option.isSome_some, Option.getD_some] at *
          generalize getE en (tx nm) = a2 at *
          have HPN := Lib.hid hPN
          clear hstep hFO hla hfo hPN
          go_wp2_with fail
          refine (HFO.out _ HSW.out HTW.out HMW.out).mono ?_
          rintro e w3 ⟨v3, rfl, hown3, hb3⟩
          obtain ⟨X, d, rfl, hle3, _, _⟩ := hown3.sl
          have HB3 := Lib.hid (Below_then HB.out hb3 (Nat.le_refl _))
          have HROW := Lib.hid (RowL.of_own hown3 rfl hle3 HEV.out (fun g hg => (HF.out.blk g hg).2))
          have HF3 := Lib.hid (HF.out.below hb3)
          clear hown3 hb3
          go_wp2_with (at_builtin; refine app_fold (w0 := w) (l := en) rfl rfl (by rfl) (by rfl) HF3.out HB3.out hal HROW.out ?_; intro v4 w4 hF4 hb4 hg4 hk4; have HF4 := Lib.hid hF4; have HB4 := Lib.hid hb4; have HX4 := Lib.hid (HROW.out.sl.grew hg4 HROW.out.apart); clear hF4 hb4 hg4 hk4)
          refine (HPN.out X d _ HX4.out).mono ?_
          rintro e w5 ⟨rfl, hb5⟩
          have HF5 := Lib.hid (HF4.out.below hb5)
          have HB5 := Lib.hid (Below_then HB4.out hb5 (Nat.le_refl _))
          clear hb5
          go_wp2
          go_roundw
          case rel => exact ⟨k + 1, a2, acc ++ [en], by omega, rfl, rfl, by go_num, by rw [List.length_append, HAL.out]; rfl, HSTEP.out, HF5.out, HB5.out⟩
          case measure => simp [intOf]; omega
    · have hlt' : ¬ (k : Int) < (pl.length : Int) := by omega
      have hend := HR.out
      rw [List.drop_of_length_le (by omega), List.map_nil, foldsL_end] at hend
      cases a with
      | none =>
        have HEND := Lib.hid (show R = some acc from hend)
        simp only [Option.isSome_none, Option.getD_none] at *
        clear hend
        go_wp2
        go_ret2
        exact FwiRes.yes HEND.out HF.out HB.out
      | some p =>
        have hFI := fun w h => ifileOf_any A c l p w h HV.out
        unfold FoRes at hFI
        have hlo : leafOk l (some p) = (fileOf l p).isSome := rfl
        rw [hlo] at hend
        simp only [Option.isSome_some, Option.getD_some] at *
        generalize mk ((fileOf l p).getD []) = CT at *
        cases hfi : (fileOf l p).isSome
        · rw [hfi] at hend hFI
          have HEND := Lib.hid (show R = none from hend)
          have HFI := Lib.hid hFI
          clear hend hFI hlo hfi
          go_wp2_with fail
          refine (HFI.out _ HSW.out).mono ?_
          rintro e w3 ⟨rfl, hb3⟩
          have HB3 := Lib.hid (Below_then HB.out hb3 (Nat.le_refl _))
          clear hb3
          go_wp2
          go_ret2
          exact FwiRes.no HEND.out HB3.out
        · rw [hfi] at hend hFI
          have HEND := Lib.hid (show R = some acc from hend)
          have HFI := Lib.hid hFI
          clear hend hFI hlo hfi
          go_wp2_with fail
          refine (HFI.out _ HSW.out).mono ?_
          rintro e w3 ⟨rfl, hb3⟩
          have HB3 := Lib.hid (Below_then HB.out hb3 (Nat.le_refl _))
          have HF3 := Lib.hid (HF.out.below hb3)
          clear hb3
          go_wp2
          go_ret2
          exact FwiRes.yes HEND.out HF3.out HB3.out
end Go.Proofs.YtedcgbmdfmgcgaaGreatDoor

/- The way back up: putFolders of the program, walked. -/
set_option linter.unusedVariables false
namespace Go.Proofs.YtedcgbmdfmgcgaaGreatDoor
open Go.RowKit
def PfRes (base : Nat) (r : Option (List Pc × Int)) (w : World) (e : Ending) (w' : World) : Prop :=
  ∃ v, e = .returned (.tuple #[v, .int .i64 ((r.map (·.2)).getD (-1)), .bool r.isSome]) ∧ Own w' base 83 2 encP v ((r.map (·.1)).getD []) ∧ Below w.heap.size w w'
theorem PfRes.no {base : Nat} {r : Option (List Pc × Int)} {w w' : World} (h : r = none) (hb : Below w.heap.size w w') : PfRes base r w (.returned (.tuple #[.slice none 0 0, .int .i64 (-1), .bool false])) w' := by
  subst h; exact ⟨_, rfl, Own.nil, hb⟩
theorem PfRes.yes {base : Nat} {r : Option (List Pc × Int)} {w w' : World} {v : Value} {l : List Pc} {p : Int} (h : r = some (l, p)) (ho : Own w' base 83 2 encP v l) (hb : Below w.heap.size w w') : PfRes base r w (.returned (.tuple #[v, .int .i64 p, .bool true])) w' := by
  subst h; exact ⟨_, rfl, ho, hb⟩
set_option maxHeartbeats 8000000 in
set_option maxRecDepth 100000 in
theorem iputFolders_any (base : Nat) (v FV : Value) (PA : Option Addr) (pc : Nat) (l : List Pc) (p : Int) (fs : List (List En)) (pl : List ByteArray) (fb : Nat) (w : World) (hown : Own w base 83 2 encP v l) (hbase : base ≤ w.heap.size) (hv : storeV l = true) (hF : Folds w fb FV fs) (hps : Sl w encS 1 PA pl) (hfl : fs.length = pl.length) (hpl : pl.length ≤ 3) (hsz : ∀ x ∈ pl, x.size ≤ 16777216) (ht : TzL w) (hm : MaxL w) :
    Calls Tryz.prog 67 #[v, FV, .slice PA pl.length pc, .int .i64 p] w (PfRes base (putF l fs (pl.map tx) p) w) := by
  have HW := Lib.hid hown
  have HV := Lib.hid hv
  have HPS := Lib.hid hps
  have HT := Lib.hid ht
  have HM := Lib.hid hm
  have HSZ := Lib.hid hsz
  have HFL := Lib.hid hfl
  have HML := Lib.hid (show fs.length = (pl.map tx).length by rw [List.length_map]; exact hfl)
  obtain ⟨FA, fc, rfl, hfle, hfcz⟩ := hF.hd
  have HF := Lib.hid hF
  have HE0 := Lib.hid (show putF l fs (pl.map tx) p = putF l (fs.take fs.length) ((pl.map tx).take fs.length) p by
    rw [List.take_of_length_le (Nat.le_refl _), List.take_of_length_le (by rw [HML.out]; exact Nat.le_refl _)])
  have hfl3 : fs.length ≤ 3 := by omega
  clear hown hv hps ht hm hsz hfcz hF
  generalize putF l fs (pl.map tx) p = R at *
  clear hfl
  have hwr : IntKind.i64.wrap ((fs.length : Int) - 1) = (fs.length : Int) - 1 := IntWalk.i64_in _ (by omega)
  go_enter Tryz.func67, Tryz.ntmps67
  go_wp2_with fail
  go_loopw [0, 3, 11] (fun vs vp vi wr => ∃ (k : Nat) (x : Int) (l' : List Pc) (p' : Int), k ≤ fs.length ∧ x = (k : Int) - 1 ∧ vi = .int .i64 x ∧ vp = .int .i64 p' ∧ Hid (storeV l' = true) ∧ Hid (R = putF l' (fs.take k) ((pl.map tx).take k) p') ∧ Hid (Own wr base 83 2 encP vs l') ∧ Hid (Below w.heap.size w wr)) (fun _ _ vi _ => (intOf vi + 1).toNat)
  case atStart => exact ⟨fs.length, (fs.length : Int) - 1, l, p, Nat.le_refl _, rfl, rfl, rfl, HV.out, HE0.out, HW.out, Below.refl _ _⟩
  case round =>
    obtain ⟨k, x, l', p', hk, hx, rfl, rfl, HV2, HR, HW2, HB⟩ := hrel
    cases k with
    | zero =>
      have hx' : ¬ (0 : Int) ≤ x := by omega
      have HEND := Lib.hid (show R = some (l', p') by rw [HR.out]; rfl)
      go_wp2
      go_ret3
      exact PfRes.yes HEND.out HW2.out HB.out
    | succ j =>
      obtain rfl : x = (j : Int) := by omega
      clear hx
      have hjf : j < fs.length := hk
      have hjp : j < pl.length := by have := HFL.out; omega
      have hjf' : (j : Int) < (fs.length : Int) := by omega
      have hjp' : (j : Int) < (pl.length : Int) := by omega
      have hstep := HR.out.trans (putF_take (s := l') (p := p') HML.out hjf)
      have hnj : mk ((pl.map tx)[j]'(by rw [List.length_map]; exact hjp)) = pl[j] := by rw [List.getElem_map, mk_tx]
      rw [hnj] at hstep
      obtain ⟨sb, so, sx, eFA, hcf, hrow⟩ := (HF.out.below HB.out).at hjf
      obtain ⟨nb, no, ePA, hcn⟩ := (HPS.out.below HB.out).getS hjp
      subst eFA ePA
      obtain ⟨A2, c2, rfl, hle2, hs2, _⟩ := HW2.out.sl
      have HCZ2 := Lib.hid HW2.out.cz
      have HS2 := Lib.hid hs2
      clear hs2
      have hns := HSZ.out _ (List.getElem_mem hjp)
      have hPE := fun (W : World) (h : Sl W encE 2 sx.1 fs[j]) => iPutEntry_any sx.1 sx.2.2 fs[j] (pl[j], p') W h hrow.cz hrow.val hns
      unfold EnRes at hPE
      have hent := hrow.val
      have HSX := Lib.hid hrow.sl
      have hel := putE_len fs[j] (pl[j], p')
      have hpv := putE_val fs[j] (pl[j], p')
      generalize fs[j] = en at *
      generalize pl[j] = nm at *
      obtain ⟨X, xn, xc⟩ := sx
      simp only at *
      clear hrow hnj
      generalize hpe : putE en (nm, p') = PE at *
      obtain ⟨en2, okE⟩ := PE
      simp only at *
      have HPE := Lib.hid hPE
      clear hPE hpe
      cases okE
      · have HSTEP := Lib.hid (show R = none by rw [hstep]; rfl)
        clear hstep
        go_wp2_with fail
        go_region_held3 (fun W => W.cell? ⟨sb, so + j, none⟩ = some (.slice X en.length xc) ∧ W.cell? ⟨nb, no + j, none⟩ = some (.string nm)) (first | exact ⟨hcf, hcn⟩ | exact ⟨Below_cells HY3.out _ _ _ hcf, Below_cells HY3.out _ _ _ hcn⟩ | assumption)
          ((go_at_call 103; refine (HPE.out _ (by first | exact HSX.out | exact HSX.out.drew)).mono ?_; rintro e w3 ⟨v3, rfl, hown3, hb3⟩; have hb3' := (show Below wr.heap.size wr w3 from (by first | exact hb3 | exact Below_drew hb3)); have HY3 := Lib.hid hb3'; have HB3 := Lib.hid (Below_then HB.out hb3' (Nat.le_refl _)); clear hown3 hb3 hb3'))
        all_goals
          go_wp2
          go_ret3
          exact PfRes.no HSTEP.out HB3.out
      · have htz : (mk (foldT en2)).size ≤ 16777216 := by
          have := textV_size (s := mk (foldT en2)) (foldT_textV en2); omega
        have hFT := fun A c w h h2 => iFolderText_any A c en2 w h (by omega) (fitE_valid hpv) h2
        have hPT := fun w h => iPutText_any A2 c2 l' (mk (foldT en2)) w h HCZ2.out (by have := storeV_len HV2.out; omega) (fitP_valid HV2.out) htz
        unfold PutRes at hPT
        have hok := fun h => putT_ok (l := l') (t := mk (foldT en2)) h
        have hstep : R = if (putT l' (mk (foldT en2))).2.2 then putF (putT l' (mk (foldT en2))).1 (fs.take j) ((pl.map tx).take j) (prOf (foldT en2)) else none := hstep
        rw [tx_mk] at hok
        generalize prOf (foldT en2) = pr at *
        generalize mk (foldT en2) = tt at *
        generalize hpt : putT l' tt = PT at *
        obtain ⟨l3, p3, ok3⟩ := PT
        simp only at *
        have HFT := Lib.hid hFT
        have HPT := Lib.hid hPT
        clear hFT hPT hpt htz
        cases ok3
        · have HSTEP := Lib.hid (show R = none by rw [hstep]; rfl)
          clear hstep hok
          go_wp2_with fail
          go_region_held3 (fun W => W.cell? ⟨sb, so + j, none⟩ = some (.slice X en.length xc) ∧ W.cell? ⟨nb, no + j, none⟩ = some (.string nm)) (first | exact ⟨hcf, hcn⟩ | exact ⟨Below_cells HY3.out _ _ _ hcf, Below_cells HY3.out _ _ _ hcn⟩ | assumption)
            ((go_at_call 103; refine (HPE.out _ (by first | exact HSX.out | exact HSX.out.drew)).mono ?_; rintro e w3 ⟨v3, rfl, hown3, hb3⟩; have HO3 := Lib.hid (hown3.mono (show wr.heap.size ≤ _ from Nat.le_refl _)); have hb3' := (show Below wr.heap.size wr w3 from (by first | exact hb3 | exact Below_drew hb3)); have HY3 := Lib.hid hb3'; have HB3 := Lib.hid (Below_then HB.out hb3' (Nat.le_refl _)); clear hown3 hb3 hb3'))
          all_goals
            obtain ⟨X3, c3, rfl, hle3, hs3, _⟩ := HO3.out.sl
            have HS3 := Lib.hid hs3
            have HT3 := Lib.hid (HT.out.below HB3.out)
            clear hs3
            go_wp2_with fail
            refine (HFT.out X3 c3 _ HS3.out HT3.out).mono ?_
            rintro e w4 ⟨rfl, hb4⟩
            have HB4 := Lib.hid (Below_then HB3.out hb4 (Nat.le_refl _))
            have HS4 := Lib.hid ((HS2.out.below HY3.out).below hb4)
            clear hb4
            go_wp2_with fail
            refine (HPT.out _ HS4.out).mono ?_
            rintro e w5 ⟨v5, rfl, hown5, hb5⟩
            have HB5 := Lib.hid (Below_then HB4.out hb5 (Nat.le_refl _))
            clear hown5 hb5
            go_wp2
            go_ret3
            exact PfRes.no HSTEP.out HB5.out
        · obtain ⟨_, hpo, rfl⟩ := hok rfl
          have HV3 := Lib.hid hpo.valid
          have HSTEP := Lib.hid (show R = putF l3 (fs.take j) ((pl.map tx).take j) p3 by rw [hstep]; rfl)
          clear hstep hok hpo
          go_wp2_with fail
          go_region_held3 (fun W => W.cell? ⟨sb, so + j, none⟩ = some (.slice X en.length xc) ∧ W.cell? ⟨nb, no + j, none⟩ = some (.string nm)) (first | exact ⟨hcf, hcn⟩ | exact ⟨Below_cells HY3.out _ _ _ hcf, Below_cells HY3.out _ _ _ hcn⟩ | assumption)
            ((go_at_call 103; refine (HPE.out _ (by first | exact HSX.out | exact HSX.out.drew)).mono ?_; rintro e w3 ⟨v3, rfl, hown3, hb3⟩; have HO3 := Lib.hid (hown3.mono (show wr.heap.size ≤ _ from Nat.le_refl _)); have hb3' := (show Below wr.heap.size wr w3 from (by first | exact hb3 | exact Below_drew hb3)); have HY3 := Lib.hid hb3'; have HB3 := Lib.hid (Below_then HB.out hb3' (Nat.le_refl _)); clear hown3 hb3 hb3'))
          all_goals
            obtain ⟨X3, c3, rfl, hle3, hs3, _⟩ := HO3.out.sl
            have HS3 := Lib.hid hs3
            have HT3 := Lib.hid (HT.out.below HB3.out)
            clear hs3
            go_wp2_with fail
            refine (HFT.out X3 c3 _ HS3.out HT3.out).mono ?_
            rintro e w4 ⟨rfl, hb4⟩
            have HB4 := Lib.hid (Below_then HB3.out hb4 (Nat.le_refl _))
            have HS4 := Lib.hid ((HS2.out.below HY3.out).below hb4)
            clear hb4
            go_wp2_with fail
            refine (HPT.out _ HS4.out).mono ?_
            rintro e w5 ⟨v5, rfl, hown5, hb5⟩
            have HB5 := Lib.hid (Below_then HB4.out hb5 (Nat.le_refl _))
            have HW5 := Lib.hid (hown5.mono (Nat.le_trans hbase HB4.out.size))
            clear hown5 hb5
            go_wp2
            go_roundw
            case rel => exact ⟨j, (j : Int) - 1, l3, p3, by omega, rfl, by go_num, rfl, HV3.out, HSTEP.out, HW5.out, HB5.out⟩
            case measure => first | (simp [intOf]; done) | (simp [intOf]; omega)
end Go.Proofs.YtedcgbmdfmgcgaaGreatDoor

/- WriteAt of the program, walked. -/
set_option linter.unusedVariables false
namespace Go.Proofs.YtedcgbmdfmgcgaaGreatDoor
open Go.RowKit
set_option maxHeartbeats 8000000 in
set_option maxRecDepth 100000 in
theorem iWriteAt_any (A : Option Addr) (c : Nat) (l : List Pc) (root : Int) (path content : ByteArray) (w : World) (hs : Sl w encP 2 A l) (hcz : A = none → c = 0) (hl : l.length ≤ 16777216) (hf : FitP l) (hp : path.size ≤ 1048576) (hct : content.size ≤ 1048576) (ht : TzL w) (hm : MaxL w) :
    Calls Tryz.prog 32 #[.slice A l.length c, .int .i64 root, .string path, .string content] w (PutRes (writeA l root (bs path) (bs content)) w) := by
  have HS := Lib.hid hs
  have HT := Lib.hid ht
  have HM := Lib.hid hm
  have HP := Lib.hid (fun w h => iPathPartsS_any path w hp h)
  have hSV := fun w h => iStoreValid_any A c l w h hl hf
  have hCV := fun w => iContentValid_any content w (by omega)
  have hCL := fun w h => ClonePc_any A c l w h hcz hl
  unfold OwnRes at hCL
  have HCL := Lib.hid hCL
  unfold PutRes
  clear hs ht hm hCL
  cases hpp : pathP (bs path) with
  | none =>
    have HR := Lib.hid (writeA_bad (s := l) (root := root) (path := bs path) (c := bs content) (.inr (.inr (.inl hpp))))
    generalize writeA l root (bs path) (bs content) = R at *
    go_enter Tryz.func32, Tryz.ntmps32
    go_wp2_with fail
    refine (HP.out _ HM.out).mono ?_
    rintro e w1 ⟨pl, PA, pc, hpl, rfl, hple, hps, hb⟩
    rw [hpp]
    have HB := Lib.hid hb
    clear hb hps hpl
    simp only [Option.isSome_none]
    go_wp2
    go_ret3
    rw [HR.out]
    exact ⟨_, rfl, Own.nil, HB.out⟩
  | some ps =>
    cases ps with
    | nil =>
      have HR := Lib.hid (writeA_bad (s := l) (root := root) (path := bs path) (c := bs content) (.inr (.inr (.inr hpp))))
      generalize writeA l root (bs path) (bs content) = R at *
      go_enter Tryz.func32, Tryz.ntmps32
      go_wp2_with fail
      refine (HP.out _ HM.out).mono ?_
      rintro e w1 ⟨pl, PA, pc, hpl, rfl, hple, hps, hb⟩
      rw [hpp] at hpl ⊢
      obtain rfl : pl = [] := hpl
      have HB := Lib.hid hb
      clear hb hps
      simp only [Option.isSome_some]
      go_wp2
      go_ret3
      rw [HR.out]
      exact ⟨_, rfl, Own.nil, HB.out⟩
    | cons n r =>
      cases hcv : contV (bs content)
      · have HR := Lib.hid (writeA_bad (s := l) (root := root) (path := bs path) (c := bs content) (.inr (.inl hcv)))
        rw [hcv] at hCV
        have HCV := Lib.hid hCV
        generalize writeA l root (bs path) (bs content) = R at *
        clear hCV hSV
        go_enter Tryz.func32, Tryz.ntmps32
        go_wp2_with fail
        refine (HP.out _ HM.out).mono ?_
        rintro e w1 ⟨pl, PA, pc, hpl, rfl, hple, hps, hb⟩
        rw [hpp] at hpl ⊢
        have hlen : pl.length ≠ 0 := by rw [hpl]; simp
        have hlz : ((pl.length : Int) == 0) = false := by rw [beq_eq_false_iff_ne]; omega
        have HB := Lib.hid hb
        clear hb hps hpl hlen hcv
        simp only [Option.isSome_some]
        go_wp2_with (go_at_call 62; refine (HCV.out _).mono ?_; rintro e w' ⟨rfl, rfl⟩)
        go_ret3
        rw [HR.out]
        exact ⟨_, rfl, Own.nil, HB.out⟩
      · rw [hcv] at hCV
        have HCV := Lib.hid hCV
        clear hCV
        cases hv : storeV l
        · have HR := Lib.hid (writeA_bad (s := l) (root := root) (path := bs path) (c := bs content) (.inl hv))
          rw [hv] at hSV
          have HSV := Lib.hid hSV
          generalize writeA l root (bs path) (bs content) = R at *
          clear hSV
          go_enter Tryz.func32, Tryz.ntmps32
          go_wp2_with fail
          refine (HP.out _ HM.out).mono ?_
          rintro e w1 ⟨pl, PA, pc, hpl, rfl, hple, hps, hb⟩
          rw [hpp] at hpl ⊢
          have hlen : pl.length ≠ 0 := by rw [hpl]; simp
          have hlz : ((pl.length : Int) == 0) = false := by rw [beq_eq_false_iff_ne]; omega
          have HB := Lib.hid hb
          have HS1 := Lib.hid (HS.out.below hb)
          clear hb hps hpl hlen hcv
          simp only [Option.isSome_some]
          go_wp2_with (first | (go_at_call 62; refine (HCV.out _).mono ?_; rintro e w' ⟨rfl, rfl⟩) | (go_at_call 29; refine (HSV.out _ HS1.out).mono ?_; rintro e w2 ⟨rfl, hb2⟩; have HB2 := Lib.hid (Below_then HB.out hb2 (Nat.le_refl _)); clear hb2))
          go_ret3
          rw [HR.out]
          exact ⟨_, rfl, Own.nil, HB2.out⟩
        · rw [hv] at hSV
          have HSV := Lib.hid hSV
          have HV := Lib.hid hv
          have hR : writeA l root (bs path) (bs content) = match (foldsL l (some root) (n :: r)).bind (fun fs => if (putT l (mk (fileT (bs content)))).2.2 then putF (putT l (mk (fileT (bs content)))).1 fs (n :: r) (prOf (fileT (bs content))) else none) with | some x => (x.1, x.2, true) | none => (l, root, false) := by
            unfold writeA
            rw [hv, hcv, Bool.true_and, if_pos rfl, hpp]
            show (match writeP l root (n :: r) (bs content) with | some x => (x.1, x.2, true) | none => (l, root, false)) = _
            rw [writeP_I]
          have hfv := fun fs h => foldsL_valid (s := l) (n :: r) (some root) fs h
          have htz : (mk (fileT (bs content))).size ≤ 16777216 := by
            have := textV_size (s := mk (fileT (bs content))) (fileT_text hcv); omega
          have hFT := fun w => iFileText_any content w (by omega)
          have hPT := fun w h => iPutText_any A c l (mk (fileT (bs content))) w h hcz hl hf htz
          unfold PutRes at hPT
          have hok := fun h => putT_ok (l := l) (t := mk (fileT (bs content))) h
          rw [tx_mk] at hok
          have hps8 := parts_size hpp
          have hp3 : (n :: r).length ≤ 3 := (partsV_iff.1 (pathP_join hpp).1).1
          have hmt := map_tx_mk (n :: r)
          generalize writeA l root (bs path) (bs content) = R at *
          generalize prOf (fileT (bs content)) = pr at *
          generalize mk (fileT (bs content)) = tt at *
          generalize hpt : putT l tt = PT at *
          obtain ⟨l3, p3, ok3⟩ := PT
          simp only at *
          have HFT := Lib.hid hFT
          have HPT := Lib.hid hPT
          have HOK := Lib.hid hok
          have HRR := Lib.hid hR
          have HFV := Lib.hid hfv
          have HPP := Lib.hid hpp
          have HPS8 := Lib.hid hps8
          have HMT := Lib.hid hmt
          clear hSV hFT hPT hpt hok htz hcv hv hR hfv hpp hps8 hmt
          have hFW := fun PA pc pl w (e : pl = (n :: r).map mk) h h2 h3 h4 => ifoldersToWrite_any A PA c pc l root pl w h HV.out h2 (by rw [e, List.length_map]; exact hp3) h3 h4
          have HFW := Lib.hid hFW
          clear hFW
          go_enter Tryz.func32, Tryz.ntmps32
          go_wp2_with fail
          refine (HP.out _ HM.out).mono ?_
          rintro e w1 ⟨pl, PA, pc, hpl, rfl, hple, hps, hb⟩
          replace hpl : pl = (n :: r).map mk := by rw [hpl, HPP.out]; rfl
          rw [HPP.out]
          have hlen : pl.length ≠ 0 := by rw [hpl]; simp
          have hpl3 : pl.length ≤ 3 := by rw [hpl, List.length_map]; exact hp3
          have hlz : ((pl.length : Int) == 0) = false := by rw [beq_eq_false_iff_ne]; omega
          have hFW := fun w h h2 h3 h4 => HFW.out PA pc pl w hpl h h2 h3 h4
          have HPX := Lib.hid (show pl.map tx = n :: r by rw [hpl]; exact HMT.out)
          have HSZ := Lib.hid (show ∀ x ∈ pl, x.size ≤ 16777216 from fun x hx => by
            rw [hpl] at hx
            exact Nat.le_trans (HPS8.out x hx) (by omega))
          rw [HPX.out] at hFW
          have HB := Lib.hid hb
          have HS1 := Lib.hid (HS.out.below hb)
          have HT1 := Lib.hid (HT.out.below hb)
          have HM1 := Lib.hid (HM.out.below hb)
          have HPS1 := Lib.hid hps
          clear hb hps hpl hlen hp3
          simp only [Option.isSome_some]
          unfold FwiRes at hFW
          have hpfl : ∀ fs, foldsL l (some root) (n :: r) = some fs → fs.length = pl.length := fun fs h => by
            rw [(HFV.out fs h).1, ← HPX.out, List.length_map]
          have HPFL := Lib.hid hpfl
          clear hpfl
          have hR := HRR.out
          clear HRR HFV
          generalize foldsL l (some root) (n :: r) = FS at *
          have HRR := Lib.hid hR
          have HFW2 := Lib.hid hFW
          clear hFW hR
          cases FS with
          | none =>
            have HR := Lib.hid (show R = (l, root, false) from HRR.out)
            clear HRR
            go_wp2_with (first | (go_at_call 62; refine (HCV.out _).mono ?_; rintro e w' ⟨rfl, rfl⟩) | (go_at_call 29; refine (HSV.out _ HS1.out).mono ?_; rintro e w2 ⟨rfl, hb2⟩; have HB2 := Lib.hid (Below_then HB.out hb2 (Nat.le_refl _)); have HS2 := Lib.hid (HS1.out.below hb2); have HT2 := Lib.hid (HT1.out.below hb2); have HM2 := Lib.hid (HM1.out.below hb2); have HPS2 := Lib.hid (HPS1.out.below hb2); clear hb2))
            refine (HFW2.out _ HS2.out HPS2.out HT2.out HM2.out).mono ?_
            rintro e w3 ⟨v3, rfl, hF3, hb3⟩
            have HB3 := Lib.hid (Below_then HB2.out hb3 (Nat.le_refl _))
            have HS3 := Lib.hid (HS2.out.below hb3)
            clear hF3 hb3
            simp only [Option.isSome_none]
            go_wp2_with fail
            refine (HCL.out _ HS3.out).mono ?_
            rintro e w4 ⟨v4, rfl, hown4, hb4⟩
            have HW4 := Lib.hid (hown4.mono HB3.out.size)
            have HB4 := Lib.hid (Below_then HB3.out hb4 (Nat.le_refl _))
            clear hown4 hb4
            go_wp2
            go_ret3
            rw [HR.out]
            exact ⟨_, rfl, HW4.out, HB4.out⟩
          | some fs =>
            have hfl := HPFL.out fs rfl
            have HRS := Lib.hid (show R = match (if ok3 = true then putF l3 fs (n :: r) pr else none) with | some x => (x.1, x.2, true) | none => (l, root, false) from HRR.out)
            clear HRR
            have HFLN := Lib.hid hfl
            clear hfl
            go_wp2_with (first | (go_at_call 62; refine (HCV.out _).mono ?_; rintro e w' ⟨rfl, rfl⟩) | (go_at_call 29; refine (HSV.out _ HS1.out).mono ?_; rintro e w2 ⟨rfl, hb2⟩; have HB2 := Lib.hid (Below_then HB.out hb2 (Nat.le_refl _)); have HS2 := Lib.hid (HS1.out.below hb2); have HT2 := Lib.hid (HT1.out.below hb2); have HM2 := Lib.hid (HM1.out.below hb2); have HPS2 := Lib.hid (HPS1.out.below hb2); clear hb2))
            refine (HFW2.out _ HS2.out HPS2.out HT2.out HM2.out).mono ?_
            rintro e w3 ⟨v3, rfl, hF3, hb3⟩
            have HF3 := Lib.hid (show Folds w3 w2.heap.size v3 fs from hF3)
            have HB3 := Lib.hid (Below_then HB2.out hb3 (Nat.le_refl _))
            have HS3 := Lib.hid (HS2.out.below hb3)
            have HT3 := Lib.hid (HT2.out.below hb3)
            have HM3 := Lib.hid (HM2.out.below hb3)
            have HPS3 := Lib.hid (HPS2.out.below hb3)
            clear hF3 hb3
            simp only [Option.isSome_some]
            cases ok3
            · have HR := Lib.hid (show R = (l, root, false) from HRS.out)
              clear HRS
              go_wp2_with (go_at_call 66; refine (HFT.out _).mono ?_; rintro e w' ⟨rfl, rfl⟩)
              refine (HPT.out _ HS3.out).mono ?_
              rintro e w4 ⟨v4, rfl, hown4, hb4⟩
              have HB4 := Lib.hid (Below_then HB3.out hb4 (Nat.le_refl _))
              have HS4 := Lib.hid (HS3.out.below hb4)
              clear hown4 hb4
              go_wp2_with fail
              refine (HCL.out _ HS4.out).mono ?_
              rintro e w5 ⟨v5, rfl, hown5, hb5⟩
              have HW5 := Lib.hid (hown5.mono HB4.out.size)
              have HB5 := Lib.hid (Below_then HB4.out hb5 (Nat.le_refl _))
              clear hown5 hb5
              go_wp2
              go_ret3
              rw [HR.out]
              exact ⟨_, rfl, HW5.out, HB5.out⟩
            · obtain ⟨_, hpo, rfl⟩ := HOK.out rfl
              have hPF := fun v FV fb W h h2 h3 h4 h5 h6 => iputFolders_any w.heap.size v FV PA pc l3 p3 fs pl fb W h h2 hpo.valid h3 h4 HFLN.out hpl3 HSZ.out h5 h6
              rw [HPX.out] at hPF
              unfold PfRes at hPF
              have hR := HRS.out
              rw [if_pos rfl] at hR
              clear HRS
              generalize putF l3 fs (n :: r) p3 = PF at *
              have HRS := Lib.hid hR
              have HPF := Lib.hid hPF
              clear hPF hpo hR
              go_wp2_with (go_at_call 66; refine (HFT.out _).mono ?_; rintro e w' ⟨rfl, rfl⟩)
              refine (HPT.out _ HS3.out).mono ?_
              rintro e w4 ⟨v4, rfl, hown4, hb4⟩
              have HB4 := Lib.hid (Below_then HB3.out hb4 (Nat.le_refl _))
              have HS4 := Lib.hid (HS3.out.below hb4)
              have HT4 := Lib.hid (HT3.out.below hb4)
              have HM4 := Lib.hid (HM3.out.below hb4)
              have HPS4 := Lib.hid (HPS3.out.below hb4)
              have HF4 := Lib.hid (HF3.out.below hb4)
              have HW4 := Lib.hid (hown4.mono HB3.out.size)
              clear hown4 hb4
              go_wp2_with fail
              refine (HPF.out v4 v3 w2.heap.size _ HW4.out HB4.out.size HF4.out HPS4.out HT4.out HM4.out).mono ?_
              rintro e w5 ⟨v5, rfl, hown5, hb5⟩
              have HW5 := Lib.hid hown5
              have HB5 := Lib.hid (Below_then HB4.out hb5 (Nat.le_refl _))
              have HS5 := Lib.hid (HS4.out.below hb5)
              clear hown5 hb5
              cases PF with
              | none =>
                have HR := Lib.hid (show R = (l, root, false) from HRS.out)
                clear HRS HW5
                simp only [Option.isSome_none, Option.map_none, Option.getD_none]
                go_wp2_with fail
                refine (HCL.out _ HS5.out).mono ?_
                rintro e w6 ⟨v6, rfl, hown6, hb6⟩
                have HW6 := Lib.hid (hown6.mono HB5.out.size)
                have HB6 := Lib.hid (Below_then HB5.out hb6 (Nat.le_refl _))
                clear hown6 hb6
                go_wp2
                go_ret3
                rw [HR.out]
                exact ⟨_, rfl, HW6.out, HB6.out⟩
              | some x =>
                obtain ⟨lx, px⟩ := x
                have HR := Lib.hid (show R = (lx, px, true) from HRS.out)
                have HX5 := Lib.hid (show Own w5 w.heap.size 83 2 encP v5 lx from HW5.out)
                clear HRS HW5
                simp only [Option.isSome_some, Option.map_some, Option.getD_some]
                go_wp2
                go_ret3
                rw [HR.out]
                exact ⟨_, rfl, HX5.out, HB5.out⟩
end Go.Proofs.YtedcgbmdfmgcgaaGreatDoor
