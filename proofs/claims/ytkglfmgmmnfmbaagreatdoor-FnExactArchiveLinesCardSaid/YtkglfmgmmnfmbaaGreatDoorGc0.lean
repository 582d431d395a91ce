/- Texts in one: Aw, Wi, Wj. -/
import Derived.Test.YtkglfmgmmnfmbaaGreatDoorGb7
import Derived.Test.YtkglfmgmmnfmbaaGreatDoorGa7
import Derived.Test.YtkglfmgmmnfmbaaGreatDoorGa8
import Derived.Test.YtkglfmgmmnfmbaaGreatDoorGc3
import Derived.Test.YtkglfmgmmnfmbaaGreatDoorGb9
import Derived.Test.YtkglfmgmmnfmbaaGreatDoorGb2
import Derived.Test.YtkglfmgmmnfmbaaGreatDoorGb8
import Derived.Test.YtkglfmgmmnfmbaaGreatDoorS3
/- ArchiveValid, walked. -/
set_option linter.unusedVariables false
namespace Go.Proofs.YtkglfmgmmnfmbaaGreatDoor
open Go.RowKit
theorem archV_no1 {a : Ar} (h : storeV a.ps = false) : archV a = false := by unfold archV; rw [h]; rfl
theorem archV_no2 {a : Ar} (h : versV a.vs = false) : archV a = false := by unfold archV; rw [h]; simp
theorem archV_no3 {a : Ar} (h : folderOf a.ps a.op = none) : archV a = false := by unfold archV; rw [h]; simp
theorem archV_no4 {a : Ar} {k : Nat} (hk : k < a.vs.length) (h : folderOf a.ps a.vs[k].1 = none) : archV a = false := by
  have : (a.vs.all fun v => (folderOf a.ps v.1).isSome) = false := by
    rw [List.all_eq_false]; exact ⟨a.vs[k], by simp, by rw [h]; simp⟩
  unfold archV; rw [this]; simp
theorem archV_yes {a : Ar} (h1 : storeV a.ps = true) (h2 : versV a.vs = true) (h3 : (folderOf a.ps a.op).isSome = true) (h4 : ∀ k (h : k < a.vs.length), (folderOf a.ps a.vs[k].1).isSome = true) : archV a = true := by
  have : (a.vs.all fun v => (folderOf a.ps v.1).isSome) = true := by
    rw [List.all_eq_true]; intro v hv
    obtain ⟨k, hk, rfl⟩ := List.getElem_of_mem hv; exact h4 k hk
  unfold archV; rw [h1, h2, h3, this]; rfl
set_option maxHeartbeats 2000000 in
set_option maxRecDepth 100000 in
theorem iArchiveValid_any (A B : Option Addr) (c d : Nat) (l : List Pc) (m : List Vr) (x : Int) (w : World) (hs : Sl w encP 2 A l) (hl : l.length ≤ 16777216) (hf : FitP l) (ht : Sl w encV 3 B m) (hl2 : m.length ≤ 16777216) (hf2 : FitV m) (htz : TzL w) (hmx : MaxL w) :
    Calls Tryz.prog 29 #[.agg #[.slice A l.length c, .int .i64 x, .slice B m.length d]] w fun e w' => e = .returned (.bool (archV ⟨l, x, m⟩)) ∧ Below w.heap.size w w' := by
  have HS := Lib.hid hs
  have HT := Lib.hid ht
  have HTZ := Lib.hid htz
  have HMX := Lib.hid hmx
  have hSV := fun w h => iStoreValid_any A c l w h hl hf
  have hVV := fun w h => iVersionsValid_any B d m w h hl2 hf2
  have N1 := Lib.hid (@archV_no1 ⟨l, x, m⟩)
  have N2 := Lib.hid (@archV_no2 ⟨l, x, m⟩)
  have N3 := Lib.hid (@archV_no3 ⟨l, x, m⟩)
  have N4 := Lib.hid (fun k (hk : k < m.length) (h : folderOf l m[k].1 = none) => @archV_no4 ⟨l, x, m⟩ k hk h)
  have Y := Lib.hid (fun h1 h2 h3 (h4 : ∀ k (h : k < m.length), (folderOf l m[k].1).isSome = true) => @archV_yes ⟨l, x, m⟩ h1 h2 h3 h4)
  clear hs ht htz hmx
  generalize hR : archV ⟨l, x, m⟩ = R at *
  clear hR
  cases hv : storeV l
  · have HE := Lib.hid (N1.out hv)
    rw [hv] at hSV
    have HSV := Lib.hid hSV
    clear hSV hVV hv N1 N2 N3 N4 Y
    go_enter Tryz.func29, Tryz.ntmps29
    go_wp2_with fail
    refine (HSV.out _ (HS.out.alloc _)).mono ?_
    rintro e w1 ⟨rfl, hb⟩
    have HB := Lib.hid (Below_of_alloc hb)
    clear hb
    go_wp2
    go_ret
    exact ⟨ret_bool HE.out.symm, HB.out⟩
  · rw [hv] at hSV
    have HSV := Lib.hid hSV
    have HFO := Lib.hid (fun p w h h2 h3 => ifolderOf_any A c l p w h hv h2 h3)
    have HV := Lib.hid hv
    clear hSV hv
    cases hw : versV m
    · have HE := Lib.hid (N2.out hw)
      rw [hw] at hVV
      have HVV := Lib.hid hVV
      clear hVV hw N1 N2 N3 N4 Y
      go_enter Tryz.func29, Tryz.ntmps29
      go_wp2_with fail
      refine (HSV.out _ (HS.out.alloc _)).mono ?_
      rintro e w1 ⟨rfl, hb⟩
      obtain ⟨⟨x0, x1, x2⟩, _, _⟩ := Row3.new.below hb
      have HB := Lib.hid (Below_of_alloc hb)
      clear hb
      go_wp2_with fail
      refine (HVV.out _ (HT.out.below HB.out)).mono ?_
      rintro e w2 ⟨rfl, hb⟩
      have HB2 := Lib.hid (Below_then HB.out hb (Nat.le_refl _))
      clear hb
      go_wp2
      go_ret
      exact ⟨ret_bool HE.out.symm, HB2.out⟩
    · rw [hw] at hVV
      have HVV := Lib.hid hVV
      have HW := Lib.hid hw
      clear hVV hw
      unfold RfRes at HFO
      cases ho : folderOf l x with
      | none =>
        have HE := Lib.hid (N3.out ho)
        have HFX := HFO.out x
        rw [ho] at HFX
        have HFX := Lib.hid HFX
        clear ho N1 N2 N3 N4 Y
        go_enter Tryz.func29, Tryz.ntmps29
        go_wp2_with fail
        refine (HSV.out _ (HS.out.alloc _)).mono ?_
        rintro e w1 ⟨rfl, hb⟩
        obtain ⟨⟨x0, x1, x2⟩, _, _⟩ := Row3.new.below hb
        have HB := Lib.hid (Below_of_alloc hb)
        have HRW := Lib.hid (Row3.new.below hb)
        clear hb
        go_wp2_with fail
        refine (HVV.out _ (HT.out.below HB.out)).mono ?_
        rintro e w2 ⟨rfl, hb⟩
        clear x0 x1 x2
        obtain ⟨⟨x0, x1, x2⟩, _, _⟩ := HRW.out.below hb
        have HB2 := Lib.hid (Below_then HB.out hb (Nat.le_refl _))
        clear hb
        go_wp2_with fail
        refine (HFX.out _ (HS.out.below HB2.out) (HTZ.out.below HB2.out) (HMX.out.below HB2.out)).mono ?_
        rintro e w3 ⟨v, rfl, hown, hb⟩
        have HB3 := Lib.hid (Below_then HB2.out hb (Nat.le_refl _))
        clear hb hown
        go_wp2
        go_ret
        exact ⟨ret_bool HE.out.symm, HB3.out⟩
      | some fo =>
        have HFX := HFO.out x
        rw [ho] at HFX
        have HFX := Lib.hid HFX
        have HY := Lib.hid (fun h4 => Y.out HV.out HW.out (by rw [ho]; rfl) h4)
        clear ho N1 N2 N3 Y
        go_enter Tryz.func29, Tryz.ntmps29
        go_wp2_with fail
        refine (HSV.out _ (HS.out.alloc _)).mono ?_
        rintro e w1 ⟨rfl, hb⟩
        obtain ⟨⟨x0, x1, x2⟩, _, _⟩ := Row3.new.below hb
        have HB := Lib.hid (Below_of_alloc hb)
        have HRW := Lib.hid (Row3.new.below hb)
        clear hb
        go_wp2_with fail
        refine (HVV.out _ (HT.out.below HB.out)).mono ?_
        rintro e w2 ⟨rfl, hb⟩
        clear x0 x1 x2
        replace HRW := Lib.hid (HRW.out.below hb)
        obtain ⟨⟨x0, x1, x2⟩, _, _⟩ := HRW.out
        have HB2 := Lib.hid (Below_then HB.out hb (Nat.le_refl _))
        clear hb
        go_wp2_with fail
        refine (HFX.out _ (HS.out.below HB2.out) (HTZ.out.below HB2.out) (HMX.out.below HB2.out)).mono ?_
        rintro e w3 ⟨v, rfl, hown, hb⟩
        clear x0 x1 x2
        replace HRW := Lib.hid (HRW.out.below hb)
        have HB3 := Lib.hid (Below_then HB2.out hb (Nat.le_refl _))
        obtain ⟨⟨x0, x1, x2⟩, _, _⟩ := HRW.out
        obtain ⟨XF, dF, rfl, _, _, _⟩ := hown.sl
        clear hb hown
        go_wp2_with fail
        clear x0 x1 x2
        go_loopw [32] (fun i wr => ∃ (k : Nat), k ≤ m.length ∧ i = .int .i64 k ∧ Hid (∀ j (h : j < m.length), j < k → (folderOf l m[j].1).isSome = true) ∧ Hid (Below w3.heap.size w3 wr)) (fun i _ => m.length - (intOf i).toNat)
        case atStart => exact ⟨0, Nat.zero_le _, rfl, fun j h h2 => by omega, Below.refl _ _⟩
        case round =>
          obtain ⟨k, hk, rfl, HH, HBW⟩ := hrel
          have HB4 := Lib.hid (Below_then HB3.out HBW.out (Nat.le_refl _))
          by_cases hlt : k < m.length
          · obtain ⟨b, o, rfl, hc0, hc1, hc2⟩ := (HT.out.below HB4.out).getV hlt
            have HR5 := HRW.out.below HBW.out
            have HN4 := Lib.hid (N4.out k hlt)
            have HST := Lib.hid (fun (h : (folderOf l m[k].1).isSome = true) => show ∀ j (h : j < m.length), j < k + 1 → (folderOf l m[j].1).isSome = true from fun j hj h2 => by
              by_cases e : j = k
              · subst e; exact h
              · exact HH.out j hj (by omega))
            have hfx := HFO.out m[k].1
            generalize m[k] = vr at *
            obtain ⟨r0, r1, r2⟩ := vr
            simp only at *
            obtain ⟨⟨y0, y1, y2⟩, _, _⟩ := HR5.below ((Below.refl wr.heap.size wr).alloc (Nat.le_refl _) (.cells #[.int .i64 r0, .int .i64 r1, .string r2] 63))
            have HB5 := Lib.hid (HB4.out.alloc HB4.out.size (.cells #[.int .i64 r0, .int .i64 r1, .string r2] 63))
            cases hq : folderOf l r0 with
            | none =>
              have HE := Lib.hid (HN4.out hq)
              rw [hq] at hfx
              have HFQ := Lib.hid hfx
              clear hfx hq HN4 HST HR5
              go_wp2_with fail
              refine (HFQ.out _ (HS.out.below HB5.out) (HTZ.out.below HB5.out) (HMX.out.below HB5.out)).mono ?_
              rintro e w6 ⟨v6, rfl, hown6, hb6⟩
              have HB6 := Lib.hid (Below_then HB5.out hb6 (Nat.le_refl _))
              clear hb6 hown6
              go_wp2
              go_ret
              exact ⟨ret_bool HE.out.symm, HB6.out⟩
            | some q =>
              have HN := Lib.hid (HST.out (by rw [hq]; rfl))
              rw [hq] at hfx
              have HFQ := Lib.hid hfx
              clear hfx hq HN4 HST HR5
              go_wp2_with fail
              refine (HFQ.out _ (HS.out.below HB5.out) (HTZ.out.below HB5.out) (HMX.out.below HB5.out)).mono ?_
              rintro e w6 ⟨v6, rfl, hown6, hb6⟩
              have HB6 := Lib.hid (Below_then HBW.out (Below_of_alloc hb6) (Nat.le_refl _))
              obtain ⟨XQ, dQ, rfl, _, _, _⟩ := hown6.sl
              clear hb6 hown6
              go_wp2
              go_roundw
              case rel => exact ⟨k + 1, by omega, by go_num, HN.out, HB6.out⟩
              case measure => simp [intOf]; omega
          · have HE := Lib.hid (HY.out (fun j h => HH.out j h (by omega)))
            go_wp2
            go_ret
            exact ⟨ret_bool HE.out.symm, HB4.out⟩
end Go.Proofs.YtkglfmgmmnfmbaaGreatDoor

/- The folders on the way: foldersToWrite of the program, walked. -/
set_option linter.unusedVariables false
namespace Go.Proofs.YtkglfmgmmnfmbaaGreatDoor
open Go.RowKit
theorem fitP_valid {l : List Pc} (h : storeV l = true) : FitP l := fun q hq => by
  have := textV_size (pieceOk_iff.1 (storeV_piece h hq)).1
  omega
theorem putE_val (l : List En) (e : En) : entsV (putE l e).1 = true := by
  unfold putE
  split
  · split
    · assumption
    · assumption
  · rfl
theorem foldsL_at {s : List Pc} {a : Option Int} {pl : List ByteArray} {k : Nat} {acc : List (List En)} (h : k < pl.length) :
    (foldsL s a ((pl.drop k).map tx)).map (acc ++ ·) = (listAt s a).bind fun l => (foldsL s (getE l (tx pl[k])) ((pl.drop (k + 1)).map tx)).map ((acc ++ [l]) ++ ·) := by
  rw [List.drop_eq_getElem_cons h, List.map_cons, foldsL_step]
theorem foldsL_start {s : List Pc} {a : Option Int} {ns : List Bs} : foldsL s a ns = (foldsL s a ns).map ([] ++ ·) := by
  cases foldsL s a ns <;> rfl
theorem Own.apart_of {α : Type} {enc : α → List Value} {w : World} {base size : Nat} {E : TypeId} {A : Option Addr} {n c : Nat} {l : List α} (h : Own w base E size enc (.slice A n c) l) : A = none ∨ ∃ b o, A = some ⟨b, o, none⟩ := by
  obtain ⟨A', c', e, _, _, hg⟩ := h.sl
  injection e with e1 _ _
  subst e1
  rcases hg with ⟨_, h⟩ | ⟨g, h, _⟩
  · exact .inl h
  · exact .inr ⟨g, 0, h⟩
theorem RowL.of_own {w : World} {base : Nat} {v : Value} {A : Option Addr} {n c : Nat} {l : List En} {E : TypeId} (h : Own w base E 2 encE (.slice A n c) l) (hn : n = l.length) (hle : l.length ≤ c) (hv : entsV l = true) (hb : ∀ g, v.ownBlock = some g → g < base) : RowL w v (A, n, c) l :=
  ⟨hn, (by obtain ⟨A', c', e, _, hs, _⟩ := h.sl; (injection e with e1); rw [e1]; exact hs), h.cz, hle, h.apart_of, h.apart hb, h.ltA, hv⟩
theorem RowL.nil_ {w : World} {v : Value} : RowL w v (none, 0, 0) [] := ⟨rfl, Sl.none_, fun _ => rfl, Nat.le_refl _, .inl rfl, (fun b o e => by (have e : (none : Option Addr) = some ⟨b, o, none⟩ := e); cases e), (fun b o e => by (have e : (none : Option Addr) = some ⟨b, o, none⟩ := e); cases e), rfl⟩
set_option maxHeartbeats 1000000 in
set_option maxRecDepth 100000 in
theorem iFileText_any (s : ByteArray) (w : World) (hs : s.size ≤ 16777216) : Calls Tryz.prog 104 #[.string s] w fun e w' => e = .returned (.string (mk (fileT (bs s)))) ∧ w = w' := by
  have hCV := fun w => iContentValid_any s w hs
  cases hc : contV (bs s)
  · have HE := Lib.hid (show mk (fileT (bs s)) = ⟨#[]⟩ by unfold fileT; rw [hc]; rfl)
    rw [hc] at hCV
    have HCV := Lib.hid hCV
    clear hCV hc
    go_enter Tryz.func104, Tryz.ntmps104
    go_wp2_with (go_at_call 101; refine (HCV.out _).mono ?_; rintro e w' ⟨rfl, rfl⟩)
    go_ret
    rw [HE.out]; exact ⟨rfl, rfl⟩
  · have HE := Lib.hid (show mk (fileT (bs s)) = ⟨#[102]⟩ ++ s by rw [fileT_ok hc, show (102 :: bs s) = [102] ++ bs s from rfl, ← mk_append]; exact congrArg (mk [102] ++ ·) (mk_tx s))
    have hz : s.size ≤ 40 := by
      have := hc
      unfold contV at this
      rw [Bool.and_eq_true, decide_eq_true_eq, size_bs] at this; exact this.2
    have hq := str_add (x := ⟨#[102]⟩) (y := s) (by decide) (by omega)
    rw [hc] at hCV
    have HCV := Lib.hid hCV
    clear hCV hc
    go_enter Tryz.func104, Tryz.ntmps104
    go_wp2_with (go_at_call 101; refine (HCV.out _).mono ?_; rintro e w' ⟨rfl, rfl⟩)
    go_ret
    rw [HE.out]; exact ⟨rfl, rfl⟩
def FwiRes (r : Option (List (List En))) (w : World) (e : Ending) (w' : World) : Prop :=
  ∃ v, e = .returned (.tuple #[v, .bool r.isSome]) ∧ Folds w' w.heap.size v (r.getD []) ∧ Below w.heap.size w w'
theorem FwiRes.no {r : Option (List (List En))} {w w' : World} (h : r = none) (hb : Below w.heap.size w w') : FwiRes r w (.returned (.tuple #[.slice none 0 0, .bool false])) w' := by
  subst h; exact ⟨_, rfl, Folds.nil, hb⟩
theorem FwiRes.yes {r : Option (List (List En))} {w w' : World} {v : Value} {fs : List (List En)} (h : r = some fs) (hf : Folds w' w.heap.size v fs) (hb : Below w.heap.size w w') : FwiRes r w (.returned (.tuple #[v, .bool true])) w' := by
  subst h; exact ⟨_, rfl, hf, hb⟩
set_option maxHeartbeats 8000000 in
set_option maxRecDepth 100000 in
theorem ifoldersToWrite_any (A PA : Option Addr) (c pc : Nat) (l : List Pc) (root : Int) (pl : List ByteArray) (w : World) (hs : Sl w encP 2 A l) (hv : storeV l = true) (hps : Sl w encS 1 PA pl) (hpl : pl.length ≤ 3) (ht : TzL w) (hm : MaxL w) :
    Calls Tryz.prog 102 #[.slice A l.length c, .int .i64 root, .slice PA pl.length pc] w (FwiRes (foldsL l (some root) (pl.map tx)) w) := by
  have HS := Lib.hid hs
  have HV := Lib.hid hv
  have HPS := Lib.hid hps
  have HT := Lib.hid ht
  have HM := Lib.hid hm
  have HE0 := Lib.hid (show foldsL l (some root) (pl.map tx) = (foldsL l (some root) ((pl.drop 0).map tx)).map ([] ++ ·) from foldsL_start)
  clear hs hv hps ht hm
  generalize foldsL l (some root) (pl.map tx) = R at *
  go_enter Tryz.func102, Tryz.ntmps102
  go_wp2_with fail
  go_loopw [8, 9, 10, 21] (fun vf va vt vi wr => ∃ (k : Nat) (a : Option Int) (acc : List (List En)), k ≤ pl.length ∧ va = .int .i64 (a.getD (-1)) ∧ vt = .bool a.isSome ∧ vi = .int .i64 k ∧ acc.length = k ∧ Hid (R = (foldsL l a ((pl.drop k).map tx)).map (acc ++ ·)) ∧ Hid (Folds wr w.heap.size vf acc) ∧ Hid (Below w.heap.size w wr)) (fun _ _ _ vi _ => pl.length - (intOf vi).toNat)
  case atStart => exact ⟨0, some root, [], Nat.zero_le _, rfl, rfl, rfl, rfl, HE0.out, Folds.nil, Below.refl _ _⟩
  case round =>
    obtain ⟨k, a, acc, hk, rfl, rfl, rfl, hacc, HR, HF, HB⟩ := hrel
    have HSW := Lib.hid (HS.out.below HB.out)
    have HTW := Lib.hid (HT.out.below HB.out)
    have HMW := Lib.hid (HM.out.below HB.out)
    by_cases hlt : k < pl.length
    · have hlt' : (k : Int) < (pl.length : Int) := by omega
      have hal : acc.length ≤ 16777216 := by omega
      have HAL := Lib.hid hacc
      clear hacc
      obtain ⟨b, o, rfl, hc⟩ := (HPS.out.below HB.out).getS hlt
      have hstep := HR.out.trans (foldsL_at hlt)
      generalize pl[k] = nm at *
      cases a with
      | none =>
        have HSTEP := Lib.hid (show R = (foldsL l (getE [] (tx nm)) ((pl.drop (k + 1)).map tx)).map ((acc ++ [[]]) ++ ·) from hstep)
        have hPN := fun A c w h => printNamed_any A c [] nm w h (by decide) (entsV_sorted rfl)
        unfold PnRes at hPN
        have hge : getE [] (tx nm) = none := rfl
        rw [hge] at hPN
        have HPN := Lib.hid hPN
        simp only [Option.isSome_none, Option.getD_none] at *
        clear hstep hPN hge
        go_wp2_with (at_builtin; refine app_fold (w0 := w) (l := []) rfl rfl (by rfl) (by rfl) HF.out HB.out hal RowL.nil_ ?_; intro v4 w4 hF4 hb4 hg4 hk4; have HF4 := Lib.hid hF4; have HB4 := Lib.hid hb4; clear hF4 hb4 hg4 hk4)
        refine (HPN.out none 0 _ Sl.none_).mono ?_
        rintro e w5 ⟨rfl, hb5⟩
        have HF5 := Lib.hid (HF4.out.below hb5)
        have HB5 := Lib.hid (Below_then HB4.out hb5 (Nat.le_refl _))
        clear hb5
        go_wp2
        go_roundw
        case rel => exact ⟨k + 1, none, acc ++ [[]], by omega, rfl, rfl, by go_num, by rw [List.length_append, HAL.out]; rfl, HSTEP.out, HF5.out, HB5.out⟩
        case measure => simp [intOf]; omega
      | some p =>
        have hFO := fun w h h2 h3 => ifolderOf_any A c l p w h HV.out h2 h3
        unfold RfRes at hFO
        have hla : listAt l (some p) = folderOf l p := rfl
        rw [hla] at hstep
        cases hfo : folderOf l p with
        | none =>
          have HSTEP := Lib.hid (show R = none by rw [hstep, hfo]; rfl)
          rw [hfo] at hFO
          have HFO := Lib.hid hFO
          simp only [Option.isSome_some, Option.getD_some] at *
          clear hstep hFO hla hfo
          go_wp2_with fail
          refine (HFO.out _ HSW.out HTW.out HMW.out).mono ?_
          rintro e w3 ⟨v3, rfl, hown3, hb3⟩
          have HB3 := Lib.hid (Below_then HB.out hb3 (Nat.le_refl _))
          clear hown3 hb3
          go_wp2
          go_ret2
          exact FwiRes.no HSTEP.out HB3.out
        | some en =>
          have hen3 : en.length ≤ 3 := entsV_len (folder_valid hfo)
          have HEV := Lib.hid (folder_valid hfo)
          have HSTEP := Lib.hid (show R = (foldsL l (getE en (tx nm)) ((pl.drop (k + 1)).map tx)).map ((acc ++ [en]) ++ ·) by rw [hstep, hfo]; rfl)
          rw [hfo] at hFO
          have HFO := Lib.hid hFO
          have hPN := fun A c w h => printNamed_any A c en nm w h (by omega) (entsV_sorted HEV.out)
          unfold PnRes at hPN
          simp only [Option.isSome_some, Option.getD_some] at *
          generalize getE en (tx nm) = a2 at *
          have HPN := Lib.hid hPN
          clear hstep hFO hla hfo hPN
          go_wp2_with fail
          refine (HFO.out _ HSW.out HTW.out HMW.out).mono ?_
          rintro e w3 ⟨v3, rfl, hown3, hb3⟩
          obtain ⟨X, d, rfl, hle3, _, _⟩ := hown3.sl
          have HB3 := Lib.hid (Below_then HB.out hb3 (Nat.le_refl _))
          have HROW := Lib.hid (RowL.of_own hown3 rfl hle3 HEV.out (fun g hg => (HF.out.blk g hg).2))
          have HF3 := Lib.hid (HF.out.below hb3)
          clear hown3 hb3
          go_wp2_with (at_builtin; refine app_fold (w0 := w) (l := en) rfl rfl (by rfl) (by rfl) HF3.out HB3.out hal HROW.out ?_; intro v4 w4 hF4 hb4 hg4 hk4; have HF4 := Lib.hid hF4; have HB4 := Lib.hid hb4; have HX4 := Lib.hid (HROW.out.sl.grew hg4 HROW.out.apart); clear hF4 hb4 hg4 hk4)
          refine (HPN.out X d _ HX4.out).mono ?_
          rintro e w5 ⟨rfl, hb5⟩
          have HF5 := Lib.hid (HF4.out.below hb5)
          have HB5 := Lib.hid (Below_then HB4.out hb5 (Nat.le_refl _))
          clear hb5
          go_wp2
          go_roundw
          case rel => exact ⟨k + 1, a2, acc ++ [en], by omega, rfl, rfl, by go_num, by rw [List.length_append, HAL.out]; rfl, HSTEP.out, HF5.out, HB5.out⟩
          case measure => simp [intOf]; omega
    · have hlt' : ¬ (k : Int) < (pl.length : Int) := by omega
      have hend := HR.out
      rw [List.drop_of_length_le (by omega), List.map_nil, foldsL_end] at hend
      cases a with
      | none =>
        have HEND := Lib.hid (show R = some acc from hend)
        simp only [Option.isSome_none, Option.getD_none] at *
        clear hend
        go_wp2
        go_ret2
        exact FwiRes.yes HEND.out HF.out HB.out
      | some p =>
        have hFI := fun w h => ifileOf_any A c l p w h HV.out
        unfold FoRes at hFI
        have hlo : leafOk l (some p) = (fileOf l p).isSome := rfl
        rw [hlo] at hend
        simp only [Option.isSome_some, Option.getD_some] at *
        generalize mk ((fileOf l p).getD []) = CT at *
        cases hfi : (fileOf l p).isSome
        · rw [hfi] at hend hFI
          have HEND := Lib.hid (show R = none from hend)
          have HFI := Lib.hid hFI
          clear hend hFI hlo hfi
          go_wp2_with fail
          refine (HFI.out _ HSW.out).mono ?_
          rintro e w3 ⟨rfl, hb3⟩
          have HB3 := Lib.hid (Below_then HB.out hb3 (Nat.le_refl _))
          clear hb3
          go_wp2
          go_ret2
          exact FwiRes.no HEND.out HB3.out
        · rw [hfi] at hend hFI
          have HEND := Lib.hid (show R = some acc from hend)
          have HFI := Lib.hid hFI
          clear hend hFI hlo hfi
          go_wp2_with fail
          refine (HFI.out _ HSW.out).mono ?_
          rintro e w3 ⟨rfl, hb3⟩
          have HB3 := Lib.hid (Below_then HB.out hb3 (Nat.le_refl _))
          have HF3 := Lib.hid (HF.out.below hb3)
          clear hb3
          go_wp2
          go_ret2
          exact FwiRes.yes HEND.out HF3.out HB3.out
end Go.Proofs.YtkglfmgmmnfmbaaGreatDoor

/- The way back up: putFolders of the program, walked. -/
set_option linter.unusedVariables false
namespace Go.Proofs.YtkglfmgmmnfmbaaGreatDoor
open Go.RowKit
def PfRes (base : Nat) (r : Option (List Pc × Int)) (w : World) (e : Ending) (w' : World) : Prop :=
  ∃ v, e = .returned (.tuple #[v, .int .i64 ((r.map (·.2)).getD (-1)), .bool r.isSome]) ∧ Own w' base 107 2 encP v ((r.map (·.1)).getD []) ∧ Below w.heap.size w w'
theorem PfRes.no {base : Nat} {r : Option (List Pc × Int)} {w w' : World} (h : r = none) (hb : Below w.heap.size w w') : PfRes base r w (.returned (.tuple #[.slice none 0 0, .int .i64 (-1), .bool false])) w' := by
  subst h; exact ⟨_, rfl, Own.nil, hb⟩
theorem PfRes.yes {base : Nat} {r : Option (List Pc × Int)} {w w' : World} {v : Value} {l : List Pc} {p : Int} (h : r = some (l, p)) (ho : Own w' base 107 2 encP v l) (hb : Below w.heap.size w w') : PfRes base r w (.returned (.tuple #[v, .int .i64 p, .bool true])) w' := by
  subst h; exact ⟨_, rfl, ho, hb⟩
set_option maxHeartbeats 8000000 in
set_option maxRecDepth 100000 in
theorem iputFolders_any (base : Nat) (v FV : Value) (PA : Option Addr) (pc : Nat) (l : List Pc) (p : Int) (fs : List (List En)) (pl : List ByteArray) (fb : Nat) (w : World) (hown : Own w base 107 2 encP v l) (hbase : base ≤ w.heap.size) (hv : storeV l = true) (hF : Folds w fb FV fs) (hps : Sl w encS 1 PA pl) (hfl : fs.length = pl.length) (hpl : pl.length ≤ 3) (hsz : ∀ x ∈ pl, x.size ≤ 16777216) (ht : TzL w) (hm : MaxL w) :
    Calls Tryz.prog 105 #[v, FV, .slice PA pl.length pc, .int .i64 p] w (PfRes base (putF l fs (pl.map tx) p) w) := by
  have HW := Lib.hid hown
  have HV := Lib.hid hv
  have HPS := Lib.hid hps
  have HT := Lib.hid ht
  have HM := Lib.hid hm
  have HSZ := Lib.hid hsz
  have HFL := Lib.hid hfl
  have HML := Lib.hid (show fs.length = (pl.map tx).length by rw [List.length_map]; exact hfl)
  obtain ⟨FA, fc, rfl, hfle, hfcz⟩ := hF.hd
  have HF := Lib.hid hF
  have HE0 := Lib.hid (show putF l fs (pl.map tx) p = putF l (fs.take fs.length) ((pl.map tx).take fs.length) p by
    rw [List.take_of_length_le (Nat.le_refl _), List.take_of_length_le (by rw [HML.out]; exact Nat.le_refl _)])
  have hfl3 : fs.length ≤ 3 := by omega
  clear hown hv hps ht hm hsz hfcz hF
  generalize putF l fs (pl.map tx) p = R at *
  clear hfl
  have hwr : IntKind.i64.wrap ((fs.length : Int) - 1) = (fs.length : Int) - 1 := IntWalk.i64_in _ (by omega)
  go_enter Tryz.func105, Tryz.ntmps105
  go_wp2_with fail
  go_loopw [0, 3, 11] (fun vs vp vi wr => ∃ (k : Nat) (x : Int) (l' : List Pc) (p' : Int), k ≤ fs.length ∧ x = (k : Int) - 1 ∧ vi = .int .i64 x ∧ vp = .int .i64 p' ∧ Hid (storeV l' = true) ∧ Hid (R = putF l' (fs.take k) ((pl.map tx).take k) p') ∧ Hid (Own wr base 107 2 encP vs l') ∧ Hid (Below w.heap.size w wr)) (fun _ _ vi _ => (intOf vi + 1).toNat)
  case atStart => exact ⟨fs.length, (fs.length : Int) - 1, l, p, Nat.le_refl _, rfl, rfl, rfl, HV.out, HE0.out, HW.out, Below.refl _ _⟩
  case round =>
    obtain ⟨k, x, l', p', hk, hx, rfl, rfl, HV2, HR, HW2, HB⟩ := hrel
    cases k with
    | zero =>
      have hx' : ¬ (0 : Int) ≤ x := by omega
      have HEND := Lib.hid (show R = some (l', p') by rw [HR.out]; rfl)
      go_wp2
      go_ret3
      exact PfRes.yes HEND.out HW2.out HB.out
    | succ j =>
      obtain rfl : x = (j : Int) := by omega
      clear hx
      have hjf : j < fs.length := hk
      have hjp : j < pl.length := by have := HFL.out; omega
      have hjf' : (j : Int) < (fs.length : Int) := by omega
      have hjp' : (j : Int) < (pl.length : Int) := by omega
      have hstep := HR.out.trans (putF_take (s := l') (p := p') HML.out hjf)
      have hnj : mk ((pl.map tx)[j]'(by rw [List.length_map]; exact hjp)) = pl[j] := by rw [List.getElem_map, mk_tx]
      rw [hnj] at hstep
      obtain ⟨sb, so, sx, eFA, hcf, hrow⟩ := (HF.out.below HB.out).at hjf
      obtain ⟨nb, no, ePA, hcn⟩ := (HPS.out.below HB.out).getS hjp
      subst eFA ePA
      obtain ⟨A2, c2, rfl, hle2, hs2, _⟩ := HW2.out.sl
      have HCZ2 := Lib.hid HW2.out.cz
      have HS2 := Lib.hid hs2
      clear hs2
      have hns := HSZ.out _ (List.getElem_mem hjp)
      have hPE := fun (W : World) (h : Sl W encE 2 sx.1 fs[j]) => iPutEntry_any sx.1 sx.2.2 fs[j] (pl[j], p') W h hrow.cz hrow.val hns
      unfold EnRes at hPE
      have hent := hrow.val
      have HSX := Lib.hid hrow.sl
      have hel := putE_len fs[j] (pl[j], p')
      have hpv := putE_val fs[j] (pl[j], p')
      generalize fs[j] = en at *
      generalize pl[j] = nm at *
      obtain ⟨X, xn, xc⟩ := sx
      simp only at *
      clear hrow hnj
      generalize hpe : putE en (nm, p') = PE at *
      obtain ⟨en2, okE⟩ := PE
      simp only at *
      have HPE := Lib.hid hPE
      clear hPE hpe
      cases okE
      · have HSTEP := Lib.hid (show R = none by rw [hstep]; rfl)
        clear hstep
        go_wp2_with fail
        go_region_held3 (fun W => W.cell? ⟨sb, so + j, none⟩ = some (.slice X en.length xc) ∧ W.cell? ⟨nb, no + j, none⟩ = some (.string nm)) (first | exact ⟨hcf, hcn⟩ | exact ⟨Below_cells HY3.out _ _ _ hcf, Below_cells HY3.out _ _ _ hcn⟩ | assumption)
          ((go_at_call 140; refine (HPE.out _ (by first | exact HSX.out | exact HSX.out.drew)).mono ?_; rintro e w3 ⟨v3, rfl, hown3, hb3⟩; have hb3' := (show Below wr.heap.size wr w3 from (by first | exact hb3 | exact Below_drew hb3)); have HY3 := Lib.hid hb3'; have HB3 := Lib.hid (Below_then HB.out hb3' (Nat.le_refl _)); clear hown3 hb3 hb3'))
        all_goals
          go_wp2
          go_ret3
          exact PfRes.no HSTEP.out HB3.out
      · have htz : (mk (foldT en2)).size ≤ 16777216 := by
          have := textV_size (s := mk (foldT en2)) (foldT_textV en2); omega
        have hFT := fun A c w h h2 => iFolderText_any A c en2 w h (by omega) (fitE_valid hpv) h2
        have hPT := fun w h => iPutText_any A2 c2 l' (mk (foldT en2)) w h HCZ2.out (by have := storeV_len HV2.out; omega) (fitP_valid HV2.out) htz
        unfold PutRes at hPT
        have hok := fun h => putT_ok (l := l') (t := mk (foldT en2)) h
        have hstep : R = if (putT l' (mk (foldT en2))).2.2 then putF (putT l' (mk (foldT en2))).1 (fs.take j) ((pl.map tx).take j) (prOf (foldT en2)) else none := hstep
        rw [tx_mk] at hok
        generalize prOf (foldT en2) = pr at *
        generalize mk (foldT en2) = tt at *
        generalize hpt : putT l' tt = PT at *
        obtain ⟨l3, p3, ok3⟩ := PT
        simp only at *
        have HFT := Lib.hid hFT
        have HPT := Lib.hid hPT
        clear hFT hPT hpt htz
        cases ok3
        · have HSTEP := Lib.hid (show R = none by rw [hstep]; rfl)
          clear hstep hok
          go_wp2_with fail
          go_region_held3 (fun W => W.cell? ⟨sb, so + j, none⟩ = some (.slice X en.length xc) ∧ W.cell? ⟨nb, no + j, none⟩ = some (.string nm)) (first | exact ⟨hcf, hcn⟩ | exact ⟨Below_cells HY3.out _ _ _ hcf, Below_cells HY3.out _ _ _ hcn⟩ | assumption)
            ((go_at_call 140; refine (HPE.out _ (by first | exact HSX.out | exact HSX.out.drew)).mono ?_; rintro e w3 ⟨v3, rfl, hown3, hb3⟩; have HO3 := Lib.hid (hown3.mono (show wr.heap.size ≤ _ from Nat.le_refl _)); have hb3' := (show Below wr.heap.size wr w3 from (by first | exact hb3 | exact Below_drew hb3)); have HY3 := Lib.hid hb3'; have HB3 := Lib.hid (Below_then HB.out hb3' (Nat.le_refl _)); clear hown3 hb3 hb3'))
          all_goals
            obtain ⟨X3, c3, rfl, hle3, hs3, _⟩ := HO3.out.sl
            have HS3 := Lib.hid hs3
            have HT3 := Lib.hid (HT.out.below HB3.out)
            clear hs3
            go_wp2_with fail
            refine (HFT.out X3 c3 _ HS3.out HT3.out).mono ?_
            rintro e w4 ⟨rfl, hb4⟩
            have HB4 := Lib.hid (Below_then HB3.out hb4 (Nat.le_refl _))
            have HS4 := Lib.hid ((HS2.out.below HY3.out).below hb4)
            clear hb4
            go_wp2_with fail
            refine (HPT.out _ HS4.out).mono ?_
            rintro e w5 ⟨v5, rfl, hown5, hb5⟩
            have HB5 := Lib.hid (Below_then HB4.out hb5 (Nat.le_refl _))
            clear hown5 hb5
            go_wp2
            go_ret3
            exact PfRes.no HSTEP.out HB5.out
        · obtain ⟨_, hpo, rfl⟩ := hok rfl
          have HV3 := Lib.hid hpo.valid
          have HSTEP := Lib.hid (show R = putF l3 (fs.take j) ((pl.map tx).take j) p3 by rw [hstep]; rfl)
          clear hstep hok hpo
          go_wp2_with fail
          go_region_held3 (fun W => W.cell? ⟨sb, so + j, none⟩ = some (.slice X en.length xc) ∧ W.cell? ⟨nb, no + j, none⟩ = some (.string nm)) (first | exact ⟨hcf, hcn⟩ | exact ⟨Below_cells HY3.out _ _ _ hcf, Below_cells HY3.out _ _ _ hcn⟩ | assumption)
            ((go_at_call 140; refine (HPE.out _ (by first | exact HSX.out | exact HSX.out.drew)).mono ?_; rintro e w3 ⟨v3, rfl, hown3, hb3⟩; have HO3 := Lib.hid (hown3.mono (show wr.heap.size ≤ _ from Nat.le_refl _)); have hb3' := (show Below wr.heap.size wr w3 from (by first | exact hb3 | exact Below_drew hb3)); have HY3 := Lib.hid hb3'; have HB3 := Lib.hid (Below_then HB.out hb3' (Nat.le_refl _)); clear hown3 hb3 hb3'))
          all_goals
            obtain ⟨X3, c3, rfl, hle3, hs3, _⟩ := HO3.out.sl
            have HS3 := Lib.hid hs3
            have HT3 := Lib.hid (HT.out.below HB3.out)
            clear hs3
            go_wp2_with fail
            refine (HFT.out X3 c3 _ HS3.out HT3.out).mono ?_
            rintro e w4 ⟨rfl, hb4⟩
            have HB4 := Lib.hid (Below_then HB3.out hb4 (Nat.le_refl _))
            have HS4 := Lib.hid ((HS2.out.below HY3.out).below hb4)
            clear hb4
            go_wp2_with fail
            refine (HPT.out _ HS4.out).mono ?_
            rintro e w5 ⟨v5, rfl, hown5, hb5⟩
            have HB5 := Lib.hid (Below_then HB4.out hb5 (Nat.le_refl _))
            have HW5 := Lib.hid (hown5.mono (Nat.le_trans hbase HB4.out.size))
            clear hown5 hb5
            go_wp2
            go_roundw
            case rel => exact ⟨j, (j : Int) - 1, l3, p3, by omega, rfl, by go_num, rfl, HV3.out, HSTEP.out, HW5.out, HB5.out⟩
            case measure => first | (simp [intOf]; done) | (simp [intOf]; omega)
end Go.Proofs.YtkglfmgmmnfmbaaGreatDoor
