/- Texts in one: Aw, Wi, Wj. -/
import Derived.Test.YtokelopllbaikaaGreatDoorGb7
import Derived.Test.YtokelopllbaikaaGreatDoorGa7
import Derived.Test.YtokelopllbaikaaGreatDoorGa8
import Derived.Test.YtokelopllbaikaaGreatDoorGc3
import Derived.Test.YtokelopllbaikaaGreatDoorGb9
import Derived.Test.YtokelopllbaikaaGreatDoorGb2
import Derived.Test.YtokelopllbaikaaGreatDoorGb8
import Derived.Test.YtokelopllbaikaaGreatDoorS3
/- ArchiveValid, walked. -/
set_option linter.unusedVariables false
namespace Go.Proofs.YtokelopllbaikaaGreatDoor
open Go.RowKit
end Go.Proofs.YtokelopllbaikaaGreatDoor

/- The folders on the way: foldersToWrite of the program, walked. -/
set_option linter.unusedVariables false
namespace Go.Proofs.YtokelopllbaikaaGreatDoor
open Go.RowKit
theorem fitP_valid {l : List Pc} (h : storeV l = true) : FitP l := fun q hq => by
  have := textV_size (pieceOk_iff.1 (storeV_piece h hq)).1
  omega
theorem putE_val (l : List En) (e : En) : entsV (putE l e).1 = true := by
  unfold putE
  split
  · split
    · assumption
    · assumption
  · rfl
theorem foldsL_at {s : List Pc} {a : Option Int} {pl : List ByteArray} {k : Nat} {acc : List (List En)} (h : k < pl.length) :
    (foldsL s a ((pl.drop k).map tx)).map (acc ++ ·) = (listAt s a).bind fun l => (foldsL s (getE l (tx pl[k])) ((pl.drop (k + 1)).map tx)).map ((acc ++ [l]) ++ ·) := by
  rw [List.drop_eq_getElem_cons h, List.map_cons, foldsL_step]
theorem foldsL_start {s : List Pc} {a : Option Int} {ns : List Bs} : foldsL s a ns = (foldsL s a ns).map ([] ++ ·) := by
  cases foldsL s a ns <;> rfl
theorem Own.apart_of {α : Type} {enc : α → List Value} {w : World} {base size : Nat} {E : TypeId} {A : Option Addr} {n c : Nat} {l : List α} (h : Own w base E size enc (.slice A n c) l) : A = none ∨ ∃ b o, A = some ⟨b, o, none⟩ := by
  obtain ⟨A', c', e, _, _, hg⟩ := h.sl
  injection e with e1 _ _
  subst e1
  rcases hg with ⟨_, h⟩ | ⟨g, h, _⟩
  · exact .inl h
  · exact .inr ⟨g, 0, h⟩
theorem RowL.of_own {w : World} {base : Nat} {v : Value} {A : Option Addr} {n c : Nat} {l : List En} {E : TypeId} (h : Own w base E 2 encE (.slice A n c) l) (hn : n = l.length) (hle : l.length ≤ c) (hv : entsV l = true) (hb : ∀ g, v.ownBlock = some g → g < base) : RowL w v (A, n, c) l :=
  ⟨hn, (by obtain ⟨A', c', e, _, hs, _⟩ := h.sl; (injection e with e1); rw [e1]; exact hs), h.cz, hle, h.apart_of, h.apart hb, h.ltA, hv⟩
theorem RowL.nil_ {w : World} {v : Value} : RowL w v (none, 0, 0) [] := ⟨rfl, Sl.none_, fun _ => rfl, Nat.le_refl _, .inl rfl, (fun b o e => by (have e : (none : Option Addr) = some ⟨b, o, none⟩ := e); cases e), (fun b o e => by (have e : (none : Option Addr) = some ⟨b, o, none⟩ := e); cases e), rfl⟩
set_option maxHeartbeats 1000000 in
set_option maxRecDepth 100000 in
theorem iFileText_any (s : ByteArray) (w : World) (hs : s.size ≤ 16777216) : Calls Tryz.prog 24 #[.string s] w fun e w' => e = .returned (.string (mk (fileT (bs s)))) ∧ w = w' := by
  have hCV := fun w => iContentValid_any s w hs
  cases hc : contV (bs s)
  · have HE := Lib.hid (show mk (fileT (bs s)) = ⟨#[]⟩ by unfold fileT; rw [hc]; rfl)
    rw [hc] at hCV
    have HCV := Lib.hid hCV
    clear hCV hc
    go_enter Tryz.func24, Tryz.ntmps24
    go_wp2_with (go_at_call 20; refine (HCV.out _).mono ?_; rintro e w' ⟨rfl, rfl⟩)
    go_ret
    rw [HE.out]; exact ⟨rfl, rfl⟩
  · have HE := Lib.hid (show mk (fileT (bs s)) = ⟨#[102]⟩ ++ s by rw [fileT_ok hc, show (102 :: bs s) = [102] ++ bs s from rfl, ← mk_append]; exact congrArg (mk [102] ++ ·) (mk_tx s))
    have hz : s.size ≤ 40 := by
      have := hc
      unfold contV at this
      rw [Bool.and_eq_true, decide_eq_true_eq, size_bs] at this; exact this.2
    have hq := str_add (x := ⟨#[102]⟩) (y := s) (by decide) (by omega)
    rw [hc] at hCV
    have HCV := Lib.hid hCV
    clear hCV hc
    go_enter Tryz.func24, Tryz.ntmps24
    go_wp2_with (go_at_call 20; refine (HCV.out _).mono ?_; rintro e w' ⟨rfl, rfl⟩)
    go_ret
    rw [HE.out]; exact ⟨rfl, rfl⟩
def FwiRes (r : Option (List (List En))) (w : World) (e : Ending) (w' : World) : Prop :=
  ∃ v, e = .returned (.tuple #[v, .bool r.isSome]) ∧ Folds w' w.heap.size v (r.getD []) ∧ Below w.heap.size w w'
theorem FwiRes.no {r : Option (List (List En))} {w w' : World} (h : r = none) (hb : Below w.heap.size w w') : FwiRes r w (.returned (.tuple #[.slice none 0 0, .bool false])) w' := by
  subst h; exact ⟨_, rfl, Folds.nil, hb⟩
theorem FwiRes.yes {r : Option (List (List En))} {w w' : World} {v : Value} {fs : List (List En)} (h : r = some fs) (hf : Folds w' w.heap.size v fs) (hb : Below w.heap.size w w') : FwiRes r w (.returned (.tuple #[v, .bool true])) w' := by
  subst h; exact ⟨_, rfl, hf, hb⟩
set_option maxHeartbeats 8000000 in
set_option maxRecDepth 100000 in
theorem ifoldersToWrite_any (A PA : Option Addr) (c pc : Nat) (l : List Pc) (root : Int) (pl : List ByteArray) (w : World) (hs : Sl w encP 2 A l) (hv : storeV l = true) (hps : Sl w encS 1 PA pl) (hpl : pl.length ≤ 3) (ht : TzL w) (hm : MaxL w) :
    Calls Tryz.prog 21 #[.slice A l.length c, .int .i64 root, .slice PA pl.length pc] w (FwiRes (foldsL l (some root) (pl.map tx)) w) := by
  have HS := Lib.hid hs
  have HV := Lib.hid hv
  have HPS := Lib.hid hps
  have HT := Lib.hid ht
  have HM := Lib.hid hm
  have HE0 := Lib.hid (show foldsL l (some root) (pl.map tx) = (foldsL l (some root) ((pl.drop 0).map tx)).map ([] ++ ·) from foldsL_start)
  clear hs hv hps ht hm
  generalize foldsL l (some root) (pl.map tx) = R at *
  go_enter Tryz.func21, Tryz.ntmps21
  go_wp2_with fail
  go_loopw [8, 9, 10, 21] (fun vf va vt vi wr => ∃ (k : Nat) (a : Option Int) (acc : List (List En)), k ≤ pl.length ∧ va = .int .i64 (a.getD (-1)) ∧ vt = .bool a.isSome ∧ vi = .int .i64 k ∧ acc.length = k ∧ Hid (R = (foldsL l a ((pl.drop k).map tx)).map (acc ++ ·)) ∧ Hid (Folds wr w.heap.size vf acc) ∧ Hid (Below w.heap.size w wr)) (fun _ _ _ vi _ => pl.length - (intOf vi).toNat)
  case atStart => exact ⟨0, some root, [], Nat.zero_le _, rfl, rfl, rfl, rfl, HE0.out, Folds.nil, Below.refl _ _⟩
  case round =>
    obtain ⟨k, a, acc, hk, rfl, rfl, rfl, hacc, HR, HF, HB⟩ := hrel
    have HSW := Lib.hid (HS.out.below HB.out)
    have HTW := Lib.hid (HT.out.below HB.out)
    have HMW := Lib.hid (HM.out.below HB.out)
    by_cases hlt : k < pl.length
    · have hlt' : (k : Int) < (pl.length : Int) := by omega
      have hal : acc.length ≤ 16777216 := by omega
      have HAL := Lib.hid hacc
      clear hacc
      obtain ⟨b, o, rfl, hc⟩ := (HPS.out.below HB.out).getS hlt
      have hstep := HR.out.trans (foldsL_at hlt)
      generalize pl[k] = nm at *
      cases a with
      | none =>
        have HSTEP := Lib.hid (show R = (foldsL l (getE [] (tx nm)) ((pl.drop (k + 1)).map tx)).map ((acc ++ [[]]) ++ ·) from hstep)
        have hPN := fun A c w h => printNamed_any A c [] nm w h (by decide) (entsV_sorted rfl)
        unfold PnRes at hPN
        have hge : getE [] (tx nm) = none := rfl
        rw [hge] at hPN
        have HPN := Lib.hid hPN
        simp only [Option.isSome_none, Option.getD_none] at *
        clear hstep hPN hge
        go_wp2_with (at_builtin; refine app_fold (w0 := w) (l := []) rfl rfl (by rfl) (by rfl) HF.out HB.out hal RowL.nil_ ?_; intro v4 w4 hF4 hb4 hg4 hk4; have HF4 := Lib.hid hF4; have HB4 := Lib.hid hb4; clear hF4 hb4 hg4 hk4)
        refine (HPN.out none 0 _ Sl.none_).mono ?_
        rintro e w5 ⟨rfl, hb5⟩
        have HF5 := Lib.hid (HF4.out.below hb5)
        have HB5 := Lib.hid (Below_then HB4.out hb5 (Nat.le_refl _))
        clear hb5
        go_wp2
        go_roundw
        case rel => exact ⟨k + 1, none, acc ++ [[]], by omega, rfl, rfl, by go_num, by rw [List.length_append, HAL.out]; rfl, HSTEP.out, HF5.out, HB5.out⟩
        case measure => simp [intOf]; omega
      | some p =>
        have hFO := fun w h h2 h3 => ifolderOf_any A c l p w h HV.out h2 h3
        unfold RfRes at hFO
        have hla : listAt l (some p) = folderOf l p := rfl
        rw [hla] at hstep
        cases hfo : folderOf l p with
        | none =>
          have HSTEP := Lib.hid (show R = none by rw [hstep, hfo]; rfl)
          rw [hfo] at hFO
          have HFO := Lib.hid hFO
          simp only [Option.isSome_some, Option.getD_some] at *
          clear hstep hFO hla hfo
          go_wp2_with fail
          refine (HFO.out _ HSW.out HTW.out HMW.out).mono ?_
          rintro e w3 ⟨v3, rfl, hown3, hb3⟩
          have HB3 := Lib.hid (Below_then HB.out hb3 (Nat.le_refl _))
          clear hown3 hb3
          go_wp2
          go_ret2
          exact FwiRes.no HSTEP.out HB3.out
        | some en =>
          have hen3 : en.length ≤ 3 := entsV_len (folder_valid hfo)
          have HEV := Lib.hid (folder_valid hfo)
          have HSTEP := Lib.hid (show R = (foldsL l (getE en (tx nm)) ((pl.drop (k + 1)).map tx)).map ((acc ++ [en]) ++ ·) by rw [hstep, hfo]; rfl)
          rw [hfo] at hFO
          have HFO := Lib.hid hFO
          have hPN := fun A c w h => printNamed_any A c en nm w h (by omega) (entsV_sorted HEV.out)
          unfold PnRes at hPN
          simp only [Option.isSome_some, Option.getD_some] at *
          generalize getE en (tx nm) = a2 at *
          have HPN := Lib.hid hPN
          clear hstep hFO hla hfo hPN
          go_wp2_with fail
          refine (HFO.out _ HSW.out HTW.out HMW.out).mono ?_
          rintro e w3 ⟨v3, rfl, hown3, hb3⟩
          obtain ⟨X, d, rfl, hle3, _, _⟩ := hown3.sl
          have HB3 := Lib.hid (Below_then HB.out hb3 (Nat.le_refl _))
          have HROW := Lib.hid (RowL.of_own hown3 rfl hle3 HEV.out (fun g hg => (HF.out.blk g hg).2))
          have HF3 := Lib.hid (HF.out.below hb3)
          clear hown3 hb3
          go_wp2_with (at_builtin; refine app_fold (w0 := w) (l := en) rfl rfl (by rfl) (by rfl) HF3.out HB3.out hal HROW.out ?_; intro v4 w4 hF4 hb4 hg4 hk4; have HF4 := Lib.hid hF4; have HB4 := Lib.hid hb4; have HX4 := Lib.hid (HROW.out.sl.grew hg4 HROW.out.apart); clear hF4 hb4 hg4 hk4)
          refine (HPN.out X d _ HX4.out).mono ?_
          rintro e w5 ⟨rfl, hb5⟩
          have HF5 := Lib.hid (HF4.out.below hb5)
          have HB5 := Lib.hid (Below_then HB4.out hb5 (Nat.le_refl _))
          clear hb5
          go_wp2
          go_roundw
          case rel => exact ⟨k + 1, a2, acc ++ [en], by omega, rfl, rfl, by go_num, by rw [List.length_append, HAL.out]; rfl, HSTEP.out, HF5.out, HB5.out⟩
          case measure => simp [intOf]; omega
    · have hlt' : ¬ (k : Int) < (pl.length : Int) := by omega
      have hend := HR.out
      rw [List.drop_of_length_le (by omega), List.map_nil, foldsL_end] at hend
      cases a with
      | none =>
        have HEND := Lib.hid (show R = some acc from hend)
        simp only [Option.isSome_none, Option.getD_none] at *
        clear hend
        go_wp2
        go_ret2
        exact FwiRes.yes HEND.out HF.out HB.out
      | some p =>
        have hFI := fun w h => ifileOf_any A c l p w h HV.out
        unfold FoRes at hFI
        have hlo : leafOk l (some p) = (fileOf l p).isSome := rfl
        rw [hlo] at hend
        simp only [Option.isSome_some, Option.getD_some] at *
        generalize mk ((fileOf l p).getD []) = CT at *
        cases hfi : (fileOf l p).isSome
        · rw [hfi] at hend hFI
          have HEND := Lib.hid (show R = none from hend)
          have HFI := Lib.hid hFI
          clear hend hFI hlo hfi
          go_wp2_with fail
          refine (HFI.out _ HSW.out).mono ?_
          rintro e w3 ⟨rfl, hb3⟩
          have HB3 := Lib.hid (Below_then HB.out hb3 (Nat.le_refl _))
          clear hb3
          go_wp2
          go_ret2
          exact FwiRes.no HEND.out HB3.out
        · rw [hfi] at hend hFI
          have HEND := Lib.hid (show R = some acc from hend)
          have HFI := Lib.hid hFI
          clear hend hFI hlo hfi
          go_wp2_with fail
          refine (HFI.out _ HSW.out).mono ?_
          rintro e w3 ⟨rfl, hb3⟩
          have HB3 := Lib.hid (Below_then HB.out hb3 (Nat.le_refl _))
          have HF3 := Lib.hid (HF.out.below hb3)
          clear hb3
          go_wp2
          go_ret2
          exact FwiRes.yes HEND.out HF3.out HB3.out
end Go.Proofs.YtokelopllbaikaaGreatDoor

/- The way back up: putFolders of the program, walked. -/
set_option linter.unusedVariables false
namespace Go.Proofs.YtokelopllbaikaaGreatDoor
open Go.RowKit
def PfRes (base : Nat) (r : Option (List Pc × Int)) (w : World) (e : Ending) (w' : World) : Prop :=
  ∃ v, e = .returned (.tuple #[v, .int .i64 ((r.map (·.2)).getD (-1)), .bool r.isSome]) ∧ Own w' base 38 2 encP v ((r.map (·.1)).getD []) ∧ Below w.heap.size w w'
theorem PfRes.no {base : Nat} {r : Option (List Pc × Int)} {w w' : World} (h : r = none) (hb : Below w.heap.size w w') : PfRes base r w (.returned (.tuple #[.slice none 0 0, .int .i64 (-1), .bool false])) w' := by
  subst h; exact ⟨_, rfl, Own.nil, hb⟩
theorem PfRes.yes {base : Nat} {r : Option (List Pc × Int)} {w w' : World} {v : Value} {l : List Pc} {p : Int} (h : r = some (l, p)) (ho : Own w' base 38 2 encP v l) (hb : Below w.heap.size w w') : PfRes base r w (.returned (.tuple #[v, .int .i64 p, .bool true])) w' := by
  subst h; exact ⟨_, rfl, ho, hb⟩
set_option maxHeartbeats 8000000 in
set_option maxRecDepth 100000 in
theorem iputFolders_any (base : Nat) (v FV : Value) (PA : Option Addr) (pc : Nat) (l : List Pc) (p : Int) (fs : List (List En)) (pl : List ByteArray) (fb : Nat) (w : World) (hown : Own w base 38 2 encP v l) (hbase : base ≤ w.heap.size) (hv : storeV l = true) (hF : Folds w fb FV fs) (hps : Sl w encS 1 PA pl) (hfl : fs.length = pl.length) (hpl : pl.length ≤ 3) (hsz : ∀ x ∈ pl, x.size ≤ 16777216) (ht : TzL w) (hm : MaxL w) :
    Calls Tryz.prog 25 #[v, FV, .slice PA pl.length pc, .int .i64 p] w (PfRes base (putF l fs (pl.map tx) p) w) := by
  have HW := Lib.hid hown
  have HV := Lib.hid hv
  have HPS := Lib.hid hps
  have HT := Lib.hid ht
  have HM := Lib.hid hm
  have HSZ := Lib.hid hsz
  have HFL := Lib.hid hfl
  have HML := Lib.hid (show fs.length = (pl.map tx).length by rw [List.length_map]; exact hfl)
  obtain ⟨FA, fc, rfl, hfle, hfcz⟩ := hF.hd
  have HF := Lib.hid hF
  have HE0 := Lib.hid (show putF l fs (pl.map tx) p = putF l (fs.take fs.length) ((pl.map tx).take fs.length) p by
    rw [List.take_of_length_le (Nat.le_refl _), List.take_of_length_le (by rw [HML.out]; exact Nat.le_refl _)])
  have hfl3 : fs.length ≤ 3 := by omega
  clear hown hv hps ht hm hsz hfcz hF
  generalize putF l fs (pl.map tx) p = R at *
  clear hfl
  have hwr : IntKind.i64.wrap ((fs.length : Int) - 1) = (fs.length : Int) - 1 := IntWalk.i64_in _ (by omega)
  go_enter Tryz.func25, Tryz.ntmps25
  go_wp2_with fail
  go_loopw [0, 3, 11] (fun vs vp vi wr => ∃ (k : Nat) (x : Int) (l' : List Pc) (p' : Int), k ≤ fs.length ∧ x = (k : Int) - 1 ∧ vi = .int .i64 x ∧ vp = .int .i64 p' ∧ Hid (storeV l' = true) ∧ Hid (R = putF l' (fs.take k) ((pl.map tx).take k) p') ∧ Hid (Own wr base 38 2 encP vs l') ∧ Hid (Below w.heap.size w wr)) (fun _ _ vi _ => (intOf vi + 1).toNat)
  case atStart => exact ⟨fs.length, (fs.length : Int) - 1, l, p, Nat.le_refl _, rfl, rfl, rfl, HV.out, HE0.out, HW.out, Below.refl _ _⟩
  case round =>
    obtain ⟨k, x, l', p', hk, hx, rfl, rfl, HV2, HR, HW2, HB⟩ := hrel
    cases k with
    | zero =>
      have hx' : ¬ (0 : Int) ≤ x := by omega
      have HEND := Lib.hid (show R = some (l', p') by rw [HR.out]; rfl)
      go_wp2
      go_ret3
      exact PfRes.yes HEND.out HW2.out HB.out
    | succ j =>
      obtain rfl : x = (j : Int) := by omega
      clear hx
      have hjf : j < fs.length := hk
      have hjp : j < pl.length := by have := HFL.out; omega
      have hjf' : (j : Int) < (fs.length : Int) := by omega
      have hjp' : (j : Int) < (pl.length : Int) := by omega
      have hstep := HR.out.trans (putF_take (s := l') (p := p') HML.out hjf)
      have hnj : mk ((pl.map tx)[j]'(by rw [List.length_map]; exact hjp)) = pl[j] := by rw [List.getElem_map, mk_tx]
      rw [hnj] at hstep
      obtain ⟨sb, so, sx, eFA, hcf, hrow⟩ := (HF.out.below HB.out).at hjf
      obtain ⟨nb, no, ePA, hcn⟩ := (HPS.out.below HB.out).getS hjp
      subst eFA ePA
      obtain ⟨A2, c2, rfl, hle2, hs2, _⟩ := HW2.out.sl
      have HCZ2 := Lib.hid HW2.out.cz
      have HS2 := Lib.hid hs2
      clear hs2
      have hns := HSZ.out _ (List.getElem_mem hjp)
      have hPE := fun (W : World) (h : Sl W encE 2 sx.1 fs[j]) => iPutEntry_any sx.1 sx.2.2 fs[j] (pl[j], p') W h hrow.cz hrow.val hns
      unfold EnRes at hPE
      have hent := hrow.val
      have HSX := Lib.hid hrow.sl
      have hel := putE_len fs[j] (pl[j], p')
      have hpv := putE_val fs[j] (pl[j], p')
      generalize fs[j] = en at *
      generalize pl[j] = nm at *
      obtain ⟨X, xn, xc⟩ := sx
      simp only at *
      clear hrow hnj
      generalize hpe : putE en (nm, p') = PE at *
      obtain ⟨en2, okE⟩ := PE
      simp only at *
      have HPE := Lib.hid hPE
      clear hPE hpe
      cases okE
      · have HSTEP := Lib.hid (show R = none by rw [hstep]; rfl)
        clear hstep
        go_wp2_with fail
        go_region_held3 (fun W => W.cell? ⟨sb, so + j, none⟩ = some (.slice X en.length xc) ∧ W.cell? ⟨nb, no + j, none⟩ = some (.string nm)) (first | exact ⟨hcf, hcn⟩ | exact ⟨Below_cells HY3.out _ _ _ hcf, Below_cells HY3.out _ _ _ hcn⟩ | assumption)
          ((go_at_call 44; refine (HPE.out _ (by first | exact HSX.out | exact HSX.out.drew)).mono ?_; rintro e w3 ⟨v3, rfl, hown3, hb3⟩; have hb3' := (show Below wr.heap.size wr w3 from (by first | exact hb3 | exact Below_drew hb3)); have HY3 := Lib.hid hb3'; have HB3 := Lib.hid (Below_then HB.out hb3' (Nat.le_refl _)); clear hown3 hb3 hb3'))
        all_goals
          go_wp2
          go_ret3
          exact PfRes.no HSTEP.out HB3.out
      · have htz : (mk (foldT en2)).size ≤ 16777216 := by
          have := textV_size (s := mk (foldT en2)) (foldT_textV en2); omega
        have hFT := fun A c w h h2 => iFolderText_any A c en2 w h (by omega) (fitE_valid hpv) h2
        have hPT := fun w h => iPutText_any A2 c2 l' (mk (foldT en2)) w h HCZ2.out (by have := storeV_len HV2.out; omega) (fitP_valid HV2.out) htz
        unfold PutRes at hPT
        have hok := fun h => putT_ok (l := l') (t := mk (foldT en2)) h
        have hstep : R = if (putT l' (mk (foldT en2))).2.2 then putF (putT l' (mk (foldT en2))).1 (fs.take j) ((pl.map tx).take j) (prOf (foldT en2)) else none := hstep
        rw [tx_mk] at hok
        generalize prOf (foldT en2) = pr at *
        generalize mk (foldT en2) = tt at *
        generalize hpt : putT l' tt = PT at *
        obtain ⟨l3, p3, ok3⟩ := PT
        simp only at *
        have HFT := Lib.hid hFT
        have HPT := Lib.hid hPT
        clear hFT hPT hpt htz
        cases ok3
        · have HSTEP := Lib.hid (show R = none by rw [hstep]; rfl)
          clear hstep hok
          go_wp2_with fail
          go_region_held3 (fun W => W.cell? ⟨sb, so + j, none⟩ = some (.slice X en.length xc) ∧ W.cell? ⟨nb, no + j, none⟩ = some (.string nm)) (first | exact ⟨hcf, hcn⟩ | exact ⟨Below_cells HY3.out _ _ _ hcf, Below_cells HY3.out _ _ _ hcn⟩ | assumption)
            ((go_at_call 44; refine (HPE.out _ (by first | exact HSX.out | exact HSX.out.drew)).mono ?_; rintro e w3 ⟨v3, rfl, hown3, hb3⟩; have HO3 := Lib.hid (hown3.mono (show wr.heap.size ≤ _ from Nat.le_refl _)); have hb3' := (show Below wr.heap.size wr w3 from (by first | exact hb3 | exact Below_drew hb3)); have HY3 := Lib.hid hb3'; have HB3 := Lib.hid (Below_then HB.out hb3' (Nat.le_refl _)); clear hown3 hb3 hb3'))
          all_goals
            obtain ⟨X3, c3, rfl, hle3, hs3, _⟩ := HO3.out.sl
            have HS3 := Lib.hid hs3
            have HT3 := Lib.hid (HT.out.below HB3.out)
            clear hs3
            go_wp2_with fail
            refine (HFT.out X3 c3 _ HS3.out HT3.out).mono ?_
            rintro e w4 ⟨rfl, hb4⟩
            have HB4 := Lib.hid (Below_then HB3.out hb4 (Nat.le_refl _))
            have HS4 := Lib.hid ((HS2.out.below HY3.out).below hb4)
            clear hb4
            go_wp2_with fail
            refine (HPT.out _ HS4.out).mono ?_
            rintro e w5 ⟨v5, rfl, hown5, hb5⟩
            have HB5 := Lib.hid (Below_then HB4.out hb5 (Nat.le_refl _))
            clear hown5 hb5
            go_wp2
            go_ret3
            exact PfRes.no HSTEP.out HB5.out
        · obtain ⟨_, hpo, rfl⟩ := hok rfl
          have HV3 := Lib.hid hpo.valid
          have HSTEP := Lib.hid (show R = putF l3 (fs.take j) ((pl.map tx).take j) p3 by rw [hstep]; rfl)
          clear hstep hok hpo
          go_wp2_with fail
          go_region_held3 (fun W => W.cell? ⟨sb, so + j, none⟩ = some (.slice X en.length xc) ∧ W.cell? ⟨nb, no + j, none⟩ = some (.string nm)) (first | exact ⟨hcf, hcn⟩ | exact ⟨Below_cells HY3.out _ _ _ hcf, Below_cells HY3.out _ _ _ hcn⟩ | assumption)
            ((go_at_call 44; refine (HPE.out _ (by first | exact HSX.out | exact HSX.out.drew)).mono ?_; rintro e w3 ⟨v3, rfl, hown3, hb3⟩; have HO3 := Lib.hid (hown3.mono (show wr.heap.size ≤ _ from Nat.le_refl _)); have hb3' := (show Below wr.heap.size wr w3 from (by first | exact hb3 | exact Below_drew hb3)); have HY3 := Lib.hid hb3'; have HB3 := Lib.hid (Below_then HB.out hb3' (Nat.le_refl _)); clear hown3 hb3 hb3'))
          all_goals
            obtain ⟨X3, c3, rfl, hle3, hs3, _⟩ := HO3.out.sl
            have HS3 := Lib.hid hs3
            have HT3 := Lib.hid (HT.out.below HB3.out)
            clear hs3
            go_wp2_with fail
            refine (HFT.out X3 c3 _ HS3.out HT3.out).mono ?_
            rintro e w4 ⟨rfl, hb4⟩
            have HB4 := Lib.hid (Below_then HB3.out hb4 (Nat.le_refl _))
            have HS4 := Lib.hid ((HS2.out.below HY3.out).below hb4)
            clear hb4
            go_wp2_with fail
            refine (HPT.out _ HS4.out).mono ?_
            rintro e w5 ⟨v5, rfl, hown5, hb5⟩
            have HB5 := Lib.hid (Below_then HB4.out hb5 (Nat.le_refl _))
            have HW5 := Lib.hid (hown5.mono (Nat.le_trans hbase HB4.out.size))
            clear hown5 hb5
            go_wp2
            go_roundw
            case rel => exact ⟨j, (j : Int) - 1, l3, p3, by omega, rfl, by go_num, rfl, HV3.out, HSTEP.out, HW5.out, HB5.out⟩
            case measure => first | (simp [intOf]; done) | (simp [intOf]; omega)
end Go.Proofs.YtokelopllbaikaaGreatDoor
