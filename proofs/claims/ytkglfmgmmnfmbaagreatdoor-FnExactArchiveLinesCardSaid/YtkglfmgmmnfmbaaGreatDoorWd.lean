/- The folders to drop from, and DropAt, of the program, walked. -/
import Derived.Test.YtkglfmgmmnfmbaaGreatDoorGc0
import Derived.Test.YtkglfmgmmnfmbaaGreatDoorIde
import Derived.Test.YtkglfmgmmnfmbaaGreatDoorZf
set_option linter.unusedVariables false
namespace Go.Proofs.YtkglfmgmmnfmbaaGreatDoor
open Go.RowKit
theorem Own.takeRow {α : Type} {enc : α → List Value} {w : World} {base size : Nat} {E : TypeId} {A : Option Addr} {n c : Nat} {l : List α} (he : ∀ x, (enc x).length = size) (h : Own w base E size enc (.slice A n c) l) {k : Nat} (hk : k ≤ l.length) (hp : 0 < l.length) : Own w base E size enc (.slice A k c) (l.take k) := by
  have hlk : (l.take k).length = k := by rw [List.length_take]; omega
  rcases h.2 with ⟨_, h0⟩ | ⟨g, cap, cur, e, hg, hh, hle, hm, hsz, ht⟩
  · omega
  · injection e with e1 e2 e3
    subst e1 e3
    refine ⟨flat_length he _, .inr ⟨g, c, cur, by rw [hlk], hg, hh, by omega, hm, hsz, ?_⟩⟩
    have hf := (flat_take he l k hk).1
    rw [hlk, hf, ← ht, List.take_take]
    congr 1
    have := Nat.mul_le_mul_right size hk
    omega
theorem Folds.takeF {w : World} {base : Nat} {A : Option Addr} {n c : Nat} {fs : List (List En)} (h : Folds w base (.slice A n c) fs) {k : Nat} (hk : k ≤ fs.length) (hp : 0 < fs.length) : Folds w base (.slice A k c) (fs.take k) := by
  obtain ⟨ss, h1, h2, h3⟩ := h
  refine ⟨ss.take k, Own.takeRow (enc := encL) (size := 1) (fun _ => rfl) h1 (by omega) (by omega), by rw [List.length_take, List.length_take, h2], fun j j1 j2 => ?_⟩
  rw [List.length_take] at j1 j2
  rw [List.getElem_take, List.getElem_take]
  have hr := h3 j (by omega) (by omega)
  have hap : Apart ss[j].1 (.slice A k c) := by
    intro b o e
    have := hr.apart b o e
    cases A with
    | none => simp [Value.ownBlock]
    | some a => simpa [Value.ownBlock] using this
  exact { hr with apart := hap }
theorem foldsD_at {s : List Pc} {p : Int} {pl : List ByteArray} {k : Nat} {acc : List (List En)} (h : k < pl.length) :
    acc ++ foldsD s p ((pl.drop k).map tx) = (acc ++ [(folderOf s p).getD []]) ++ foldsD s ((getE ((folderOf s p).getD []) (tx pl[k])).getD (-1)) ((pl.drop (k + 1)).map tx) := by
  rw [List.drop_eq_getElem_cons h, List.map_cons, foldsD]; simp
theorem rf_valid {l : List Pc} {p : Int} : entsV ((folderOf l p).getD []) = true := by
  cases h : folderOf l p with
  | none => rfl
  | some x => exact folder_valid h
def FdRes (fs : List (List En)) (w : World) (e : Ending) (w' : World) : Prop := ∃ v, e = .returned v ∧ Folds w' w.heap.size v fs ∧ Below w.heap.size w w'
set_option maxHeartbeats 3000000 in
set_option maxRecDepth 100000 in
theorem ifoldersToDrop_any (A PA : Option Addr) (c pc : Nat) (l : List Pc) (root : Int) (pl : List ByteArray) (w : World) (hs : Sl w encP 2 A l) (hv : storeV l = true) (hps : Sl w encS 1 PA pl) (hpl : pl.length ≤ 3) (ht : TzL w) (hm : MaxL w) :
    Calls Tryz.prog 107 #[.slice A l.length c, .int .i64 root, .slice PA pl.length pc] w (FdRes (foldsD l root (pl.map tx)) w) := by
  have HS := Lib.hid hs
  have HV := Lib.hid hv
  have HPS := Lib.hid hps
  have HT := Lib.hid ht
  have HM := Lib.hid hm
  have HE0 := Lib.hid (show foldsD l root (pl.map tx) = [] ++ foldsD l root ((pl.drop 0).map tx) from rfl)
  clear hs hv hps ht hm
  generalize foldsD l root (pl.map tx) = R at *
  go_enter Tryz.func107, Tryz.ntmps107
  go_wp2_with fail
  go_loopw [7, 8, 16] (fun vf va vi wr => ∃ (k : Nat) (a : Int) (acc : List (List En)), k ≤ pl.length ∧ va = .int .i64 a ∧ vi = .int .i64 k ∧ acc.length = k ∧ Hid (R = acc ++ foldsD l a ((pl.drop k).map tx)) ∧ Hid (Folds wr w.heap.size vf acc) ∧ Hid (Below w.heap.size w wr)) (fun _ _ vi _ => pl.length - (intOf vi).toNat)
  case atStart => exact ⟨0, root, [], Nat.zero_le _, rfl, rfl, rfl, HE0.out, Folds.nil, Below.refl _ _⟩
  case round =>
    obtain ⟨k, a, acc, hk, rfl, rfl, hacc, HR, HF, HB⟩ := hrel
    have HSW := Lib.hid (HS.out.below HB.out)
    have HTW := Lib.hid (HT.out.below HB.out)
    have HMW := Lib.hid (HM.out.below HB.out)
    by_cases hlt : k < pl.length
    · have hlt' : (k : Int) < (pl.length : Int) := by omega
      have hal : acc.length ≤ 16777216 := by omega
      have HAL := Lib.hid hacc
      clear hacc
      obtain ⟨b, o, rfl, hc⟩ := (HPS.out.below HB.out).getS hlt
      have hstep := HR.out.trans (foldsD_at hlt)
      generalize pl[k] = nm at *
      have hFO := fun w h h2 h3 => ifolderOf_any A c l a w h HV.out h2 h3
      unfold RfRes at hFO
      have hen := rf_valid (l := l) (p := a)
      generalize (folderOf l a).isSome = ok at *
      generalize (folderOf l a).getD [] = en at *
      have hen3 : en.length ≤ 3 := entsV_len hen
      have hPN := fun A c w h => printNamed_any A c en nm w h (by omega) (entsV_sorted hen)
      unfold PnRes at hPN
      generalize (getE en (tx nm)).isSome = ok2 at *
      generalize (getE en (tx nm)).getD (-1) = a2 at *
      have HSTEP := Lib.hid hstep
      have HFO := Lib.hid hFO
      have HPN := Lib.hid hPN
      have HEV := Lib.hid hen
      clear hstep hFO hPN hen
      go_wp2_with fail
      refine (HFO.out _ HSW.out HTW.out HMW.out).mono ?_
      rintro e w3 ⟨v3, rfl, hown3, hb3⟩
      obtain ⟨X, d, rfl, hle3, _, _⟩ := hown3.sl
      have HB3 := Lib.hid (Below_then HB.out hb3 (Nat.le_refl _))
      have HROW := Lib.hid (RowL.of_own hown3 rfl hle3 HEV.out (fun g hg => (HF.out.blk g hg).2))
      have HF3 := Lib.hid (HF.out.below hb3)
      clear hown3 hb3
      go_wp2_with (at_builtin; refine app_fold (w0 := w) (l := en) rfl rfl (by rfl) (by rfl) HF3.out HB3.out hal HROW.out ?_; intro v4 w4 hF4 hb4 hg4 hk4; have HF4 := Lib.hid hF4; have HB4 := Lib.hid hb4; have HX4 := Lib.hid (HROW.out.sl.grew hg4 HROW.out.apart); clear hF4 hb4 hg4 hk4)
      refine (HPN.out X d _ HX4.out).mono ?_
      rintro e w5 ⟨rfl, hb5⟩
      have HF5 := Lib.hid (HF4.out.below hb5)
      have HB5 := Lib.hid (Below_then HB4.out hb5 (Nat.le_refl _))
      clear hb5
      go_wp2
      go_roundw
      case rel => exact ⟨k + 1, a2, acc ++ [en], by omega, rfl, by go_num, by rw [List.length_append, HAL.out]; rfl, HSTEP.out, HF5.out, HB5.out⟩
      case measure => simp [intOf]; omega
    · have hlt' : ¬ (k : Int) < (pl.length : Int) := by omega
      have hend := HR.out
      rw [List.drop_of_length_le (by omega), List.map_nil, foldsD, List.append_nil] at hend
      have HEND := Lib.hid hend
      clear hend
      go_wp2
      go_ret
      rw [HEND.out]
      exact ⟨_, rfl, HF.out, HB.out⟩
/-- What stands where names have been dropped. -/
structure DaS (w : World) (A : Option Addr) (l : List Pc) (FA PA : Option Addr) (fc : Nat) (fs : List (List En)) (pl : List ByteArray) (fb : Nat) (W : World) : Prop where
  bel : Below w.heap.size w W
  sl : Sl W encP 2 A l
  fd : Folds W fb (.slice FA fs.length fc) fs
  ps : Sl W encS 1 PA pl
  tz : TzL W
  mx : MaxL W
theorem DaS.below {w W W' : World} {A FA PA : Option Addr} {l : List Pc} {fc fb : Nat} {fs : List (List En)} {pl : List ByteArray} (h : DaS w A l FA PA fc fs pl fb W) (hb : Below W.heap.size W W') : DaS w A l FA PA fc fs pl fb W' :=
  ⟨Below_then h.bel hb (Nat.le_refl _), h.sl.below hb, h.fd.below hb, h.ps.below hb, h.tz.below hb, h.mx.below hb⟩
set_option maxHeartbeats 3000000 in
set_option maxRecDepth 100000 in
theorem iDropAt_any (A : Option Addr) (c : Nat) (l : List Pc) (root : Int) (path : ByteArray) (w : World) (hs : Sl w encP 2 A l) (hcz : A = none → c = 0) (hl : l.length ≤ 16777216) (hf : FitP l) (hp : path.size ≤ 1048576) (ht : TzL w) (hm : MaxL w) :
    Calls Tryz.prog 49 #[.slice A l.length c, .int .i64 root, .string path] w (PutRes (dropA l root (bs path)) w) := by
  have HS := Lib.hid hs
  have HT := Lib.hid ht
  have HM := Lib.hid hm
  have HP := Lib.hid (fun w h => iPathPartsS_any path w hp h)
  have hSV := fun w h => iStoreValid_any A c l w h hl hf
  have hWT := fun w h h2 h3 => iWalkTo_any A c l root path w h hl hf hp h2 h3
  unfold WkRes at hWT
  have hCL := fun w h => ClonePc_any A c l w h hcz hl
  unfold OwnRes at hCL
  have HCL := Lib.hid hCL
  unfold PutRes
  clear hs ht hm hCL
  cases hpp : pathP (bs path) with
  | none =>
    have HR := Lib.hid (dropA_bad (s := l) (root := root) (path := bs path) (.inr (.inl hpp)))
    generalize dropA l root (bs path) = R at *
    go_enter Tryz.func49, Tryz.ntmps49
    go_wp2_with fail
    refine (HP.out _ HM.out).mono ?_
    rintro e w1 ⟨pl, PA, pc, hpl, rfl, hple, hps, hb⟩
    rw [hpp]
    have HB := Lib.hid hb
    clear hb hps hpl
    simp only [Option.isSome_none]
    go_wp2
    go_ret3
    rw [HR.out]
    exact ⟨_, rfl, Own.nil, HB.out⟩
  | some ps =>
    cases ps with
    | nil =>
      have HR := Lib.hid (dropA_bad (s := l) (root := root) (path := bs path) (.inr (.inr hpp)))
      generalize dropA l root (bs path) = R at *
      go_enter Tryz.func49, Tryz.ntmps49
      go_wp2_with fail
      refine (HP.out _ HM.out).mono ?_
      rintro e w1 ⟨pl, PA, pc, hpl, rfl, hple, hps, hb⟩
      rw [hpp] at hpl ⊢
      obtain rfl : pl = [] := hpl
      have HB := Lib.hid hb
      clear hb hps
      simp only [Option.isSome_some]
      go_wp2
      go_ret3
      rw [HR.out]
      exact ⟨_, rfl, Own.nil, HB.out⟩
    | cons n r =>
      cases hv : storeV l
      · have HR := Lib.hid (dropA_bad (s := l) (root := root) (path := bs path) (.inl hv))
        rw [hv] at hSV
        have HSV := Lib.hid hSV
        generalize dropA l root (bs path) = R at *
        clear hSV hWT
        go_enter Tryz.func49, Tryz.ntmps49
        go_wp2_with fail
        refine (HP.out _ HM.out).mono ?_
        rintro e w1 ⟨pl, PA, pc, hpl, rfl, hple, hps, hb⟩
        rw [hpp] at hpl ⊢
        have hlen : pl.length ≠ 0 := by rw [hpl]; simp
        have hlz : ((pl.length : Int) == 0) = false := by rw [beq_eq_false_iff_ne]; omega
        have HB := Lib.hid hb
        have HS1 := Lib.hid (HS.out.below hb)
        clear hb hps hpl hlen
        simp only [Option.isSome_some]
        go_wp2_with fail
        refine (HSV.out _ HS1.out).mono ?_
        rintro e w2 ⟨rfl, hb2⟩
        have HB2 := Lib.hid (Below_then HB.out hb2 (Nat.le_refl _))
        clear hb2
        go_wp2
        go_ret3
        rw [HR.out]
        exact ⟨_, rfl, Own.nil, HB2.out⟩
      · rw [hv] at hSV
        have HSV := Lib.hid hSV
        have HV := Lib.hid hv
        have hwt : walkTo l root (bs path) = walkP l root (n :: r) := by
          unfold walkTo; rw [if_pos hv, hpp]; rfl
        rw [hwt] at hWT
        have hps8 := parts_size hpp
        have hp3 : (n :: r).length ≤ 3 := (partsV_iff.1 (pathP_join hpp).1).1
        have hmt := map_tx_mk (n :: r)
        have HPP := Lib.hid hpp
        have HPS8 := Lib.hid hps8
        have HMT := Lib.hid hmt
        clear hSV hwt hps8 hmt
        cases hw : (walkP l root (n :: r)).isSome
        · have HR := Lib.hid (dropA_nowalk hv hpp hw)
          rw [hw] at hWT
          generalize (walkP l root (n :: r)).getD (-1) = wp at *
          have HWT := Lib.hid hWT
          generalize dropA l root (bs path) = R at *
          clear hWT hw hv hpp
          go_enter Tryz.func49, Tryz.ntmps49
          go_wp2_with fail
          refine (HP.out _ HM.out).mono ?_
          rintro e w1 ⟨pl, PA, pc, hpl, rfl, hple, hps, hb⟩
          rw [HPP.out] at hpl ⊢
          have hlen : pl.length ≠ 0 := by rw [hpl]; simp
          have hlz : ((pl.length : Int) == 0) = false := by rw [beq_eq_false_iff_ne]; omega
          have HB := Lib.hid hb
          have HS1 := Lib.hid (HS.out.below hb)
          have HT1 := Lib.hid (HT.out.below hb)
          have HM1 := Lib.hid (HM.out.below hb)
          clear hb hps hpl hlen
          simp only [Option.isSome_some]
          go_wp2_with fail
          refine (HSV.out _ HS1.out).mono ?_
          rintro e w2 ⟨rfl, hb2⟩
          have HB2 := Lib.hid (Below_then HB.out hb2 (Nat.le_refl _))
          have HS2 := Lib.hid (HS1.out.below hb2)
          have HT2 := Lib.hid (HT1.out.below hb2)
          have HM2 := Lib.hid (HM1.out.below hb2)
          clear hb2
          go_wp2_with fail
          refine (HWT.out _ HS2.out HT2.out HM2.out).mono ?_
          rintro e w3 ⟨rfl, hb3⟩
          have HB3 := Lib.hid (Below_then HB2.out hb3 (Nat.le_refl _))
          have HS3 := Lib.hid (HS2.out.below hb3)
          clear hb3
          go_wp2_with fail
          refine (HCL.out _ HS3.out).mono ?_
          rintro e w4 ⟨v4, rfl, hown4, hb4⟩
          have HW4 := Lib.hid (hown4.mono HB3.out.size)
          have HB4 := Lib.hid (Below_then HB3.out hb4 (Nat.le_refl _))
          clear hown4 hb4
          go_wp2
          go_ret3
          rw [HR.out]
          exact ⟨_, rfl, HW4.out, HB4.out⟩
        · have hFD := fun PA pc pl w (e : pl = (n :: r).map mk) h h2 h3 h4 => ifoldersToDrop_any A PA c pc l root pl w h HV.out h2 (by rw [e, List.length_map]; exact hp3) h3 h4
          have HRK := Lib.hid (fun (k : Nat) (L : List En) (hL : lastD (foldsD l root (n :: r)) (n :: r) = (k, L)) => dropA_I hv hpp hw hL)
          have hfl := foldsD_len l (n :: r) root
          have hfv := foldsD_valid (s := l) (n :: r) root
          rw [hw] at hWT
          generalize (walkP l root (n :: r)).getD (-1) = wp at *
          generalize dropA l root (bs path) = R at *
          have HFD := Lib.hid hFD
          have HWT := Lib.hid hWT
          clear hWT hw hv hpp hFD
          go_enter Tryz.func49, Tryz.ntmps49
          go_wp2_with fail
          refine (HP.out _ HM.out).mono ?_
          rintro e w1 ⟨pl, PA, pc, hpl, rfl, hple, hps, hb⟩
          replace hpl : pl = (n :: r).map mk := by rw [hpl, HPP.out]; rfl
          rw [HPP.out]
          have hlen : pl.length ≠ 0 := by rw [hpl]; simp
          have hpl3 : pl.length ≤ 3 := by rw [hpl, List.length_map]; exact hp3
          have hlz : ((pl.length : Int) == 0) = false := by rw [beq_eq_false_iff_ne]; omega
          have hFD := fun w h h2 h3 h4 => HFD.out PA pc pl w hpl h h2 h3 h4
          have HPX := Lib.hid (show pl.map tx = n :: r by rw [hpl]; exact HMT.out)
          have HSZ := Lib.hid (show ∀ x ∈ pl, x.size ≤ 16777216 from fun x hx => by
            rw [hpl] at hx
            exact Nat.le_trans (HPS8.out x hx) (by omega))
          unfold FdRes at hFD
          rw [HPX.out] at hFD
          have hpn : pl.length = (n :: r).length := by rw [← HPX.out, List.length_map]
          rw [← hpn] at hfl
          have HB := Lib.hid hb
          have HS1 := Lib.hid (HS.out.below hb)
          have HT1 := Lib.hid (HT.out.below hb)
          have HM1 := Lib.hid (HM.out.below hb)
          have HPS1 := Lib.hid hps
          clear hb hps hpl hp3 hpn
          generalize foldsD l root (n :: r) = fs at *
          have HFD2 := Lib.hid hFD
          have HFLN := Lib.hid hfl
          have HFV := Lib.hid hfv
          have HLST := Lib.hid (show fs.length = (pl.map tx).length by rw [List.length_map]; exact HFLN.out)
          clear hFD hfl hfv HFD
          simp only [Option.isSome_some]
          go_wp2_with fail
          refine (HSV.out _ HS1.out).mono ?_
          rintro e w2 ⟨rfl, hb2⟩
          have HB2 := Lib.hid (Below_then HB.out hb2 (Nat.le_refl _))
          have HS2 := Lib.hid (HS1.out.below hb2)
          have HT2 := Lib.hid (HT1.out.below hb2)
          have HM2 := Lib.hid (HM1.out.below hb2)
          have HPS2 := Lib.hid (HPS1.out.below hb2)
          clear hb2
          go_wp2_with fail
          refine (HWT.out _ HS2.out HT2.out HM2.out).mono ?_
          rintro e w3 ⟨rfl, hb3⟩
          have HB3 := Lib.hid (Below_then HB2.out hb3 (Nat.le_refl _))
          have HS3 := Lib.hid (HS2.out.below hb3)
          have HT3 := Lib.hid (HT2.out.below hb3)
          have HM3 := Lib.hid (HM2.out.below hb3)
          have HPS3 := Lib.hid (HPS2.out.below hb3)
          clear hb3
          go_wp2_with fail
          refine (HFD2.out _ HS3.out HPS3.out HT3.out HM3.out).mono ?_
          rintro e w4 ⟨v4, rfl, hF4, hb4⟩
          obtain ⟨FA, fc, rfl, hfle, hfcz⟩ := hF4.hd
          have HD4 := Lib.hid (show DaS w A l FA PA fc fs pl w3.heap.size w4 from ⟨Below_then HB3.out hb4 (Nat.le_refl _), HS3.out.below hb4, hF4, HPS3.out.below hb4, HT3.out.below hb4, HM3.out.below hb4⟩)
          clear hF4 hb4 hfcz
          obtain ⟨m, hm⟩ : ∃ m, m + 1 = pl.length := ⟨pl.length - 1, by omega⟩
          have hm3 : m ≤ 2 := by omega
          have hwm : IntKind.i64.wrap ((pl.length : Int) - 1) = (m : Int) := by rw [IntWalk.i64_in _ (by omega)]; omega
          have hwm2 : (pl.length : Int) - 1 = (m : Int) := by omega
          have hmf : m < fs.length := by have := HFLN.out; omega
          have hmp : m < pl.length := by omega
          have hmf' : (m : Int) < (fs.length : Int) := by omega
          have hmp' : (m : Int) < (pl.length : Int) := by omega
          have hdk := DropK.start HLST.out (k := m) (by have := HFLN.out; omega)
          obtain ⟨sb, so, sx, eFA, hcf, hrow⟩ := HD4.out.fd.at hmf
          obtain ⟨nb, no, ePA, hcn⟩ := HD4.out.ps.getS hmp
          subst eFA ePA
          have hnx : (fs.getD m [], (pl.map tx).getD m []) = (fs[m], tx pl[m]) := by
            rw [List.getD_eq_getElem?_getD, List.getElem?_eq_getElem hmf, List.getD_eq_getElem?_getD, List.getElem?_map, List.getElem?_eq_getElem hmp]; rfl
          have hn1 := congrArg Prod.fst hnx
          have hn2 := congrArg Prod.snd hnx
          simp only at hn1 hn2
          have hvx := HFV.out _ (List.getElem_mem hmf)
          have hDE := fun (W : World) (h : Sl W encE 2 sx.1 fs[m]) => iDropEntry_any sx.1 sx.2.2 fs[m] pl[m] W h hrow.cz hvx
          unfold EnRes at hDE
          have HSX := Lib.hid hrow.sl
          have hdv := dropE_valid hvx (tx pl[m])
          rw [hn1, hn2] at hdk
          generalize fs[m] = en at *
          generalize pl[m] = nm at *
          obtain ⟨X, xn, xc⟩ := sx
          simp only at *
          clear hrow hnx hn1 hn2 hvx
          generalize dropE en (tx nm) = DE at *
          obtain ⟨L2, okE⟩ := DE
          simp only at *
          have HDE := Lib.hid hDE
          have HDK := Lib.hid hdk
          have HLV := Lib.hid hdv
          clear hDE hdk hdv
          go_wp2_with fail
          go_region_held3 (fun W => W.cell? ⟨sb, so + m, none⟩ = some (.slice X en.length xc) ∧ W.cell? ⟨nb, no + m, none⟩ = some (.string nm)) (first | exact ⟨hcf, hcn⟩ | exact ⟨Below_cells HY5.out _ _ _ hcf, Below_cells HY5.out _ _ _ hcn⟩ | assumption)
            ((go_at_call 108; refine (HDE.out _ (by first | exact HSX.out | exact HSX.out.drew)).mono ?_; rintro e w5 ⟨v5, rfl, hown5, hb5⟩; have hb5' := (show Below w4.heap.size w4 w5 from (by first | exact hb5 | exact Below_drew hb5)); have HY5 := Lib.hid hb5'; have HO5 := Lib.hid (hown5.mono (show w4.heap.size ≤ _ from Nat.le_refl _)); clear hown5 hb5 hb5'))
          all_goals
            have HD5 := Lib.hid (HD4.out.below HY5.out)
            have HW5 := Lib.hid (HO5.out.mono HD4.out.bel.size)
            go_wp2_with fail
            go_loopw [14, 15] (fun vl vx wr => ∃ (k : Nat) (L : List En), vl = .int .i64 k ∧ Hid (DropK fs (pl.map tx) k L) ∧ Hid (entsV L = true) ∧ Hid (Own wr w.heap.size 131 2 encE vx L) ∧ Hid (DaS w A l (some ⟨sb, so, none⟩) (some ⟨nb, no, none⟩) fc fs pl w3.heap.size wr)) (fun vl _ _ => (intOf vl).toNat)
            case atStart => exact ⟨m, L2, rfl, HDK.out, HLV.out, HW5.out, HD5.out⟩
            case round =>
              obtain ⟨k, L, rfl, HDK, HLV, HOW, HD⟩ := hrel
              obtain ⟨X, xc, rfl, hlex, hsx, _⟩ := HOW.out.sl
              by_cases hL : L = []
              · have hLz : ((L.length : Int) == 0) = true := by rw [hL]; rfl
                by_cases hk0 : k = 0
                · have hstop : L ≠ [] ∨ k = 0 := .inr hk0
                  have hkz : ¬ (0 : Int) < (k : Int) := by omega
                  clear hk0 hL
                  have hst := DropK.stop HLST.out HDK.out hstop
                  have hkf : k < fs.length := HDK.out.1
                  rw [HPX.out] at hst
                  have hR := HRK.out k L hst
                  have hl3 : L.length ≤ 3 := entsV_len HLV.out
                  have htz : (mk (foldT L)).size ≤ 16777216 := by
                    have := textV_size (s := mk (foldT L)) (foldT_textV L); omega
                  have hFT := fun w h h2 => iFolderText_any X xc L w h (by omega) (fitE_valid HLV.out) h2
                  have hPT := fun w h => iPutText_any A c l (mk (foldT L)) w h hcz hl hf htz
                  unfold PutRes at hPT
                  have hok := fun h => putT_ok (l := l) (t := mk (foldT L)) h
                  rw [tx_mk] at hok
                  have HSX := Lib.hid hsx
                  clear hst hstop hsx
                  generalize prOf (foldT L) = pr at *
                  generalize mk (foldT L) = tt at *
                  generalize hpt : putT l tt = PT at *
                  obtain ⟨l3, p3, ok3⟩ := PT
                  simp only at *
                  have HFT := Lib.hid hFT
                  have HPT := Lib.hid hPT
                  clear hFT hPT hpt htz
                  cases ok3
                  · have HR := Lib.hid (show R = (l, root, false) from hR)
                    clear hR hok
                    go_wp2_with fail
                    refine (HFT.out _ HSX.out HD.out.tz).mono ?_
                    rintro e w6 ⟨rfl, hb6⟩
                    have HD6 := Lib.hid (HD.out.below hb6)
                    clear hb6
                    go_wp2_with fail
                    refine (HPT.out _ HD6.out.sl).mono ?_
                    rintro e w7 ⟨v7, rfl, hown7, hb7⟩
                    have HD7 := Lib.hid (HD6.out.below hb7)
                    clear hown7 hb7
                    go_wp2_with fail
                    refine (HCL.out _ HD7.out.sl).mono ?_
                    rintro e w8 ⟨v8, rfl, hown8, hb8⟩
                    have HW8 := Lib.hid (hown8.mono HD7.out.bel.size)
                    have HB8 := Lib.hid (Below_then HD7.out.bel hb8 (Nat.le_refl _))
                    clear hown8 hb8
                    go_wp2
                    go_ret3
                    rw [HR.out]
                    exact ⟨_, rfl, HW8.out, HB8.out⟩
                  · obtain ⟨_, hpo, rfl⟩ := hok rfl
                    have hlk : (pl.take k).length = k := by rw [List.length_take]; have := HFLN.out; omega
                    have hmk : (pl.take k).map tx = (n :: r).take k := by rw [List.map_take, HPX.out]
                    have hlk2 : (fs.take k).length = (pl.take k).length := by rw [hlk, List.length_take]; omega
                    have hPF := fun v fb W h h2 h3 h4 h5 h6 => iputFolders_any w.heap.size v (.slice (some ⟨sb, so, none⟩) k fc) (some ⟨nb, no, none⟩) pc l3 p3 (fs.take k) (pl.take k) fb W h h2 hpo.valid h3 h4 hlk2 (by rw [hlk]; have := HFLN.out; omega) (fun x hx => HSZ.out x (List.mem_of_mem_take hx)) h5 h6
                    rw [hmk, hlk] at hPF
                    unfold PfRes at hPF
                    have hR : R = match putF l3 (fs.take k) ((n :: r).take k) p3 with | some x => (x.1, x.2, true) | none => (l, root, false) := hR
                    generalize putF l3 (fs.take k) ((n :: r).take k) p3 = PF at *
                    have HRS := Lib.hid hR
                    have HPF := Lib.hid (fun v W h h2 h3 h4 h5 h6 => hPF v w3.heap.size W h h2 h3 h4 h5 h6)
                    have hkc : k ≤ fc := by omega
                    have hkp : k ≤ pl.length := by have := HFLN.out; omega
                    have hkpc : k ≤ pc := by omega
                    have hkI : (k : Int) ≤ (fs.length : Int) := by omega
                    have hkI2 : (k : Int) ≤ (pl.length : Int) := by omega
                    have hpl0 : 0 < pl.length := by omega
                    have hfs0 : 0 < fs.length := by omega
                    clear hPF hpo hR hlk hmk hlk2
                    go_wp2_with fail
                    refine (HFT.out _ HSX.out HD.out.tz).mono ?_
                    rintro e w6 ⟨rfl, hb6⟩
                    have HD6 := Lib.hid (HD.out.below hb6)
                    clear hb6
                    go_wp2_with fail
                    refine (HPT.out _ HD6.out.sl).mono ?_
                    rintro e w7 ⟨v7, rfl, hown7, hb7⟩
                    have HD7 := Lib.hid (HD6.out.below hb7)
                    have HW7 := Lib.hid (hown7.mono HD6.out.bel.size)
                    have HF7 := Lib.hid (HD7.out.fd.takeF (show k ≤ fs.length by omega) hfs0)
                    have HP7 := Lib.hid (HD7.out.ps.take k)
                    obtain ⟨X7, c7, e7, _⟩ := hown7.sl
                    subst e7
                    obtain ⟨nb', no', ePA, hcn0⟩ := HD7.out.ps.getS hpl0
                    injection ePA with ePA; injection ePA with e1 e2
                    subst e1 e2
                    generalize pl[0] = nm0 at *
                    clear hown7 hb7
                    go_wp2_with fail
                    go_region_held3 (fun W => W.cell? ⟨nb, no + 0, none⟩ = some (.string nm0)) (first | exact hcn0 | exact Below_cells HY8.out _ _ _ hcn0 | assumption)
                      ((go_at_call 105; refine (HPF.out (.slice X7 l3.length c7) _ (by first | exact HW7.out | exact HW7.out.drew) (by first | exact HD7.out.bel.size | (show w.heap.size ≤ _; exact HD7.out.bel.size)) (by first | exact HF7.out | exact HF7.out.drewN 1) (by first | exact HP7.out | exact HP7.out.drew) (by first | exact HD7.out.tz | exact HD7.out.tz.drew) (by first | exact HD7.out.mx | exact HD7.out.mx.drew)).mono ?_; rintro e w8 ⟨v8, rfl, hown8, hb8⟩; have hb8' := (show Below w7.heap.size w7 w8 from (by first | exact hb8 | exact Below_drew hb8)); have HY8 := Lib.hid hb8'; have HW8 := Lib.hid hown8; clear hown8 hb8 hb8'))
                    all_goals
                      have HD8 := Lib.hid (HD7.out.below HY8.out)
                      cases PF with
                      | none =>
                        have HR := Lib.hid (show R = (l, root, false) from HRS.out)
                        clear HRS HW8
                        simp only [Option.isSome_none, Option.map_none, Option.getD_none]
                        go_wp2_with fail
                        refine (HCL.out _ HD8.out.sl).mono ?_
                        rintro e w9 ⟨v9, rfl, hown9, hb9⟩
                        have HW9 := Lib.hid (hown9.mono HD8.out.bel.size)
                        have HB9 := Lib.hid (Below_then HD8.out.bel hb9 (Nat.le_refl _))
                        clear hown9 hb9
                        go_wp2
                        go_ret3
                        rw [HR.out]
                        exact ⟨_, rfl, HW9.out, HB9.out⟩
                      | some x =>
                        obtain ⟨lx, px⟩ := x
                        have HR := Lib.hid (show R = (lx, px, true) from HRS.out)
                        have HX8 := Lib.hid (show Own w8 w.heap.size 107 2 encP v8 lx from HW8.out)
                        clear HRS HW8
                        simp only [Option.isSome_some, Option.map_some, Option.getD_some]
                        go_wp2
                        go_ret3
                        rw [HR.out]
                        exact ⟨_, rfl, HX8.out, HD8.out.bel⟩
                · obtain ⟨j, hkj⟩ : ∃ j, k = j + 1 := ⟨k - 1, by omega⟩
                  have hkf : k < fs.length := HDK.out.1
                  have hf3 : fs.length ≤ 3 := by have := HFLN.out; omega
                  have hj1 : (0 : Int) < (k : Int) := by omega
                  have hwj : IntKind.i64.wrap ((k : Int) - 1) = (j : Int) := by rw [IntWalk.i64_in _ (by omega)]; omega
                  have hjf : j < fs.length := by omega
                  have hjp : j < pl.length := by have := HFLN.out; omega
                  have hjf' : (j : Int) < (fs.length : Int) := by omega
                  have hjp' : (j : Int) < (pl.length : Int) := by omega
                  have hdk := DropK.next HLST.out (k := j) (by rw [← hkj, ← hL]; exact HDK.out)
                  have HKJ := Lib.hid hkj
                  clear hkj hL hk0
                  obtain ⟨sb', so', sx, eFA, hcf, hrow⟩ := HD.out.fd.at hjf
                  obtain ⟨nb', no', ePA, hcn⟩ := HD.out.ps.getS hjp
                  injection eFA with eFA; injection eFA with e1 e2
                  subst e1 e2
                  injection ePA with ePA; injection ePA with e1 e2
                  subst e1 e2
                  have hnx : (fs.getD j [], (pl.map tx).getD j []) = (fs[j], tx pl[j]) := by
                    rw [List.getD_eq_getElem?_getD, List.getElem?_eq_getElem hjf, List.getD_eq_getElem?_getD, List.getElem?_map, List.getElem?_eq_getElem hjp]; rfl
                  have hn1 := congrArg Prod.fst hnx
                  have hn2 := congrArg Prod.snd hnx
                  simp only at hn1 hn2
                  have hvx := HFV.out _ (List.getElem_mem hjf)
                  have hDE := fun (W : World) (h : Sl W encE 2 sx.1 fs[j]) => iDropEntry_any sx.1 sx.2.2 fs[j] pl[j] W h hrow.cz hvx
                  unfold EnRes at hDE
                  have HSX := Lib.hid hrow.sl
                  have hdv := dropE_valid hvx (tx pl[j])
                  rw [hn1, hn2] at hdk
                  generalize fs[j] = en2 at *
                  generalize pl[j] = nm2 at *
                  obtain ⟨Y, yn, yc⟩ := sx
                  simp only at *
                  clear hrow hnx hn1 hn2 hvx
                  generalize dropE en2 (tx nm2) = DE at *
                  obtain ⟨L3, okE3⟩ := DE
                  simp only at *
                  have HDE := Lib.hid hDE
                  have HDK2 := Lib.hid hdk
                  have HLV2 := Lib.hid hdv
                  clear hDE hdk hdv
                  go_wp2_with fail
                  go_region_held3 (fun W => W.cell? ⟨sb, so + j, none⟩ = some (.slice Y en2.length yc) ∧ W.cell? ⟨nb, no + j, none⟩ = some (.string nm2)) (first | exact ⟨hcf, hcn⟩ | exact ⟨Below_cells HY6.out _ _ _ hcf, Below_cells HY6.out _ _ _ hcn⟩ | assumption)
                    ((go_at_call 108; refine (HDE.out _ (by first | exact HSX.out | exact HSX.out.drew)).mono ?_; rintro e w6 ⟨v6, rfl, hown6, hb6⟩; have hb6' := (show Below wr.heap.size wr w6 from (by first | exact hb6 | exact Below_drew hb6)); have HY6 := Lib.hid hb6'; have HO6 := Lib.hid (hown6.mono (show wr.heap.size ≤ _ from Nat.le_refl _)); clear hown6 hb6 hb6'))
                  all_goals
                    have HD6 := Lib.hid (HD.out.below HY6.out)
                    have HW6 := Lib.hid (HO6.out.mono HD.out.bel.size)
                    go_wp2
                    go_roundw
                    case rel => exact ⟨j, L3, by go_num, HDK2.out, HLV2.out, HW6.out, HD6.out⟩
                    case measure => have := HKJ.out; first | (simp [intOf]; done) | (simp [intOf]; omega)
              · have hstop : L ≠ [] ∨ k = 0 := .inl hL
                have hLz : ((L.length : Int) == 0) = false := by
                  rw [beq_eq_false_iff_ne]
                  intro e
                  exact hL (List.eq_nil_of_length_eq_zero (by omega))
                clear hL
                have hst := DropK.stop HLST.out HDK.out hstop
                have hkf : k < fs.length := HDK.out.1
                rw [HPX.out] at hst
                have hR := HRK.out k L hst
                have hl3 : L.length ≤ 3 := entsV_len HLV.out
                have htz : (mk (foldT L)).size ≤ 16777216 := by
                  have := textV_size (s := mk (foldT L)) (foldT_textV L); omega
                have hFT := fun w h h2 => iFolderText_any X xc L w h (by omega) (fitE_valid HLV.out) h2
                have hPT := fun w h => iPutText_any A c l (mk (foldT L)) w h hcz hl hf htz
                unfold PutRes at hPT
                have hok := fun h => putT_ok (l := l) (t := mk (foldT L)) h
                rw [tx_mk] at hok
                have HSX := Lib.hid hsx
                clear hst hstop hsx
                generalize prOf (foldT L) = pr at *
                generalize mk (foldT L) = tt at *
                generalize hpt : putT l tt = PT at *
                obtain ⟨l3, p3, ok3⟩ := PT
                simp only at *
                have HFT := Lib.hid hFT
                have HPT := Lib.hid hPT
                clear hFT hPT hpt htz
                cases ok3
                · have HR := Lib.hid (show R = (l, root, false) from hR)
                  clear hR hok
                  go_wp2_with fail
                  refine (HFT.out _ HSX.out HD.out.tz).mono ?_
                  rintro e w6 ⟨rfl, hb6⟩
                  have HD6 := Lib.hid (HD.out.below hb6)
                  clear hb6
                  go_wp2_with fail
                  refine (HPT.out _ HD6.out.sl).mono ?_
                  rintro e w7 ⟨v7, rfl, hown7, hb7⟩
                  have HD7 := Lib.hid (HD6.out.below hb7)
                  clear hown7 hb7
                  go_wp2_with fail
                  refine (HCL.out _ HD7.out.sl).mono ?_
                  rintro e w8 ⟨v8, rfl, hown8, hb8⟩
                  have HW8 := Lib.hid (hown8.mono HD7.out.bel.size)
                  have HB8 := Lib.hid (Below_then HD7.out.bel hb8 (Nat.le_refl _))
                  clear hown8 hb8
                  go_wp2
                  go_ret3
                  rw [HR.out]
                  exact ⟨_, rfl, HW8.out, HB8.out⟩
                · obtain ⟨_, hpo, rfl⟩ := hok rfl
                  have hlk : (pl.take k).length = k := by rw [List.length_take]; have := HFLN.out; omega
                  have hmk : (pl.take k).map tx = (n :: r).take k := by rw [List.map_take, HPX.out]
                  have hlk2 : (fs.take k).length = (pl.take k).length := by rw [hlk, List.length_take]; omega
                  have hPF := fun v fb W h h2 h3 h4 h5 h6 => iputFolders_any w.heap.size v (.slice (some ⟨sb, so, none⟩) k fc) (some ⟨nb, no, none⟩) pc l3 p3 (fs.take k) (pl.take k) fb W h h2 hpo.valid h3 h4 hlk2 (by rw [hlk]; have := HFLN.out; omega) (fun x hx => HSZ.out x (List.mem_of_mem_take hx)) h5 h6
                  rw [hmk, hlk] at hPF
                  unfold PfRes at hPF
                  have hR : R = match putF l3 (fs.take k) ((n :: r).take k) p3 with | some x => (x.1, x.2, true) | none => (l, root, false) := hR
                  generalize putF l3 (fs.take k) ((n :: r).take k) p3 = PF at *
                  have HRS := Lib.hid hR
                  have HPF := Lib.hid (fun v W h h2 h3 h4 h5 h6 => hPF v w3.heap.size W h h2 h3 h4 h5 h6)
                  have hkc : k ≤ fc := by omega
                  have hkp : k ≤ pl.length := by have := HFLN.out; omega
                  have hkpc : k ≤ pc := by omega
                  have hkI : (k : Int) ≤ (fs.length : Int) := by omega
                  have hkI2 : (k : Int) ≤ (pl.length : Int) := by omega
                  have hpl0 : 0 < pl.length := by omega
                  have hfs0 : 0 < fs.length := by omega
                  clear hPF hpo hR hlk hmk hlk2
                  go_wp2_with fail
                  refine (HFT.out _ HSX.out HD.out.tz).mono ?_
                  rintro e w6 ⟨rfl, hb6⟩
                  have HD6 := Lib.hid (HD.out.below hb6)
                  clear hb6
                  go_wp2_with fail
                  refine (HPT.out _ HD6.out.sl).mono ?_
                  rintro e w7 ⟨v7, rfl, hown7, hb7⟩
                  have HD7 := Lib.hid (HD6.out.below hb7)
                  have HW7 := Lib.hid (hown7.mono HD6.out.bel.size)
                  have HF7 := Lib.hid (HD7.out.fd.takeF (show k ≤ fs.length by omega) hfs0)
                  have HP7 := Lib.hid (HD7.out.ps.take k)
                  obtain ⟨X7, c7, e7, _⟩ := hown7.sl
                  subst e7
                  obtain ⟨nb', no', ePA, hcn0⟩ := HD7.out.ps.getS hpl0
                  injection ePA with ePA; injection ePA with e1 e2
                  subst e1 e2
                  generalize pl[0] = nm0 at *
                  clear hown7 hb7
                  go_wp2_with fail
                  go_region_held3 (fun W => W.cell? ⟨nb, no + 0, none⟩ = some (.string nm0)) (first | exact hcn0 | exact Below_cells HY8.out _ _ _ hcn0 | assumption)
                    ((go_at_call 105; refine (HPF.out (.slice X7 l3.length c7) _ (by first | exact HW7.out | exact HW7.out.drew) (by first | exact HD7.out.bel.size | (show w.heap.size ≤ _; exact HD7.out.bel.size)) (by first | exact HF7.out | exact HF7.out.drewN 1) (by first | exact HP7.out | exact HP7.out.drew) (by first | exact HD7.out.tz | exact HD7.out.tz.drew) (by first | exact HD7.out.mx | exact HD7.out.mx.drew)).mono ?_; rintro e w8 ⟨v8, rfl, hown8, hb8⟩; have hb8' := (show Below w7.heap.size w7 w8 from (by first | exact hb8 | exact Below_drew hb8)); have HY8 := Lib.hid hb8'; have HW8 := Lib.hid hown8; clear hown8 hb8 hb8'))
                  all_goals
                    have HD8 := Lib.hid (HD7.out.below HY8.out)
                    cases PF with
                    | none =>
                      have HR := Lib.hid (show R = (l, root, false) from HRS.out)
                      clear HRS HW8
                      simp only [Option.isSome_none, Option.map_none, Option.getD_none]
                      go_wp2_with fail
                      refine (HCL.out _ HD8.out.sl).mono ?_
                      rintro e w9 ⟨v9, rfl, hown9, hb9⟩
                      have HW9 := Lib.hid (hown9.mono HD8.out.bel.size)
                      have HB9 := Lib.hid (Below_then HD8.out.bel hb9 (Nat.le_refl _))
                      clear hown9 hb9
                      go_wp2
                      go_ret3
                      rw [HR.out]
                      exact ⟨_, rfl, HW9.out, HB9.out⟩
                    | some x =>
                      obtain ⟨lx, px⟩ := x
                      have HR := Lib.hid (show R = (lx, px, true) from HRS.out)
                      have HX8 := Lib.hid (show Own w8 w.heap.size 107 2 encP v8 lx from HW8.out)
                      clear HRS HW8
                      simp only [Option.isSome_some, Option.map_some, Option.getD_some]
                      go_wp2
                      go_ret3
                      rw [HR.out]
                      exact ⟨_, rfl, HX8.out, HD8.out.bel⟩
end Go.Proofs.YtkglfmgmmnfmbaaGreatDoor
