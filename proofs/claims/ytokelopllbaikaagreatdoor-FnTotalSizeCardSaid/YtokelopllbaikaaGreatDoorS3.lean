/- WriteAt and DropAt of the reference, walked. Written by gen_wr.py. -/
import Derived.Test.YtokelopllbaikaaGreatDoorS1
import Derived.Test.YtokelopllbaikaaGreatDoorGb9
set_option linter.unusedVariables false
namespace Go.Proofs.YtokelopllbaikaaGreatDoor
open Go.RowKit
set_option maxHeartbeats 1000000 in
set_option maxRecDepth 100000 in
theorem sFileText_any (s : ByteArray) (w : World) (hs : s.size ≤ 16777216) : Calls Tryz.prog 125 #[.string s] w fun e w' => e = .returned (.string (mk (fileT (bs s)))) ∧ w = w' := by
  have hCV := fun w => sContentValid_any s w hs
  cases hc : contV (bs s)
  · have HE := Lib.hid (show mk (fileT (bs s)) = ⟨#[]⟩ by unfold fileT; rw [hc]; rfl)
    rw [hc] at hCV
    have HCV := Lib.hid hCV
    clear hCV hc
    go_enter Tryz.func125, Tryz.ntmps125
    go_wp2_with (go_at_call 65; refine (HCV.out _).mono ?_; rintro e w' ⟨rfl, rfl⟩)
    go_ret
    rw [HE.out]; exact ⟨rfl, rfl⟩
  · have HE := Lib.hid (show mk (fileT (bs s)) = ⟨#[102]⟩ ++ s by rw [fileT_ok hc, show (102 :: bs s) = [102] ++ bs s from rfl, ← mk_append]; exact congrArg (mk [102] ++ ·) (mk_tx s))
    have hz : s.size ≤ 40 := by
      have := hc
      unfold contV at this
      rw [Bool.and_eq_true, decide_eq_true_eq, size_bs] at this; exact this.2
    have hq := str_add (x := ⟨#[102]⟩) (y := s) (by decide) (by omega)
    rw [hc] at hCV
    have HCV := Lib.hid hCV
    clear hCV hc
    go_enter Tryz.func125, Tryz.ntmps125
    go_wp2_with (go_at_call 65; refine (HCV.out _).mono ?_; rintro e w' ⟨rfl, rfl⟩)
    go_ret
    rw [HE.out]; exact ⟨rfl, rfl⟩
theorem sl10_all (A : Option Addr) (c : Nat) (l : List Pc) (hcz : A = none → c = 0) (hle : l.length ≤ c) (hv : storeV l = true) (leaf : Int) : ∀ (n : Nat) (pl : List ByteArray), pl.length ≤ n → ∀ (a : Option Int) (PA : Option Addr) (pc : Nat) (w : World), L10 A c l leaf a PA pc pl w
  | n, [], hn, a, PA, pc, w => sl10_nil A c l hcz hle leaf a PA pc w
  | 0, x :: r, hn, a, PA, pc, w => by simp at hn
  | n + 1, x :: r, hn, a, PA, pc, w => sl10_step A c l hcz hle hv leaf (x :: r) (by simp) (fun a2 PA2 pc2 w2 => sl10_all A c l hcz hle hv leaf n ((x :: r).drop 1) (by simpa using hn) a2 PA2 pc2 w2) a PA pc w
theorem writeA_bad {s : List Pc} {root : Int} {path c : Bs} (h : storeV s = false ∨ contV c = false ∨ pathP path = none ∨ pathP path = some []) : writeA s root path c = ([], -1, false) := by
  unfold writeA
  rcases h with h | h | h | h
  · rw [h]; rfl
  · rw [h, Bool.and_false]; rfl
  · rw [h]; split <;> rename_i h2 <;> first | rfl | (split at h2 <;> cases h2)
  · rw [h]; split <;> rename_i h2 <;> first | rfl | (split at h2 <;> cases h2)
theorem writeA_good {s : List Pc} {root : Int} {path c n : Bs} {r : List Bs} (hs : storeV s = true) (hc : contV c = true) (hp : pathP path = some (n :: r)) :
    writeA s root path c = match (setP s (some root) (n :: r) (prOf (fileT c))).bind (fun x => if (putT x.1 (mk (fileT c))).2.2 then some ((putT x.1 (mk (fileT c))).1, x.2) else none) with | some x => (x.1, x.2, true) | none => (s, root, false) := by
  unfold writeA
  rw [hs, hc, Bool.true_and, if_pos rfl, hp]
  show (match writeP s root (n :: r) c with | some x => (x.1, x.2, true) | none => (s, root, false)) = _
  rw [writeP_set hs]
theorem dropA_bad {s : List Pc} {root : Int} {path : Bs} (h : storeV s = false ∨ pathP path = none ∨ pathP path = some []) : dropA s root path = ([], -1, false) := by
  unfold dropA
  rcases h with h | h | h
  · rw [h]; rfl
  · rw [h]; split <;> rename_i h2 <;> first | rfl | (split at h2 <;> cases h2)
  · rw [h]; split <;> rename_i h2 <;> first | rfl | (split at h2 <;> cases h2)
theorem dropA_nowalk {s : List Pc} {root : Int} {path n : Bs} {r : List Bs} (hs : storeV s = true) (hp : pathP path = some (n :: r)) (hw : (walkP s root (n :: r)).isSome = false) : dropA s root path = (s, root, false) := by
  unfold dropA dropP
  rw [hs, if_pos rfl, hp]
  simp only
  rw [if_neg (by rw [hw]; simp)]
theorem dropA_good {s : List Pc} {root : Int} {path n : Bs} {r : List Bs} (hs : storeV s = true) (hp : pathP path = some (n :: r)) (hw : (walkP s root (n :: r)).isSome = true) :
    dropA s root path = match (dropS s (foldsD s root (n :: r)) (n :: r)).bind (fun x => if x.2 < 0 then (if (putT x.1 (mk (foldT []))).2.2 then some ((putT x.1 (mk (foldT []))).1, prOf (foldT [])) else none) else some x) with | some x => (x.1, x.2, true) | none => (s, root, false) := by
  unfold dropA
  rw [hs, if_pos rfl, hp]
  show (match dropP s root (n :: r) with | some x => (x.1, x.2, true) | none => (s, root, false)) = _
  rw [dropP_S hw]
theorem map_tx_mk (ps : List Bs) : (ps.map mk).map tx = ps := by rw [List.map_map]; exact (List.map_congr_left fun x _ => rfl).trans (List.map_id _)
theorem wordB_size {p : Bs} (h : wordV p = true) : p.length ≤ 8 := by
  unfold wordV at h
  rw [Bool.and_eq_true, Bool.and_eq_true, decide_eq_true_eq] at h; omega
theorem parts_size {s : Bs} {ps : List Bs} (h : pathP s = some ps) : ∀ x ∈ ps.map mk, x.size ≤ 8 := fun x hx => by
  obtain ⟨y, hy, rfl⟩ := List.mem_map.1 hx
  rw [mk_size]; exact wordB_size ((partsV_iff.1 (pathP_join h).1).2 y hy)
set_option maxHeartbeats 2000000 in
set_option maxRecDepth 100000 in
theorem sWriteAt_any (A : Option Addr) (c : Nat) (l : List Pc) (root : Int) (path content : ByteArray) (w : World) (hs : Sl w encP 2 A l) (hcz : A = none → c = 0) (hle : l.length ≤ c) (hl : l.length ≤ 16777216) (hf : FitP l) (hp : path.size ≤ 1048576) (hct : content.size ≤ 1048576) :
    Calls Tryz.prog 107 #[.slice A l.length c, .int .i64 root, .string path, .string content] w (PutRes (writeA l root (bs path) (bs content)) w) := by
  have HS := Lib.hid hs
  have HC := Lib.hid hcz
  have HP := Lib.hid (fun w => sPathParts_any path w hp)
  have hSV := fun w h => sStoreValid_any A c l w h hl hf
  have hCV := fun w => sContentValid_any content w (by omega)
  unfold PathR at HP
  unfold PutRes
  clear hs
  cases hv : storeV l
  · have HR := Lib.hid (writeA_bad (root := root) (path := bs path) (c := bs content) (.inl hv))
    rw [hv] at hSV
    have HSV := Lib.hid hSV
    clear hSV hv
    generalize pathP (bs path) = PP at *
    generalize writeA l root (bs path) (bs content) = R at *
    generalize hpl : (PP.getD []).map mk = pl at *
    clear hpl
    generalize PP.isSome = ok at *
    go_enter Tryz.func107, Tryz.ntmps107
    go_wp2_with fail
    refine (HP.out _).mono ?_
    rintro e w1 ⟨v1, rfl, hown, hb⟩
    obtain ⟨PA, pc, rfl, hple, hps, _⟩ := hown.sl
    have HB := Lib.hid hb
    have HPS := Lib.hid hps
    have HS1 := Lib.hid (HS.out.below hb)
    clear hb hown hps
    go_wp2_with fail
    refine (HSV.out _ HS1.out).mono ?_
    rintro e w2 ⟨rfl, hb⟩
    replace HB := Lib.hid (Below_then HB.out hb (Nat.le_refl _))
    replace HPS := Lib.hid (HPS.out.below hb)
    have HS2 := Lib.hid (HS1.out.below hb)
    clear hb
    go_wp2
    go_ret3
    rw [HR.out]
    exact ⟨_, rfl, Own.made HB.out.size, HB.out.alloc HB.out.size _⟩
  · rw [hv] at hSV
    have HSV := Lib.hid hSV
    clear hSV
    cases hpp : pathP (bs path) with
    | none =>
      have HR := Lib.hid (writeA_bad (s := l) (root := root) (path := bs path) (c := bs content) (.inr (.inr (.inl hpp))))
      generalize writeA l root (bs path) (bs content) = R at *
      rw [hpp] at HP
      clear hpp hv
      go_enter Tryz.func107, Tryz.ntmps107
      go_wp2_with fail
      refine (HP.out _).mono ?_
      rintro e w1 ⟨v1, rfl, hown, hb⟩
      obtain ⟨PA, pc, rfl, hple, hps, _⟩ := hown.sl
      have HB := Lib.hid hb
      have HPS := Lib.hid hps
      have HS1 := Lib.hid (HS.out.below hb)
      clear hb hown hps
      simp only [Option.isSome_none]
      go_wp2_with fail
      refine (HSV.out _ HS1.out).mono ?_
      rintro e w2 ⟨rfl, hb⟩
      replace HB := Lib.hid (Below_then HB.out hb (Nat.le_refl _))
      replace HPS := Lib.hid (HPS.out.below hb)
      have HS2 := Lib.hid (HS1.out.below hb)
      clear hb
      go_wp2
      go_ret3
      rw [HR.out]
      exact ⟨_, rfl, Own.made HB.out.size, HB.out.alloc HB.out.size _⟩
    | some ps =>
      cases ps with
      | nil =>
        have HR := Lib.hid (writeA_bad (s := l) (root := root) (path := bs path) (c := bs content) (.inr (.inr (.inr hpp))))
        generalize writeA l root (bs path) (bs content) = R at *
        rw [hpp, Option.getD_some, List.map_nil, Option.isSome_some] at HP
        clear hpp hv
        go_enter Tryz.func107, Tryz.ntmps107
        go_wp2_with fail
        refine (HP.out _).mono ?_
        rintro e w1 ⟨v1, rfl, hown, hb⟩
        obtain ⟨PA, pc, rfl, hple, hps, _⟩ := hown.sl
        have HB := Lib.hid hb
        have HPS := Lib.hid hps
        have HS1 := Lib.hid (HS.out.below hb)
        clear hb hown hps
        simp only [List.length_nil]
        go_wp2_with fail
        refine (HSV.out _ HS1.out).mono ?_
        rintro e w2 ⟨rfl, hb⟩
        replace HB := Lib.hid (Below_then HB.out hb (Nat.le_refl _))
        replace HPS := Lib.hid (HPS.out.below hb)
        have HS2 := Lib.hid (HS1.out.below hb)
        clear hb
        go_wp2
        go_ret3
        rw [HR.out]
        exact ⟨_, rfl, Own.made HB.out.size, HB.out.alloc HB.out.size _⟩
      | cons n r =>
        cases hcv : contV (bs content)
        · have HR := Lib.hid (writeA_bad (s := l) (root := root) (path := bs path) (c := bs content) (.inr (.inl hcv)))
          generalize writeA l root (bs path) (bs content) = R at *
          rw [hcv] at hCV
          have HCV := Lib.hid hCV
          rw [hpp, Option.getD_some, Option.isSome_some] at HP
          have hpz : 0 < ((n :: r).map mk).length := by simp
          generalize (n :: r).map mk = pl at *
          have hpz' : ((pl.length : Int) == 0) = false := by rw [beq_eq_false_iff_ne]; omega
          clear hpp hv hcv hCV
          go_enter Tryz.func107, Tryz.ntmps107
          go_wp2_with fail
          refine (HP.out _).mono ?_
          rintro e w1 ⟨v1, rfl, hown, hb⟩
          obtain ⟨PA, pc, rfl, hple, hps, _⟩ := hown.sl
          have HB := Lib.hid hb
          have HPS := Lib.hid hps
          have HS1 := Lib.hid (HS.out.below hb)
          clear hb hown hps
          go_wp2_with fail
          refine (HSV.out _ HS1.out).mono ?_
          rintro e w2 ⟨rfl, hb⟩
          replace HB := Lib.hid (Below_then HB.out hb (Nat.le_refl _))
          replace HPS := Lib.hid (HPS.out.below hb)
          have HS2 := Lib.hid (HS1.out.below hb)
          clear hb
          go_wp2_with (go_at_call 65; refine (HCV.out _).mono ?_; rintro e w' ⟨rfl, rfl⟩)
          go_ret3
          rw [HR.out]
          exact ⟨_, rfl, Own.made HB.out.size, HB.out.alloc HB.out.size _⟩
        · have hgood := writeA_good (root := root) hv hcv hpp
          have hl40 := storeV_len hv
          have HFL := Lib.hid (fun w => sFileText_any content w (by omega))
          have hfz : (fileT (bs content)).length ≤ 60 := by have := fileT_text hcv; unfold textV at this; rw [Bool.and_eq_true, decide_eq_true_eq] at this; exact this.1
          have hfz2 : (mk (fileT (bs content))).size ≤ 60 := by rw [mk_size]; exact hfz
          have hPR := fun w => sPrintOf_any (mk (fileT (bs content))) w (by rw [mk_size]; omega)
          rw [show bs (mk (fileT (bs content))) = fileT (bs content) from rfl] at hPR
          have hSZ := parts_size hpp
          have hL10 := fun PA pc w (h0 : 0 ≤ root) h1 h2 h3 => sl10_all A c l hcz hle hv (prOf (fileT (bs content))) _ ((n :: r).map mk) (Nat.le_refl _) (some root) PA pc w (fun q h => by injection h with h; omega) h1 h2 h3 hSZ
          rw [map_tx_mk] at hL10
          have HS0 := Lib.hid (fun x h => @setP_valid l (some root) (n :: r) (prOf (fileT (bs content))) x hv h)
          have HNR := Lib.hid (show getT l root = none → setP l (some root) (n :: r) (prOf (fileT (bs content))) = none from fun h => by
            rw [setP_cons, show listAt l (some root) = none from by show folderOf l root = none; unfold folderOf; rw [h]; rfl]; rfl)
          have HRT := Lib.hid (fun (t : ByteArray) (h : getT l root = some t) => (getT_valid hv (p := root) h).2.2)
          rw [hcv] at hCV
          have HCV := Lib.hid hCV
          rw [hpp, Option.getD_some, Option.isSome_some] at HP
          have hpz : 0 < ((n :: r).map mk).length := by simp
          generalize writeA l root (bs path) (bs content) = R at *
          generalize (n :: r).map mk = pl at *
          have hpz' : ((pl.length : Int) == 0) = false := by rw [beq_eq_false_iff_ne]; omega
          have hG := fun w h => sl4Get_any A c l root w h hl
          generalize mk (fileT (bs content)) = FT at *
          generalize prOf (fileT (bs content)) = leaf at *
          have HFP := Lib.hid (fun B d xs w h1 h2 h3 h4 h5 => sPutText_any B d xs FT w h1 h2 h3 h4 h5 (by omega))
          generalize setP l (some root) (n :: r) leaf = S at *
          have HGOOD := Lib.hid hgood
          have HPR := Lib.hid hPR
          have HL10 := Lib.hid hL10
          clear hpp hv hcv hCV hgood hPR hL10 hSZ hfz
          go_enter Tryz.func107, Tryz.ntmps107
          go_wp2_with fail
          refine (HP.out _).mono ?_
          rintro e w1 ⟨v1, rfl, hown, hb⟩
          obtain ⟨PA, pc, rfl, hple, hps, _⟩ := hown.sl
          have HB := Lib.hid hb
          have HPS := Lib.hid hps
          have HS1 := Lib.hid (HS.out.below hb)
          clear hb hown hps
          go_wp2_with fail
          refine (HSV.out _ HS1.out).mono ?_
          rintro e w2 ⟨rfl, hb⟩
          replace HB := Lib.hid (Below_then HB.out hb (Nat.le_refl _))
          replace HPS := Lib.hid (HPS.out.below hb)
          have HS2 := Lib.hid (HS1.out.below hb)
          clear hb
          have HCV2 := HCV
          cases hgt : getT l root with
          | none =>
            have HRN := Lib.hid (show R = (l, root, false) by rw [HGOOD.out, HNR.out hgt]; rfl)
            rw [hgt] at hG
            have HG := Lib.hid hG
            clear hG HGOOD
            go_wp2_with (first | (go_at_call 65; refine (HCV.out _).mono ?_; rintro e w' ⟨rfl, rfl⟩) | (at_builtin; refine app_pcN (w0 := w2) (l := []) rfl rfl (Own.made (Nat.le_refl _)) ((Below.refl _ _).alloc (Nat.le_refl _) _) (by simp; omega) (HS2.out.alloc _) HC.out (by rfl) (by rfl) ?_; intro v3 w3 hown3 hb3 hg3; rw [List.nil_append] at hown3; have HW3 := Lib.hid (hown3.mono HB.out.size); have HB3 := Lib.hid (Below_then HB.out hb3 (Nat.le_refl _)); have HS3 := Lib.hid (HS2.out.below hb3); have HPS3 := Lib.hid (HPS.out.below hb3); clear hown3 hb3 hg3))
            go_wp2_with (go_at_call 60; refine (HG.out _ HS3.out).mono ?_; rintro e w' ⟨rfl, rfl⟩)
            go_ret3
            rw [HRN.out]
            exact ⟨_, rfl, HW3.out, HB3.out⟩
          | some t =>
            have hr0 : 0 ≤ root := pv_nonneg (HRT.out t hgt)
            rw [hgt] at hG
            have HG := Lib.hid hG
            clear hG HNR HRT
            go_wp2_with (first | (go_at_call 65; refine (HCV.out _).mono ?_; rintro e w' ⟨rfl, rfl⟩) | (at_builtin; refine app_pcN (w0 := w2) (l := []) rfl rfl (Own.made (Nat.le_refl _)) ((Below.refl _ _).alloc (Nat.le_refl _) _) (by simp; omega) (HS2.out.alloc _) HC.out (by rfl) (by rfl) ?_; intro v3 w3 hown3 hb3 hg3; rw [List.nil_append] at hown3; have HW3 := Lib.hid (hown3.mono HB.out.size); have HB3 := Lib.hid (Below_then HB.out hb3 (Nat.le_refl _)); have HS3 := Lib.hid (HS2.out.below hb3); have HPS3 := Lib.hid (HPS.out.below hb3); clear hown3 hb3 hg3))
            go_wp2_with (first | (go_at_call 60; refine (HG.out _ HS3.out).mono ?_; rintro e w' ⟨rfl, rfl⟩) | (go_at_call 125; refine (HFL.out _).mono ?_; rintro e w' ⟨rfl, rfl⟩) | (go_at_call 59; refine (HPR.out _).mono ?_; rintro e w' ⟨rfl, rfl⟩))
            refine (HL10.out _ _ _ hr0 HS3.out HPS3.out hple).mono ?_
            rintro e w5 ⟨v5, m5, rfl, hb5, hres⟩
            replace HB3 := Lib.hid (Below_then HB3.out hb5 (Nat.le_refl _))
            replace HW3 := Lib.hid (HW3.out.below hb5)
            clear hb5
            cases S with
            | none =>
              have HRN := Lib.hid (show R = (l, root, false) from HGOOD.out)
              clear HGOOD
              simp only [Option.isSome_none]
              go_wp2
              go_ret3
              rw [HRN.out]
              exact ⟨_, rfl, HW3.out, HB3.out⟩
            | some x =>
              obtain ⟨rfl, B, d, rfl, hsB, hczB, hleB⟩ := hres x rfl
              have HSB := Lib.hid hsB
              have hvx := HS0.out x rfl
              have hlx := storeV_len hvx
              have hPT := fun w h => HFP.out B d x.1 w h hczB hleB (by omega) (fit_store hvx)
              have hgd := HGOOD.out
              rw [Option.bind_some] at hgd
              obtain ⟨xs, m⟩ := x
              simp only at *
              unfold PutRes at hPT
              have hlp := putT_len xs FT
              generalize putT xs FT = PT at *
              obtain ⟨P1, P2, P3⟩ := PT
              simp only at hPT hgd hlp
              have HPT := Lib.hid hPT
              clear hPT HGOOD HS0 hsB hres hvx
              go_wp2_with (go_at_call 125; refine (HFL.out _).mono ?_; rintro e w' ⟨rfl, rfl⟩)
              refine (HPT.out _ HSB.out).mono ?_
              rintro e wL ⟨v8, rfl, hown8, hb8⟩
              replace HB3 := Lib.hid (Below_then HB3.out hb8 (Nat.le_refl _))
              replace HW3 := Lib.hid (HW3.out.below hb8)
              obtain ⟨X, dx, rfl, hlex, hsx, _⟩ := hown8.sl
              have HSL := Lib.hid hsx
              have HCL := Lib.hid hown8.cz
              clear hown8 hb8 hsx
              cases P3
              · have HRN := Lib.hid (show R = (l, root, false) from hgd)
                clear hgd
                go_wp2
                go_ret3
                rw [HRN.out]
                exact ⟨_, rfl, HW3.out, HB3.out⟩
              · have HRY := Lib.hid (show R = (P1, m, true) from hgd)
                clear hgd
                go_wp2_with (at_builtin; refine app_pcN (w0 := wL) (l := []) rfl rfl (Own.made (Nat.le_refl _)) ((Below.refl _ _).alloc (Nat.le_refl _) _) (by simp; omega) (HSL.out.alloc _) HCL.out (by rfl) (by rfl) ?_; intro v9 w9 hown9 hb9 hg9; rw [List.nil_append] at hown9; have HW9 := Lib.hid (hown9.mono HB3.out.size); have HB9 := Lib.hid (Below_then HB3.out hb9 (Nat.le_refl _)); clear hown9 hb9 hg9)
                go_ret3
                rw [HRY.out]
                exact ⟨_, rfl, HW9.out, HB9.out⟩
set_option maxHeartbeats 2000000 in
set_option maxRecDepth 100000 in
theorem sDropAt_any (A : Option Addr) (c : Nat) (l : List Pc) (root : Int) (path : ByteArray) (w : World) (hs : Sl w encP 2 A l) (hcz : A = none → c = 0) (hle : l.length ≤ c) (hl : l.length ≤ 16777216) (hf : FitP l) (hp : path.size ≤ 1048576) :
    Calls Tryz.prog 106 #[.slice A l.length c, .int .i64 root, .string path] w (PutRes (dropA l root (bs path)) w) := by
  have HS := Lib.hid hs
  have HC := Lib.hid hcz
  have HP := Lib.hid (fun w => sPathParts_any path w hp)
  have hSV := fun w h => sStoreValid_any A c l w h hl hf
  unfold PathR at HP
  unfold PutRes
  clear hs
  cases hv : storeV l
  · have HR := Lib.hid (dropA_bad (root := root) (path := bs path) (.inl hv))
    rw [hv] at hSV
    have HSV := Lib.hid hSV
    clear hSV hv
    generalize pathP (bs path) = PP at *
    generalize dropA l root (bs path) = R at *
    generalize hpl : (PP.getD []).map mk = pl at *
    clear hpl
    generalize PP.isSome = ok at *
    go_enter Tryz.func106, Tryz.ntmps106
    go_wp2_with fail
    refine (HP.out _).mono ?_
    rintro e w1 ⟨v1, rfl, hown, hb⟩
    obtain ⟨PA, pc, rfl, hple, hps, _⟩ := hown.sl
    have HB := Lib.hid hb
    have HPS := Lib.hid hps
    have HS1 := Lib.hid (HS.out.below hb)
    clear hb hown hps
    go_wp2_with fail
    refine (HSV.out _ HS1.out).mono ?_
    rintro e w2 ⟨rfl, hb⟩
    replace HB := Lib.hid (Below_then HB.out hb (Nat.le_refl _))
    replace HPS := Lib.hid (HPS.out.below hb)
    have HS2 := Lib.hid (HS1.out.below hb)
    clear hb
    go_wp2
    go_ret3
    rw [HR.out]
    exact ⟨_, rfl, Own.made HB.out.size, HB.out.alloc HB.out.size _⟩
  · rw [hv] at hSV
    have HSV := Lib.hid hSV
    clear hSV
    cases hpp : pathP (bs path) with
    | none =>
      have HR := Lib.hid (dropA_bad (s := l) (root := root) (path := bs path) (.inr (.inl hpp)))
      generalize dropA l root (bs path) = R at *
      rw [hpp] at HP
      clear hpp hv
      go_enter Tryz.func106, Tryz.ntmps106
      go_wp2_with fail
      refine (HP.out _).mono ?_
      rintro e w1 ⟨v1, rfl, hown, hb⟩
      obtain ⟨PA, pc, rfl, hple, hps, _⟩ := hown.sl
      have HB := Lib.hid hb
      have HPS := Lib.hid hps
      have HS1 := Lib.hid (HS.out.below hb)
      clear hb hown hps
      simp only [Option.isSome_none]
      go_wp2_with fail
      refine (HSV.out _ HS1.out).mono ?_
      rintro e w2 ⟨rfl, hb⟩
      replace HB := Lib.hid (Below_then HB.out hb (Nat.le_refl _))
      replace HPS := Lib.hid (HPS.out.below hb)
      have HS2 := Lib.hid (HS1.out.below hb)
      clear hb
      go_wp2
      go_ret3
      rw [HR.out]
      exact ⟨_, rfl, Own.made HB.out.size, HB.out.alloc HB.out.size _⟩
    | some ps =>
      cases ps with
      | nil =>
        have HR := Lib.hid (dropA_bad (s := l) (root := root) (path := bs path) (.inr (.inr hpp)))
        generalize dropA l root (bs path) = R at *
        rw [hpp, Option.getD_some, List.map_nil, Option.isSome_some] at HP
        clear hpp hv
        go_enter Tryz.func106, Tryz.ntmps106
        go_wp2_with fail
        refine (HP.out _).mono ?_
        rintro e w1 ⟨v1, rfl, hown, hb⟩
        obtain ⟨PA, pc, rfl, hple, hps, _⟩ := hown.sl
        have HB := Lib.hid hb
        have HPS := Lib.hid hps
        have HS1 := Lib.hid (HS.out.below hb)
        clear hb hown hps
        simp only [List.length_nil]
        go_wp2_with fail
        refine (HSV.out _ HS1.out).mono ?_
        rintro e w2 ⟨rfl, hb⟩
        replace HB := Lib.hid (Below_then HB.out hb (Nat.le_refl _))
        replace HPS := Lib.hid (HPS.out.below hb)
        have HS2 := Lib.hid (HS1.out.below hb)
        clear hb
        go_wp2
        go_ret3
        rw [HR.out]
        exact ⟨_, rfl, Own.made HB.out.size, HB.out.alloc HB.out.size _⟩
      | cons n r =>
        have hl40 := storeV_len hv
        have hSZ := parts_size hpp
        have hpl3 : ((n :: r).map mk).length ≤ 3 := by rw [List.length_map]; exact (partsV_iff.1 (pathP_join hpp).1).1
        have hWK := fun PA pc w h1 h2 => sl9Walk_any A PA c pc l ((n :: r).map mk) root w h1 h2 hv hpl3
        have hwe : walkB l root (((n :: r).map mk).drop 0) = walkP l root (n :: r) := by rw [List.drop_zero]; unfold walkB; rw [map_tx_mk]
        rw [hwe] at hWK
        unfold WkRes at hWK
        have hD10 := fun PA pc w h1 h2 h3 h4 => sl10d_all A c l hcz hle hv r.length ((n :: r).map mk) (by simp) root PA pc w h1 h2 h3 h4 hSZ
        rw [map_tx_mk] at hD10
        have HS0 := Lib.hid (fun x h => @dropS_valid l (foldsD l root (n :: r)) (n :: r) x hv h)
        have HNW := Lib.hid (fun h => dropA_nowalk (root := root) hv hpp h)
        have HGW := Lib.hid (fun h => dropA_good (root := root) hv hpp h)
        rw [hpp, Option.getD_some, Option.isSome_some] at HP
        have hpz : 0 < ((n :: r).map mk).length := by simp
        generalize dropA l root (bs path) = R at *
        generalize (n :: r).map mk = pl at *
        generalize dropS l (foldsD l root (n :: r)) (n :: r) = S at *
        generalize walkP l root (n :: r) = WK at *
        have hpz' : ((pl.length : Int) == 0) = false := by rw [beq_eq_false_iff_ne]; omega
        have HD10 := Lib.hid hD10
        clear hpp hv hD10 hSZ hwe
        go_enter Tryz.func106, Tryz.ntmps106
        go_wp2_with fail
        refine (HP.out _).mono ?_
        rintro e w1 ⟨v1, rfl, hown, hb⟩
        obtain ⟨PA, pc, rfl, hple, hps, _⟩ := hown.sl
        have HB := Lib.hid hb
        have HPS := Lib.hid hps
        have HS1 := Lib.hid (HS.out.below hb)
        clear hb hown hps
        go_wp2_with fail
        refine (HSV.out _ HS1.out).mono ?_
        rintro e w2 ⟨rfl, hb⟩
        replace HB := Lib.hid (Below_then HB.out hb (Nat.le_refl _))
        replace HPS := Lib.hid (HPS.out.below hb)
        have HS2 := Lib.hid (HS1.out.below hb)
        clear hb
        cases WK with
        | none =>
          have HRN := Lib.hid (HNW.out rfl)
          have HWK := Lib.hid hWK
          clear hWK HNW HGW
          simp only [Option.isSome_none] at HWK
          go_wp2_with (at_builtin; refine app_pcN (w0 := w2) (l := []) rfl rfl (Own.made (Nat.le_refl _)) ((Below.refl _ _).alloc (Nat.le_refl _) _) (by simp; omega) (HS2.out.alloc _) HC.out (by rfl) (by rfl) ?_; intro v3 w3 hown3 hb3 hg3; rw [List.nil_append] at hown3; have HW3 := Lib.hid (hown3.mono HB.out.size); have HB3 := Lib.hid (Below_then HB.out hb3 (Nat.le_refl _)); have HS3 := Lib.hid (HS2.out.below hb3); have HPS3 := Lib.hid (HPS.out.below hb3); clear hown3 hb3 hg3)
          refine (HWK.out _ _ _ HS3.out HPS3.out).mono ?_
          rintro e w4 ⟨rfl, hb4⟩
          replace HB3 := Lib.hid (Below_then HB3.out hb4 (Nat.le_refl _))
          replace HW3 := Lib.hid (HW3.out.below hb4)
          clear hb4
          go_wp2
          go_ret3
          rw [HRN.out]
          exact ⟨_, rfl, HW3.out, HB3.out⟩
        | some wq =>
          have HGOOD := Lib.hid (HGW.out rfl)
          have HWK := Lib.hid hWK
          clear hWK HNW HGW
          simp only [Option.isSome_some, Option.getD_some] at HWK
          go_wp2_with (at_builtin; refine app_pcN (w0 := w2) (l := []) rfl rfl (Own.made (Nat.le_refl _)) ((Below.refl _ _).alloc (Nat.le_refl _) _) (by simp; omega) (HS2.out.alloc _) HC.out (by rfl) (by rfl) ?_; intro v3 w3 hown3 hb3 hg3; rw [List.nil_append] at hown3; have HW3 := Lib.hid (hown3.mono HB.out.size); have HB3 := Lib.hid (Below_then HB.out hb3 (Nat.le_refl _)); have HS3 := Lib.hid (HS2.out.below hb3); have HPS3 := Lib.hid (HPS.out.below hb3); clear hown3 hb3 hg3)
          refine (HWK.out _ _ _ HS3.out HPS3.out).mono ?_
          rintro e w4 ⟨rfl, hb4⟩
          replace HB3 := Lib.hid (Below_then HB3.out hb4 (Nat.le_refl _))
          replace HW3 := Lib.hid (HW3.out.below hb4)
          replace HS3 := Lib.hid (HS3.out.below hb4)
          replace HPS3 := Lib.hid (HPS3.out.below hb4)
          clear hb4
          go_wp2_with fail
          refine (HD10.out _ _ _ rfl HS3.out HPS3.out hple).mono ?_
          rintro e wL ⟨v5, m5, rfl, hb5, hres⟩
          replace HB3 := Lib.hid (Below_then HB3.out hb5 (Nat.le_refl _))
          replace HW3 := Lib.hid (HW3.out.below hb5)
          clear hb5
          cases S with
          | none =>
            have HRN := Lib.hid (show R = (l, root, false) from HGOOD.out)
            clear HGOOD
            simp only [Option.isSome_none]
            go_wp2
            go_ret3
            rw [HRN.out]
            exact ⟨_, rfl, HW3.out, HB3.out⟩
          | some x =>
            obtain ⟨rfl, B, d, rfl, hsB, hczB, hleB⟩ := hres x rfl
            have HSB := Lib.hid hsB
            have hvx := HS0.out x rfl
            have hlx := storeV_len hvx
            have hgd := HGOOD.out
            rw [Option.bind_some] at hgd
            obtain ⟨xs, m⟩ := x
            simp only at *
            clear HGOOD HS0 hsB hres
            simp only [Option.isSome_some]
            by_cases hm : m < 0
            · rw [if_pos hm] at hgd
              have hER := fun w h => sEmptyRoot_any B d xs w h hczB hleB (by omega) (fit_store hvx)
              unfold PutRes foldE at hER
              have hlp := putT_len xs (mk (foldT []))
              have HE2 := Lib.hid (fun h => (putT_ok (l := xs) (t := mk (foldT [])) h).2.2)
              rw [show prOf (tx (mk (foldT []))) = prOf (foldT []) from rfl] at HE2
              generalize mk (foldT []) = FE at *
              generalize prOf (foldT []) = FR at *
              generalize putT xs FE = PT at *
              obtain ⟨P1, P2, P3⟩ := PT
              simp only at hER hgd hlp HE2
              have HER := Lib.hid hER
              clear hER hvx
              go_wp2_with fail
              refine (HER.out _ HSB.out).mono ?_
              rintro e wL ⟨v8, rfl, hown8, hb8⟩
              replace HB3 := Lib.hid (Below_then HB3.out hb8 (Nat.le_refl _))
              replace HW3 := Lib.hid (HW3.out.below hb8)
              obtain ⟨X, dx, rfl, hlex, hsx, _⟩ := hown8.sl
              have HSL := Lib.hid hsx
              have HCL := Lib.hid hown8.cz
              clear hown8 hb8 hsx
              cases P3
              · have HRN := Lib.hid (show R = (l, root, false) from hgd)
                clear hgd
                go_wp2
                go_ret3
                rw [HRN.out]
                exact ⟨_, rfl, HW3.out, HB3.out⟩
              · have HRY := Lib.hid (show R = (P1, P2, true) by rw [HE2.out rfl]; exact hgd)
                clear hgd
                go_wp2_with (at_builtin; refine app_pcN (w0 := wL) (l := []) rfl rfl (Own.made (Nat.le_refl _)) ((Below.refl _ _).alloc (Nat.le_refl _) _) (by simp; omega) (HSL.out.alloc _) HCL.out (by rfl) (by rfl) ?_; intro v9 w9 hown9 hb9 hg9; rw [List.nil_append] at hown9; have HW9 := Lib.hid (hown9.mono HB3.out.size); have HB9 := Lib.hid (Below_then HB3.out hb9 (Nat.le_refl _)); clear hown9 hb9 hg9)
                go_ret3
                rw [HRY.out]
                exact ⟨_, rfl, HW9.out, HB9.out⟩
            · rw [if_neg hm] at hgd
              have HRY := Lib.hid (show R = (xs, m, true) from hgd)
              have HSL := HSB
              have HCL := Lib.hid hczB
              clear hgd hvx
              go_wp2_with (at_builtin; refine app_pcN (w0 := wL) (l := []) rfl rfl (Own.made (Nat.le_refl _)) ((Below.refl _ _).alloc (Nat.le_refl _) _) (by simp; omega) (HSL.out.alloc _) HCL.out (by rfl) (by rfl) ?_; intro v9 w9 hown9 hb9 hg9; rw [List.nil_append] at hown9; have HW9 := Lib.hid (hown9.mono HB3.out.size); have HB9 := Lib.hid (Below_then HB3.out hb9 (Nat.le_refl _)); clear hown9 hb9 hg9)
              go_ret3
              rw [HRY.out]
              exact ⟨_, rfl, HW9.out, HB9.out⟩
end Go.Proofs.YtokelopllbaikaaGreatDoor
