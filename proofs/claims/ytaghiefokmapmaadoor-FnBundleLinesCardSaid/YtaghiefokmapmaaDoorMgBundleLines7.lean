/- Written by merge.py: S2, S3, Zb, Zc, Vb, Dq, S4, Bl, Zd, L1, M1. -/
import Derived.Deep.RegionHeld3
import Derived.Test.YtaghiefokmapmaaDoorMgBundleLines6
/- Dropping out of a folder, the reference's: l10Drop. Written by gen_drop.py. -/
set_option linter.unusedVariables false
namespace Go.Proofs.YtaghiefokmapmaaDoor
open Go.RowKit
def D10 (A : Option Addr) (c : Nat) (l : List Pc) (p : Int) (PA : Option Addr) (pc : Nat) (pl : List ByteArray) (w : World) : Prop :=
  (walkP l p (pl.map tx)).isSome = true → Sl w encP 2 A l → Sl w encS 1 PA pl → pl.length ≤ pc → (∀ x ∈ pl, x.size ≤ 8) →
    Calls Tryd.prog 86 #[.slice A l.length c, .int .i64 p, .slice PA pl.length pc] w (SetRes (dropS l (foldsD l p (pl.map tx)) (pl.map tx)) w)
theorem dropS_first {l : List Pc} {p : Int} {pl : List ByteArray} (h : 0 < pl.length) (hw : (walkP l p (pl.map tx)).isSome = true) :
    ∃ ll q, folderOf l p = some ll ∧ getE ll (tx pl[0]) = some q ∧ (walkP l q ((pl.drop 1).map tx)).isSome = true ∧
      dropS l (foldsD l p (pl.map tx)) (pl.map tx) = (dropS l (foldsD l q ((pl.drop 1).map tx)) ((pl.drop 1).map tx)).bind (dropUp ll (tx pl[0])) := by
  cases pl with
  | nil => simp at h
  | cons x r =>
    rw [List.map_cons, walkP] at hw
    cases hf : folderOf l p with
    | none => rw [hf] at hw; cases hw
    | some ll =>
      rw [hf, Option.bind_some] at hw
      cases hg : getE ll (tx x) with
      | none => rw [hg] at hw; cases hw
      | some q =>
        rw [hg, Option.bind_some] at hw
        refine ⟨ll, q, rfl, hg, hw, ?_⟩
        rw [List.map_cons, foldsD, hf, Option.getD_some, hg, Option.getD_some, dropS_cons]; rfl
set_option maxHeartbeats 16000000 in
set_option maxRecDepth 100000 in
theorem sl10d_step (A : Option Addr) (c : Nat) (l : List Pc) (hcz : A = none → c = 0) (hle : l.length ≤ c) (hv : storeV l = true) (pl : List ByteArray) (hpos : 0 < pl.length)
    (ih : 1 < pl.length → ∀ (p : Int) (PA : Option Addr) (pc : Nat) (w : World), D10 A c l p PA pc (pl.drop 1) w) (p : Int) (PA : Option Addr) (pc : Nat) (w : World) : D10 A c l p PA pc pl w := by
  intro hw hs hps hple hsz
  have HS := Lib.hid hs
  obtain ⟨b, o, rfl, hc0⟩ := hps.getS hpos
  have HPS := Lib.hid hps
  have HSZ := Lib.hid hsz
  have IH := Lib.hid ih
  have HV := Lib.hid hv
  have hlen : l.length ≤ 16777216 := by have := storeV_len hv; omega
  obtain ⟨ll, q, hfo, hge, hwr, hR⟩ := dropS_first hpos hw
  have HNM := Lib.hid (show pl[0].size ≤ 16777216 from Nat.le_trans (hsz _ (List.getElem_mem hpos)) (by omega))
  rw [Nat.add_zero] at hc0
  have HLV := Lib.hid (folder_valid hfo)
  have htz := getT_size HV.out (p := p)
  have hRD := fun w => sReadFolder_any ((getT l p).getD ⟨#[]⟩) w htz
  have hFT := folT_of (l := l) (p := p)
  have hSome := folT_some (l := l) (p := p)
  unfold RfRes at hRD
  unfold folT at hFT
  rw [hFT, hSome, hfo, Option.getD_some, Option.isSome_some] at hRD
  have HGP := Lib.hid (fun w h => sl4Get_any A c l p w h hlen)
  have hq0 : 0 ≤ q := getE_pos HLV.out hge
  have HWR := Lib.hid hwr
  clear hs hps hsz ih hv hw hwr
  generalize pl[0] = nm at *
  generalize dropS l (foldsD l p (pl.map tx)) (pl.map tx) = R at *
  have HR := Lib.hid hR
  have HGE := Lib.hid hge
  generalize (getT l p).getD ⟨#[]⟩ = TT at *
  generalize (getT l p).isSome = okg at *
  have HRD := Lib.hid hRD
  clear hRD hFT hSome htz hR hge hfo
  go_enter Tryd.func86, Tryd.ntmps86
  go_wp2_with (go_at_call 40; refine (HGP.out _ HS.out).mono ?_; rintro e w' ⟨rfl, rfl⟩)
  refine (HRD.out _).mono ?_
  rintro e wA ⟨v, rfl, hown, hb⟩
  have HB := Lib.hid hb
  have hcA := Below_cells HB.out _ _ _ hc0
  obtain ⟨LA, lc, rfl, hle4, hs4, hA4⟩ := hown.sl
  have HLC := Lib.hid hown.cz
  have HLL := Lib.hid hs4
  have HLE := Lib.hid hle4
  have HLA := Lib.hid (show LA = none ∨ ∃ b o, LA = some ⟨b, o, none⟩ by
    rcases hA4 with ⟨_, rfl⟩ | ⟨g, rfl, _⟩
    · exact .inl rfl
    · exact .inr ⟨_, _, rfl⟩)
  clear hown hb hs4 hle4 hA4
  have hlv := HLV.out
  have hl3 := entsV_len hlv
  have hso := entsV_sorted hlv
  go_wp2_with fail
  go_loopw [13, 14] (fun vc vi wr => ∃ (k : Nat), k ≤ ll.length ∧ vc = .int .i64 (chE ll (tx nm) k) ∧ vi = .int .i64 k ∧ Hid (Below wA.heap.size wA wr)) (fun _ vi _ => ll.length - (intOf vi).toNat)
  case atStart => exact ⟨0, Nat.zero_le _, rfl, rfl, Below.refl _ _⟩
  case round =>
    obtain ⟨k, hk, rfl, rfl, HBJ⟩ := hrel
    have HBX := Lib.hid (Below_then HB.out HBJ.out (Nat.le_refl _))
    have HLX := Lib.hid (HLL.out.below HBJ.out)
    have hd := Below_cells HBJ.out _ _ _ hcA
    have hpl1 : (0 : Int) < (pl.length : Int) := by omega
    by_cases hlt : k < ll.length
    · obtain ⟨b2, o2, hLA, hy0, hy1⟩ := HLX.out.getE hlt
      subst hLA
      have hlt' : (k : Int) < (ll.length : Int) := by omega
      cases heq : (ll[k].1.toList == nm.toList)
      · have HN := Lib.hid (chE_no (n := tx nm) hlt (by rw [eq_tlx] at heq; exact beq_eq_false_iff_ne.1 heq))
        generalize chE ll (tx nm) k = C0 at *
        generalize ll[k] = y at *
        obtain ⟨t, p2⟩ := y
        simp only at *
        go_wp2_with fail
        go_quiet (fail)
        all_goals
          go_wp2
          go_roundw
          case rel => exact ⟨k + 1, by omega, by rw [HN.out], by go_num, Below_drewN HBJ.out _⟩
          case measure => simp [intOf]; omega
      · have HN := Lib.hid (chE_yes (n := tx nm) hlt (by rw [eq_tlx] at heq; exact beq_iff_eq.1 heq))
        generalize chE ll (tx nm) k = C0 at *
        generalize ll[k] = y at *
        obtain ⟨t, p2⟩ := y
        simp only at *
        go_wp2_with fail
        go_quiet (fail)
        all_goals
          go_wp2
          go_roundw
          case rel => exact ⟨k + 1, by omega, by rw [HN.out], by go_num, Below_drewN HBJ.out _⟩
          case measure => simp [intOf]; omega
    · have hlt' : ¬ (k : Int) < (ll.length : Int) := by omega
      rw [chE_all (n := tx nm) hso (k := k) (by omega), HGE.out]
      simp only [Option.getD_some]
      have hqn : ¬ q < 0 := by omega
      by_cases h1 : pl.length = 1
      · have h1' : ¬ (1 : Int) < (pl.length : Int) := by omega
        have hrest : (pl.drop 1).map tx = [] := by rw [List.drop_of_length_le (by omega)]; rfl
        have HDU := Lib.hid (show R = dropUp ll (tx nm) (l, -1) by rw [HR.out, hrest]; rfl)
        have hm : (-1 : Int) < 0 := by omega
        have HVX := HV
        have hlx := storeV_len HVX.out
        have hczB := hcz
        have hleB := hle
        have HSB := Lib.hid (HS.out.below HBX.out)
        clear HR HGP hrest
        have hDE := fun w h => sDropEntry_any LA lc ll nm w h HLV.out
        unfold EnRes at hDE
        rw [show bs nm = tx nm from rfl] at hDE
        have hvd := dropE_valid HLV.out (tx nm)
        have HRL := Lib.hid (show R = if (dropE ll (tx nm)).1 = [] then some (l, -1) else if (putT l (mk (foldT (dropE ll (tx nm)).1))).2.2 then some ((putT l (mk (foldT (dropE ll (tx nm)).1))).1, prOf (foldT (dropE ll (tx nm)).1)) else none by
          rw [HDU.out]; unfold dropUp; simp only [if_pos hm]; rfl)
        generalize dropE ll (tx nm) = DE at *
        obtain ⟨rl, ok3⟩ := DE
        simp only at hDE hvd HRL
        have HDE := Lib.hid hDE
        clear hDE HDU
        go_wp2_with fail
        refine (HDE.out _ HLX.out).mono ?_
        rintro e w6 ⟨v6, rfl, hown6, hb6⟩
        have HB6 := Lib.hid (Below_then HBX.out hb6 (Nat.le_refl _))
        have HSB6 := Lib.hid (HSB.out.below hb6)
        obtain ⟨X, dx, rfl, hlex, hsx, _⟩ := hown6.sl
        have HX6 := Lib.hid hsx
        have hvr := hvd
        clear hb6 hown6 hsx hvd
        have hp3 := entsV_len hvr
        by_cases hrl : rl = []
        · have HRY := Lib.hid (show R = some (l, -1) by rw [HRL.out, if_pos hrl])
          have hz : rl.length = 0 := by rw [hrl]; rfl
          have hz' : (rl.length : Int) = 0 := by omega
          clear hrl HRL
          go_wp2
          go_ret3
          exact SetRes.yes HRY.out HB6.out HSB6.out hczB hleB
        · have hz' : ¬ (rl.length : Int) = 0 := by
            intro e
            exact hrl (List.length_eq_zero_iff.1 (by omega))
          have HRY := Lib.hid (show R = if (putT l (mk (foldT rl))).2.2 then some ((putT l (mk (foldT rl))).1, prOf (tx (mk (foldT rl)))) else none by rw [HRL.out, if_neg hrl]; rfl)
          have hFT := fun w h => sFolderText_any X dx rl w h (by omega) (fitE_valid hvr)
          have hfl := foldT_len rl
          have hPT := fun w h => sPutText_any A c l (mk (foldT rl)) w h hczB hleB (by omega) (fit_store HVX.out) (by rw [mk_size]; omega)
          unfold PutRes at hPT
          have hSP := fun w1 w2 v => @SetRes.put R l (mk (foldT rl)) w w1 w2 v HRY.out
          clear HRY HRL hvr hfl hrl
          generalize mk (foldT rl) = FT at *
          generalize putT l FT = PT at *
          obtain ⟨P1, P2, P3⟩ := PT
          simp only at hPT hSP
          have HSP := Lib.hid hSP
          have HFT := Lib.hid hFT
          have HPT := Lib.hid hPT
          clear hFT hPT hSP
          go_wp2_with fail
          refine (HFT.out _ HX6.out).mono ?_
          rintro e w7 ⟨rfl, hb7⟩
          replace HB6 := Lib.hid (Below_then HB6.out hb7 (Nat.le_refl _))
          replace HSB6 := Lib.hid (HSB6.out.below hb7)
          clear hb7
          go_wp2_with fail
          refine (HPT.out _ HSB6.out).mono ?_
          rintro e w8 ⟨v8, rfl, hown8, hb8⟩
          have HO8 := Lib.hid hown8
          have HB8 := Lib.hid hb8
          clear hown8 hb8
          go_wp2
          go_ret3
          exact HSP.out _ _ _ HO8.out HB6.out HB8.out
      · have h1' : (1 : Int) < (pl.length : Int) := by omega
        have hpc1 : ¬ pc = 1 := by omega
        have hREC : ∀ w, Sl w encP 2 A l → Sl w encS 1 (some ⟨b, o, none⟩) pl → Calls Tryd.prog 86 #[.slice A l.length c, .int .i64 q, .slice (some ⟨b, o + 1, none⟩) (pl.length - 1) (pc - 1)] w (SetRes (dropS l (foldsD l q ((pl.drop 1).map tx)) ((pl.drop 1).map tx)) w) := fun w h1 h2 => by
          have h := IH.out (by omega) q (some ⟨b, o + 1, none⟩) (pc - 1) w HWR.out h1 h2.dropS (by rw [List.length_drop]; omega) (fun x hx => HSZ.out x (List.mem_of_mem_drop hx))
          rw [List.length_drop] at h
          exact h
        have HS0 := Lib.hid (fun x h => @dropS_valid l (foldsD l q ((pl.drop 1).map tx)) ((pl.drop 1).map tx) x HV.out h)
        generalize dropS l (foldsD l q ((pl.drop 1).map tx)) ((pl.drop 1).map tx) = S at *
        have HREC := Lib.hid hREC
        clear hREC HGP
        go_wp2_with fail
        refine (HREC.out _ (HS.out.below HBX.out) (HPS.out.below HBX.out)).mono ?_
        rintro e w5 ⟨v5, m5, rfl, hb5, hres⟩
        replace HBX := Lib.hid (Below_then HBX.out hb5 (Nat.le_refl _))
        replace HLX := Lib.hid (HLX.out.below hb5)
        replace hd := Below_cells hb5 _ _ _ hd
        clear hb5
        cases S with
        | none =>
          have HRN := Lib.hid (show R = none from HR.out)
          clear HR
          simp only [Option.isSome_none]
          go_wp2
          go_ret3
          exact SetRes.no HRN.out HBX.out
        | some x =>
          obtain ⟨rfl, B, d, rfl, hsB, hczB, hleB⟩ := hres x rfl
          have HSB := Lib.hid hsB
          have HVX := Lib.hid (HS0.out x rfl)
          obtain ⟨xs, m⟩ := x
          have HDU := Lib.hid (show R = dropUp ll (tx nm) (xs, m) from HR.out)
          simp only at HVX HSB hczB hleB
          have hlx := storeV_len HVX.out
          clear HR hres hsB HS0
          simp only [Option.isSome_some]
          by_cases hm : m < 0
          · have hm2 : ¬ 0 ≤ m := by omega
            have hDE := fun w h => sDropEntry_any LA lc ll nm w h HLV.out
            unfold EnRes at hDE
            rw [show bs nm = tx nm from rfl] at hDE
            have hvd := dropE_valid HLV.out (tx nm)
            have HRL := Lib.hid (show R = if (dropE ll (tx nm)).1 = [] then some (xs, -1) else if (putT xs (mk (foldT (dropE ll (tx nm)).1))).2.2 then some ((putT xs (mk (foldT (dropE ll (tx nm)).1))).1, prOf (foldT (dropE ll (tx nm)).1)) else none by
              rw [HDU.out]; unfold dropUp; simp only [if_pos hm]; rfl)
            generalize dropE ll (tx nm) = DE at *
            obtain ⟨rl, ok3⟩ := DE
            simp only at hDE hvd HRL
            have HDE := Lib.hid hDE
            clear hDE HDU
            go_wp2_with fail
            refine (HDE.out _ HLX.out).mono ?_
            rintro e w6 ⟨v6, rfl, hown6, hb6⟩
            have HB6 := Lib.hid (Below_then HBX.out hb6 (Nat.le_refl _))
            have HSB6 := Lib.hid (HSB.out.below hb6)
            obtain ⟨X, dx, rfl, hlex, hsx, _⟩ := hown6.sl
            have HX6 := Lib.hid hsx
            have hvr := hvd
            clear hb6 hown6 hsx hvd
            have hp3 := entsV_len hvr
            by_cases hrl : rl = []
            · have HRY := Lib.hid (show R = some (xs, -1) by rw [HRL.out, if_pos hrl])
              have hz : rl.length = 0 := by rw [hrl]; rfl
              have hz' : (rl.length : Int) = 0 := by omega
              clear hrl HRL
              go_wp2
              go_ret3
              exact SetRes.yes HRY.out HB6.out HSB6.out hczB hleB
            · have hz' : ¬ (rl.length : Int) = 0 := by
                intro e
                exact hrl (List.length_eq_zero_iff.1 (by omega))
              have HRY := Lib.hid (show R = if (putT xs (mk (foldT rl))).2.2 then some ((putT xs (mk (foldT rl))).1, prOf (tx (mk (foldT rl)))) else none by rw [HRL.out, if_neg hrl]; rfl)
              have hFT := fun w h => sFolderText_any X dx rl w h (by omega) (fitE_valid hvr)
              have hfl := foldT_len rl
              have hPT := fun w h => sPutText_any B d xs (mk (foldT rl)) w h hczB hleB (by omega) (fit_store HVX.out) (by rw [mk_size]; omega)
              unfold PutRes at hPT
              have hSP := fun w1 w2 v => @SetRes.put R xs (mk (foldT rl)) w w1 w2 v HRY.out
              clear HRY HRL hvr hfl hrl
              generalize mk (foldT rl) = FT at *
              generalize putT xs FT = PT at *
              obtain ⟨P1, P2, P3⟩ := PT
              simp only at hPT hSP
              have HSP := Lib.hid hSP
              have HFT := Lib.hid hFT
              have HPT := Lib.hid hPT
              clear hFT hPT hSP
              go_wp2_with fail
              refine (HFT.out _ HX6.out).mono ?_
              rintro e w7 ⟨rfl, hb7⟩
              replace HB6 := Lib.hid (Below_then HB6.out hb7 (Nat.le_refl _))
              replace HSB6 := Lib.hid (HSB6.out.below hb7)
              clear hb7
              go_wp2_with fail
              refine (HPT.out _ HSB6.out).mono ?_
              rintro e w8 ⟨v8, rfl, hown8, hb8⟩
              have HO8 := Lib.hid hown8
              have HB8 := Lib.hid hb8
              clear hown8 hb8
              go_wp2
              go_ret3
              exact HSP.out _ _ _ HO8.out HB6.out HB8.out
          · skip
            have hDE := fun w h => sDropEntry_any LA lc ll nm w h HLV.out
            unfold EnRes at hDE
            rw [show bs nm = tx nm from rfl] at hDE
            have hvd := dropE_valid HLV.out (tx nm)
            have HRP := Lib.hid (show R = if (putE ll (nm, m)).1 = [] then some (xs, -1) else if (putT xs (mk (foldT (putE ll (nm, m)).1))).2.2 then some ((putT xs (mk (foldT (putE ll (nm, m)).1))).1, prOf (foldT (putE ll (nm, m)).1)) else none by
              have h := HDU.out
              unfold dropUp at h
              simp only [if_neg hm] at h
              rw [show restD ll (tx nm) (some m) = (putE ll (mk (tx nm), m)).1 from rfl, mk_tx] at h
              exact h)
            have hPE := fun w h => sPutEntry_any LA lc ll (nm, m) w h HLC.out HLA.out HLE.out HLV.out HNM.out
            have hvp : entsV (putE ll (nm, m)).1 = true := by
              have h := restD_valid ll (tx nm) (some m)
              rwa [show restD ll (tx nm) (some m) = (putE ll (mk (tx nm), m)).1 from rfl, mk_tx] at h
            unfold EnRes at hPE
            generalize putE ll (nm, m) = PE at *
            obtain ⟨rl, ok2⟩ := PE
            simp only at hPE hvp HRP
            have HPE := Lib.hid hPE
            have hm' : ¬ m < 0 := hm
            have hm2 : 0 ≤ m := by omega
            clear hPE
            generalize dropE ll (tx nm) = DE at *
            obtain ⟨dl, ok3⟩ := DE
            simp only at hDE hvd
            have HDE := Lib.hid hDE
            clear hDE HDU
            go_wp2_with fail
            refine (HDE.out _ HLX.out).mono ?_
            rintro e w6 ⟨v6, rfl, hown6, hb6⟩
            have HB6 := Lib.hid (Below_then HBX.out hb6 (Nat.le_refl _))
            have HSB6 := Lib.hid (HSB.out.below hb6)
            have HLX6 := Lib.hid (HLX.out.below hb6)
            have hd6 := Below_cells hb6 _ _ _ hd
            clear hb6 hown6 hd
            go_wp2_with fail
            refine (HPE.out _ HLX6.out).mono ?_
            rintro e w9 ⟨v9, rfl, hown9, hb9⟩
            replace HB6 := Lib.hid (Below_then HB6.out hb9 (Nat.le_refl _))
            replace HSB6 := Lib.hid (HSB6.out.below hb9)
            obtain ⟨X, dx, rfl, hlex, hsx, _⟩ := hown9.sl
            have HX6 := Lib.hid hsx
            have hvr := hvp
            have HRL := HRP
            clear hb9 hown9 hsx hvd hvp HRP
            have hp3 := entsV_len hvr
            by_cases hrl : rl = []
            · have HRY := Lib.hid (show R = some (xs, -1) by rw [HRL.out, if_pos hrl])
              have hz : rl.length = 0 := by rw [hrl]; rfl
              have hz' : (rl.length : Int) = 0 := by omega
              clear hrl HRL
              go_wp2
              go_ret3
              exact SetRes.yes HRY.out HB6.out HSB6.out hczB hleB
            · have hz' : ¬ (rl.length : Int) = 0 := by
                intro e
                exact hrl (List.length_eq_zero_iff.1 (by omega))
              have HRY := Lib.hid (show R = if (putT xs (mk (foldT rl))).2.2 then some ((putT xs (mk (foldT rl))).1, prOf (tx (mk (foldT rl)))) else none by rw [HRL.out, if_neg hrl]; rfl)
              have hFT := fun w h => sFolderText_any X dx rl w h (by omega) (fitE_valid hvr)
              have hfl := foldT_len rl
              have hPT := fun w h => sPutText_any B d xs (mk (foldT rl)) w h hczB hleB (by omega) (fit_store HVX.out) (by rw [mk_size]; omega)
              unfold PutRes at hPT
              have hSP := fun w1 w2 v => @SetRes.put R xs (mk (foldT rl)) w w1 w2 v HRY.out
              clear HRY HRL hvr hfl hrl
              generalize mk (foldT rl) = FT at *
              generalize putT xs FT = PT at *
              obtain ⟨P1, P2, P3⟩ := PT
              simp only at hPT hSP
              have HSP := Lib.hid hSP
              have HFT := Lib.hid hFT
              have HPT := Lib.hid hPT
              clear hFT hPT hSP
              go_wp2_with fail
              refine (HFT.out _ HX6.out).mono ?_
              rintro e w7 ⟨rfl, hb7⟩
              replace HB6 := Lib.hid (Below_then HB6.out hb7 (Nat.le_refl _))
              replace HSB6 := Lib.hid (HSB6.out.below hb7)
              clear hb7
              go_wp2_with fail
              refine (HPT.out _ HSB6.out).mono ?_
              rintro e w8 ⟨v8, rfl, hown8, hb8⟩
              have HO8 := Lib.hid hown8
              have HB8 := Lib.hid hb8
              clear hown8 hb8
              go_wp2
              go_ret3
              exact HSP.out _ _ _ HO8.out HB6.out HB8.out
theorem sl10d_all (A : Option Addr) (c : Nat) (l : List Pc) (hcz : A = none → c = 0) (hle : l.length ≤ c) (hv : storeV l = true) : ∀ (n : Nat) (pl : List ByteArray), pl.length = n + 1 → ∀ (p : Int) (PA : Option Addr) (pc : Nat) (w : World), D10 A c l p PA pc pl w
  | 0, pl, hn, p, PA, pc, w => sl10d_step A c l hcz hle hv pl (by omega) (fun h => by omega) p PA pc w
  | n + 1, pl, hn, p, PA, pc, w => sl10d_step A c l hcz hle hv pl (by omega) (fun h p2 PA2 pc2 w2 => sl10d_all A c l hcz hle hv n (pl.drop 1) (by rw [List.length_drop]; omega) p2 PA2 pc2 w2) p PA pc w
end Go.Proofs.YtaghiefokmapmaaDoor

/- WriteAt and DropAt of the reference, walked. Written by gen_wr.py. -/
set_option linter.unusedVariables false
namespace Go.Proofs.YtaghiefokmapmaaDoor
open Go.RowKit
set_option maxHeartbeats 1000000 in
set_option maxRecDepth 100000 in
theorem sFileText_any (s : ByteArray) (w : World) (hs : s.size ≤ 16777216) : Calls Tryd.prog 88 #[.string s] w fun e w' => e = .returned (.string (mk (fileT (bs s)))) ∧ w = w' := by
  have hCV := fun w => sContentValid_any s w hs
  cases hc : contV (bs s)
  · have HE := Lib.hid (show mk (fileT (bs s)) = ⟨#[]⟩ by unfold fileT; rw [hc]; rfl)
    rw [hc] at hCV
    have HCV := Lib.hid hCV
    clear hCV hc
    go_enter Tryd.func88, Tryd.ntmps88
    go_wp2_with (go_at_call 82; refine (HCV.out _).mono ?_; rintro e w' ⟨rfl, rfl⟩)
    go_ret
    rw [HE.out]; exact ⟨rfl, rfl⟩
  · have HE := Lib.hid (show mk (fileT (bs s)) = ⟨#[102]⟩ ++ s by rw [fileT_ok hc, show (102 :: bs s) = [102] ++ bs s from rfl, ← mk_append]; exact congrArg (mk [102] ++ ·) (mk_tx s))
    have hz : s.size ≤ 40 := by
      have := hc
      unfold contV at this
      rw [Bool.and_eq_true, decide_eq_true_eq, size_bs] at this; exact this.2
    have hq := str_add (x := ⟨#[102]⟩) (y := s) (by decide) (by omega)
    rw [hc] at hCV
    have HCV := Lib.hid hCV
    clear hCV hc
    go_enter Tryd.func88, Tryd.ntmps88
    go_wp2_with (go_at_call 82; refine (HCV.out _).mono ?_; rintro e w' ⟨rfl, rfl⟩)
    go_ret
    rw [HE.out]; exact ⟨rfl, rfl⟩
theorem sl10_all (A : Option Addr) (c : Nat) (l : List Pc) (hcz : A = none → c = 0) (hle : l.length ≤ c) (hv : storeV l = true) (leaf : Int) : ∀ (n : Nat) (pl : List ByteArray), pl.length ≤ n → ∀ (a : Option Int) (PA : Option Addr) (pc : Nat) (w : World), L10 A c l leaf a PA pc pl w
  | n, [], hn, a, PA, pc, w => sl10_nil A c l hcz hle leaf a PA pc w
  | 0, x :: r, hn, a, PA, pc, w => by simp at hn
  | n + 1, x :: r, hn, a, PA, pc, w => sl10_step A c l hcz hle hv leaf (x :: r) (by simp) (fun a2 PA2 pc2 w2 => sl10_all A c l hcz hle hv leaf n ((x :: r).drop 1) (by simpa using hn) a2 PA2 pc2 w2) a PA pc w
theorem writeA_bad {s : List Pc} {root : Int} {path c : Bs} (h : storeV s = false ∨ contV c = false ∨ pathP path = none ∨ pathP path = some []) : writeA s root path c = ([], -1, false) := by
  unfold writeA
  rcases h with h | h | h | h
  · rw [h]; rfl
  · rw [h, Bool.and_false]; rfl
  · rw [h]; split <;> rename_i h2 <;> first | rfl | (split at h2 <;> cases h2)
  · rw [h]; split <;> rename_i h2 <;> first | rfl | (split at h2 <;> cases h2)
theorem writeA_good {s : List Pc} {root : Int} {path c n : Bs} {r : List Bs} (hs : storeV s = true) (hc : contV c = true) (hp : pathP path = some (n :: r)) :
    writeA s root path c = match (setP s (some root) (n :: r) (prOf (fileT c))).bind (fun x => if (putT x.1 (mk (fileT c))).2.2 then some ((putT x.1 (mk (fileT c))).1, x.2) else none) with | some x => (x.1, x.2, true) | none => (s, root, false) := by
  unfold writeA
  rw [hs, hc, Bool.true_and, if_pos rfl, hp]
  show (match writeP s root (n :: r) c with | some x => (x.1, x.2, true) | none => (s, root, false)) = _
  rw [writeP_set hs]
theorem dropA_bad {s : List Pc} {root : Int} {path : Bs} (h : storeV s = false ∨ pathP path = none ∨ pathP path = some []) : dropA s root path = ([], -1, false) := by
  unfold dropA
  rcases h with h | h | h
  · rw [h]; rfl
  · rw [h]; split <;> rename_i h2 <;> first | rfl | (split at h2 <;> cases h2)
  · rw [h]; split <;> rename_i h2 <;> first | rfl | (split at h2 <;> cases h2)
theorem dropA_nowalk {s : List Pc} {root : Int} {path n : Bs} {r : List Bs} (hs : storeV s = true) (hp : pathP path = some (n :: r)) (hw : (walkP s root (n :: r)).isSome = false) : dropA s root path = (s, root, false) := by
  unfold dropA dropP
  rw [hs, if_pos rfl, hp]
  simp only
  rw [if_neg (by rw [hw]; simp)]
theorem dropA_good {s : List Pc} {root : Int} {path n : Bs} {r : List Bs} (hs : storeV s = true) (hp : pathP path = some (n :: r)) (hw : (walkP s root (n :: r)).isSome = true) :
    dropA s root path = match (dropS s (foldsD s root (n :: r)) (n :: r)).bind (fun x => if x.2 < 0 then (if (putT x.1 (mk (foldT []))).2.2 then some ((putT x.1 (mk (foldT []))).1, prOf (foldT [])) else none) else some x) with | some x => (x.1, x.2, true) | none => (s, root, false) := by
  unfold dropA
  rw [hs, if_pos rfl, hp]
  show (match dropP s root (n :: r) with | some x => (x.1, x.2, true) | none => (s, root, false)) = _
  rw [dropP_S hw]
theorem map_tx_mk (ps : List Bs) : (ps.map mk).map tx = ps := by rw [List.map_map]; exact (List.map_congr_left fun x _ => rfl).trans (List.map_id _)
theorem wordB_size {p : Bs} (h : wordV p = true) : p.length ≤ 8 := by
  unfold wordV at h
  rw [Bool.and_eq_true, Bool.and_eq_true, decide_eq_true_eq] at h; omega
theorem parts_size {s : Bs} {ps : List Bs} (h : pathP s = some ps) : ∀ x ∈ ps.map mk, x.size ≤ 8 := fun x hx => by
  obtain ⟨y, hy, rfl⟩ := List.mem_map.1 hx
  rw [mk_size]; exact wordB_size ((partsV_iff.1 (pathP_join h).1).2 y hy)
set_option maxHeartbeats 2000000 in
set_option maxRecDepth 100000 in
theorem sWriteAt_any (A : Option Addr) (c : Nat) (l : List Pc) (root : Int) (path content : ByteArray) (w : World) (hs : Sl w encP 2 A l) (hcz : A = none → c = 0) (hle : l.length ≤ c) (hl : l.length ≤ 16777216) (hf : FitP l) (hp : path.size ≤ 1048576) (hct : content.size ≤ 1048576) :
    Calls Tryd.prog 65 #[.slice A l.length c, .int .i64 root, .string path, .string content] w (PutRes (writeA l root (bs path) (bs content)) w) := by
  have HS := Lib.hid hs
  have HC := Lib.hid hcz
  have HP := Lib.hid (fun w => sPathParts_any path w hp)
  have hSV := fun w h => sStoreValid_any A c l w h hl hf
  have hCV := fun w => sContentValid_any content w (by omega)
  unfold PathR at HP
  unfold PutRes
  clear hs
  cases hv : storeV l
  · have HR := Lib.hid (writeA_bad (root := root) (path := bs path) (c := bs content) (.inl hv))
    rw [hv] at hSV
    have HSV := Lib.hid hSV
    clear hSV hv
    generalize pathP (bs path) = PP at *
    generalize writeA l root (bs path) (bs content) = R at *
    generalize hpl : (PP.getD []).map mk = pl at *
    clear hpl
    generalize PP.isSome = ok at *
    go_enter Tryd.func65, Tryd.ntmps65
    go_wp2_with fail
    refine (HP.out _).mono ?_
    rintro e w1 ⟨v1, rfl, hown, hb⟩
    obtain ⟨PA, pc, rfl, hple, hps, _⟩ := hown.sl
    have HB := Lib.hid hb
    have HPS := Lib.hid hps
    have HS1 := Lib.hid (HS.out.below hb)
    clear hb hown hps
    go_wp2_with fail
    refine (HSV.out _ HS1.out).mono ?_
    rintro e w2 ⟨rfl, hb⟩
    replace HB := Lib.hid (Below_then HB.out hb (Nat.le_refl _))
    replace HPS := Lib.hid (HPS.out.below hb)
    have HS2 := Lib.hid (HS1.out.below hb)
    clear hb
    go_wp2
    go_ret3
    rw [HR.out]
    exact ⟨_, rfl, Own.made HB.out.size, HB.out.alloc HB.out.size _⟩
  · rw [hv] at hSV
    have HSV := Lib.hid hSV
    clear hSV
    cases hpp : pathP (bs path) with
    | none =>
      have HR := Lib.hid (writeA_bad (s := l) (root := root) (path := bs path) (c := bs content) (.inr (.inr (.inl hpp))))
      generalize writeA l root (bs path) (bs content) = R at *
      rw [hpp] at HP
      clear hpp hv
      go_enter Tryd.func65, Tryd.ntmps65
      go_wp2_with fail
      refine (HP.out _).mono ?_
      rintro e w1 ⟨v1, rfl, hown, hb⟩
      obtain ⟨PA, pc, rfl, hple, hps, _⟩ := hown.sl
      have HB := Lib.hid hb
      have HPS := Lib.hid hps
      have HS1 := Lib.hid (HS.out.below hb)
      clear hb hown hps
      simp only [Option.isSome_none]
      go_wp2_with fail
      refine (HSV.out _ HS1.out).mono ?_
      rintro e w2 ⟨rfl, hb⟩
      replace HB := Lib.hid (Below_then HB.out hb (Nat.le_refl _))
      replace HPS := Lib.hid (HPS.out.below hb)
      have HS2 := Lib.hid (HS1.out.below hb)
      clear hb
      go_wp2
      go_ret3
      rw [HR.out]
      exact ⟨_, rfl, Own.made HB.out.size, HB.out.alloc HB.out.size _⟩
    | some ps =>
      cases ps with
      | nil =>
        have HR := Lib.hid (writeA_bad (s := l) (root := root) (path := bs path) (c := bs content) (.inr (.inr (.inr hpp))))
        generalize writeA l root (bs path) (bs content) = R at *
        rw [hpp, Option.getD_some, List.map_nil, Option.isSome_some] at HP
        clear hpp hv
        go_enter Tryd.func65, Tryd.ntmps65
        go_wp2_with fail
        refine (HP.out _).mono ?_
        rintro e w1 ⟨v1, rfl, hown, hb⟩
        obtain ⟨PA, pc, rfl, hple, hps, _⟩ := hown.sl
        have HB := Lib.hid hb
        have HPS := Lib.hid hps
        have HS1 := Lib.hid (HS.out.below hb)
        clear hb hown hps
        simp only [List.length_nil]
        go_wp2_with fail
        refine (HSV.out _ HS1.out).mono ?_
        rintro e w2 ⟨rfl, hb⟩
        replace HB := Lib.hid (Below_then HB.out hb (Nat.le_refl _))
        replace HPS := Lib.hid (HPS.out.below hb)
        have HS2 := Lib.hid (HS1.out.below hb)
        clear hb
        go_wp2
        go_ret3
        rw [HR.out]
        exact ⟨_, rfl, Own.made HB.out.size, HB.out.alloc HB.out.size _⟩
      | cons n r =>
        cases hcv : contV (bs content)
        · have HR := Lib.hid (writeA_bad (s := l) (root := root) (path := bs path) (c := bs content) (.inr (.inl hcv)))
          generalize writeA l root (bs path) (bs content) = R at *
          rw [hcv] at hCV
          have HCV := Lib.hid hCV
          rw [hpp, Option.getD_some, Option.isSome_some] at HP
          have hpz : 0 < ((n :: r).map mk).length := by simp
          generalize (n :: r).map mk = pl at *
          have hpz' : ((pl.length : Int) == 0) = false := by rw [beq_eq_false_iff_ne]; omega
          clear hpp hv hcv hCV
          go_enter Tryd.func65, Tryd.ntmps65
          go_wp2_with fail
          refine (HP.out _).mono ?_
          rintro e w1 ⟨v1, rfl, hown, hb⟩
          obtain ⟨PA, pc, rfl, hple, hps, _⟩ := hown.sl
          have HB := Lib.hid hb
          have HPS := Lib.hid hps
          have HS1 := Lib.hid (HS.out.below hb)
          clear hb hown hps
          go_wp2_with fail
          refine (HSV.out _ HS1.out).mono ?_
          rintro e w2 ⟨rfl, hb⟩
          replace HB := Lib.hid (Below_then HB.out hb (Nat.le_refl _))
          replace HPS := Lib.hid (HPS.out.below hb)
          have HS2 := Lib.hid (HS1.out.below hb)
          clear hb
          go_wp2_with (go_at_call 82; refine (HCV.out _).mono ?_; rintro e w' ⟨rfl, rfl⟩)
          go_ret3
          rw [HR.out]
          exact ⟨_, rfl, Own.made HB.out.size, HB.out.alloc HB.out.size _⟩
        · have hgood := writeA_good (root := root) hv hcv hpp
          have hl40 := storeV_len hv
          have HFL := Lib.hid (fun w => sFileText_any content w (by omega))
          have hfz : (fileT (bs content)).length ≤ 60 := by have := fileT_text hcv; unfold textV at this; rw [Bool.and_eq_true, decide_eq_true_eq] at this; exact this.1
          have hfz2 : (mk (fileT (bs content))).size ≤ 60 := by rw [mk_size]; exact hfz
          have hPR := fun w => sPrintOf_any (mk (fileT (bs content))) w (by rw [mk_size]; omega)
          rw [show bs (mk (fileT (bs content))) = fileT (bs content) from rfl] at hPR
          have hSZ := parts_size hpp
          have hL10 := fun PA pc w (h0 : 0 ≤ root) h1 h2 h3 => sl10_all A c l hcz hle hv (prOf (fileT (bs content))) _ ((n :: r).map mk) (Nat.le_refl _) (some root) PA pc w (fun q h => by injection h with h; omega) h1 h2 h3 hSZ
          rw [map_tx_mk] at hL10
          have HS0 := Lib.hid (fun x h => @setP_valid l (some root) (n :: r) (prOf (fileT (bs content))) x hv h)
          have HNR := Lib.hid (show getT l root = none → setP l (some root) (n :: r) (prOf (fileT (bs content))) = none from fun h => by
            rw [setP_cons, show listAt l (some root) = none from by show folderOf l root = none; unfold folderOf; rw [h]; rfl]; rfl)
          have HRT := Lib.hid (fun (t : ByteArray) (h : getT l root = some t) => (getT_valid hv (p := root) h).2.2)
          rw [hcv] at hCV
          have HCV := Lib.hid hCV
          rw [hpp, Option.getD_some, Option.isSome_some] at HP
          have hpz : 0 < ((n :: r).map mk).length := by simp
          generalize writeA l root (bs path) (bs content) = R at *
          generalize (n :: r).map mk = pl at *
          have hpz' : ((pl.length : Int) == 0) = false := by rw [beq_eq_false_iff_ne]; omega
          have hG := fun w h => sl4Get_any A c l root w h hl
          generalize mk (fileT (bs content)) = FT at *
          generalize prOf (fileT (bs content)) = leaf at *
          have HFP := Lib.hid (fun B d xs w h1 h2 h3 h4 h5 => sPutText_any B d xs FT w h1 h2 h3 h4 h5 (by omega))
          generalize setP l (some root) (n :: r) leaf = S at *
          have HGOOD := Lib.hid hgood
          have HPR := Lib.hid hPR
          have HL10 := Lib.hid hL10
          clear hpp hv hcv hCV hgood hPR hL10 hSZ hfz
          go_enter Tryd.func65, Tryd.ntmps65
          go_wp2_with fail
          refine (HP.out _).mono ?_
          rintro e w1 ⟨v1, rfl, hown, hb⟩
          obtain ⟨PA, pc, rfl, hple, hps, _⟩ := hown.sl
          have HB := Lib.hid hb
          have HPS := Lib.hid hps
          have HS1 := Lib.hid (HS.out.below hb)
          clear hb hown hps
          go_wp2_with fail
          refine (HSV.out _ HS1.out).mono ?_
          rintro e w2 ⟨rfl, hb⟩
          replace HB := Lib.hid (Below_then HB.out hb (Nat.le_refl _))
          replace HPS := Lib.hid (HPS.out.below hb)
          have HS2 := Lib.hid (HS1.out.below hb)
          clear hb
          have HCV2 := HCV
          cases hgt : getT l root with
          | none =>
            have HRN := Lib.hid (show R = (l, root, false) by rw [HGOOD.out, HNR.out hgt]; rfl)
            rw [hgt] at hG
            have HG := Lib.hid hG
            clear hG HGOOD
            go_wp2_with (first | (go_at_call 82; refine (HCV.out _).mono ?_; rintro e w' ⟨rfl, rfl⟩) | (at_builtin; refine app_pcN (w0 := w2) (l := []) rfl rfl (Own.made (Nat.le_refl _)) ((Below.refl _ _).alloc (Nat.le_refl _) _) (by simp; omega) (HS2.out.alloc _) HC.out (by rfl) (by rfl) ?_; intro v3 w3 hown3 hb3 hg3; rw [List.nil_append] at hown3; have HW3 := Lib.hid (hown3.mono HB.out.size); have HB3 := Lib.hid (Below_then HB.out hb3 (Nat.le_refl _)); have HS3 := Lib.hid (HS2.out.below hb3); have HPS3 := Lib.hid (HPS.out.below hb3); clear hown3 hb3 hg3))
            go_wp2_with (go_at_call 40; refine (HG.out _ HS3.out).mono ?_; rintro e w' ⟨rfl, rfl⟩)
            go_ret3
            rw [HRN.out]
            exact ⟨_, rfl, HW3.out, HB3.out⟩
          | some t =>
            have hr0 : 0 ≤ root := pv_nonneg (HRT.out t hgt)
            rw [hgt] at hG
            have HG := Lib.hid hG
            clear hG HNR HRT
            go_wp2_with (first | (go_at_call 82; refine (HCV.out _).mono ?_; rintro e w' ⟨rfl, rfl⟩) | (at_builtin; refine app_pcN (w0 := w2) (l := []) rfl rfl (Own.made (Nat.le_refl _)) ((Below.refl _ _).alloc (Nat.le_refl _) _) (by simp; omega) (HS2.out.alloc _) HC.out (by rfl) (by rfl) ?_; intro v3 w3 hown3 hb3 hg3; rw [List.nil_append] at hown3; have HW3 := Lib.hid (hown3.mono HB.out.size); have HB3 := Lib.hid (Below_then HB.out hb3 (Nat.le_refl _)); have HS3 := Lib.hid (HS2.out.below hb3); have HPS3 := Lib.hid (HPS.out.below hb3); clear hown3 hb3 hg3))
            go_wp2_with (first | (go_at_call 40; refine (HG.out _ HS3.out).mono ?_; rintro e w' ⟨rfl, rfl⟩) | (go_at_call 88; refine (HFL.out _).mono ?_; rintro e w' ⟨rfl, rfl⟩) | (go_at_call 25; refine (HPR.out _).mono ?_; rintro e w' ⟨rfl, rfl⟩))
            refine (HL10.out _ _ _ hr0 HS3.out HPS3.out hple).mono ?_
            rintro e w5 ⟨v5, m5, rfl, hb5, hres⟩
            replace HB3 := Lib.hid (Below_then HB3.out hb5 (Nat.le_refl _))
            replace HW3 := Lib.hid (HW3.out.below hb5)
            clear hb5
            cases S with
            | none =>
              have HRN := Lib.hid (show R = (l, root, false) from HGOOD.out)
              clear HGOOD
              simp only [Option.isSome_none]
              go_wp2
              go_ret3
              rw [HRN.out]
              exact ⟨_, rfl, HW3.out, HB3.out⟩
            | some x =>
              obtain ⟨rfl, B, d, rfl, hsB, hczB, hleB⟩ := hres x rfl
              have HSB := Lib.hid hsB
              have hvx := HS0.out x rfl
              have hlx := storeV_len hvx
              have hPT := fun w h => HFP.out B d x.1 w h hczB hleB (by omega) (fit_store hvx)
              have hgd := HGOOD.out
              rw [Option.bind_some] at hgd
              obtain ⟨xs, m⟩ := x
              simp only at *
              unfold PutRes at hPT
              have hlp := putT_len xs FT
              generalize putT xs FT = PT at *
              obtain ⟨P1, P2, P3⟩ := PT
              simp only at hPT hgd hlp
              have HPT := Lib.hid hPT
              clear hPT HGOOD HS0 hsB hres hvx
              go_wp2_with (go_at_call 88; refine (HFL.out _).mono ?_; rintro e w' ⟨rfl, rfl⟩)
              refine (HPT.out _ HSB.out).mono ?_
              rintro e wL ⟨v8, rfl, hown8, hb8⟩
              replace HB3 := Lib.hid (Below_then HB3.out hb8 (Nat.le_refl _))
              replace HW3 := Lib.hid (HW3.out.below hb8)
              obtain ⟨X, dx, rfl, hlex, hsx, _⟩ := hown8.sl
              have HSL := Lib.hid hsx
              have HCL := Lib.hid hown8.cz
              clear hown8 hb8 hsx
              cases P3
              · have HRN := Lib.hid (show R = (l, root, false) from hgd)
                clear hgd
                go_wp2
                go_ret3
                rw [HRN.out]
                exact ⟨_, rfl, HW3.out, HB3.out⟩
              · have HRY := Lib.hid (show R = (P1, m, true) from hgd)
                clear hgd
                go_wp2_with (at_builtin; refine app_pcN (w0 := wL) (l := []) rfl rfl (Own.made (Nat.le_refl _)) ((Below.refl _ _).alloc (Nat.le_refl _) _) (by simp; omega) (HSL.out.alloc _) HCL.out (by rfl) (by rfl) ?_; intro v9 w9 hown9 hb9 hg9; rw [List.nil_append] at hown9; have HW9 := Lib.hid (hown9.mono HB3.out.size); have HB9 := Lib.hid (Below_then HB3.out hb9 (Nat.le_refl _)); clear hown9 hb9 hg9)
                go_ret3
                rw [HRY.out]
                exact ⟨_, rfl, HW9.out, HB9.out⟩
set_option maxHeartbeats 2000000 in
set_option maxRecDepth 100000 in
theorem sDropAt_any (A : Option Addr) (c : Nat) (l : List Pc) (root : Int) (path : ByteArray) (w : World) (hs : Sl w encP 2 A l) (hcz : A = none → c = 0) (hle : l.length ≤ c) (hl : l.length ≤ 16777216) (hf : FitP l) (hp : path.size ≤ 1048576) :
    Calls Tryd.prog 64 #[.slice A l.length c, .int .i64 root, .string path] w (PutRes (dropA l root (bs path)) w) := by
  have HS := Lib.hid hs
  have HC := Lib.hid hcz
  have HP := Lib.hid (fun w => sPathParts_any path w hp)
  have hSV := fun w h => sStoreValid_any A c l w h hl hf
  unfold PathR at HP
  unfold PutRes
  clear hs
  cases hv : storeV l
  · have HR := Lib.hid (dropA_bad (root := root) (path := bs path) (.inl hv))
    rw [hv] at hSV
    have HSV := Lib.hid hSV
    clear hSV hv
    generalize pathP (bs path) = PP at *
    generalize dropA l root (bs path) = R at *
    generalize hpl : (PP.getD []).map mk = pl at *
    clear hpl
    generalize PP.isSome = ok at *
    go_enter Tryd.func64, Tryd.ntmps64
    go_wp2_with fail
    refine (HP.out _).mono ?_
    rintro e w1 ⟨v1, rfl, hown, hb⟩
    obtain ⟨PA, pc, rfl, hple, hps, _⟩ := hown.sl
    have HB := Lib.hid hb
    have HPS := Lib.hid hps
    have HS1 := Lib.hid (HS.out.below hb)
    clear hb hown hps
    go_wp2_with fail
    refine (HSV.out _ HS1.out).mono ?_
    rintro e w2 ⟨rfl, hb⟩
    replace HB := Lib.hid (Below_then HB.out hb (Nat.le_refl _))
    replace HPS := Lib.hid (HPS.out.below hb)
    have HS2 := Lib.hid (HS1.out.below hb)
    clear hb
    go_wp2
    go_ret3
    rw [HR.out]
    exact ⟨_, rfl, Own.made HB.out.size, HB.out.alloc HB.out.size _⟩
  · rw [hv] at hSV
    have HSV := Lib.hid hSV
    clear hSV
    cases hpp : pathP (bs path) with
    | none =>
      have HR := Lib.hid (dropA_bad (s := l) (root := root) (path := bs path) (.inr (.inl hpp)))
      generalize dropA l root (bs path) = R at *
      rw [hpp] at HP
      clear hpp hv
      go_enter Tryd.func64, Tryd.ntmps64
      go_wp2_with fail
      refine (HP.out _).mono ?_
      rintro e w1 ⟨v1, rfl, hown, hb⟩
      obtain ⟨PA, pc, rfl, hple, hps, _⟩ := hown.sl
      have HB := Lib.hid hb
      have HPS := Lib.hid hps
      have HS1 := Lib.hid (HS.out.below hb)
      clear hb hown hps
      simp only [Option.isSome_none]
      go_wp2_with fail
      refine (HSV.out _ HS1.out).mono ?_
      rintro e w2 ⟨rfl, hb⟩
      replace HB := Lib.hid (Below_then HB.out hb (Nat.le_refl _))
      replace HPS := Lib.hid (HPS.out.below hb)
      have HS2 := Lib.hid (HS1.out.below hb)
      clear hb
      go_wp2
      go_ret3
      rw [HR.out]
      exact ⟨_, rfl, Own.made HB.out.size, HB.out.alloc HB.out.size _⟩
    | some ps =>
      cases ps with
      | nil =>
        have HR := Lib.hid (dropA_bad (s := l) (root := root) (path := bs path) (.inr (.inr hpp)))
        generalize dropA l root (bs path) = R at *
        rw [hpp, Option.getD_some, List.map_nil, Option.isSome_some] at HP
        clear hpp hv
        go_enter Tryd.func64, Tryd.ntmps64
        go_wp2_with fail
        refine (HP.out _).mono ?_
        rintro e w1 ⟨v1, rfl, hown, hb⟩
        obtain ⟨PA, pc, rfl, hple, hps, _⟩ := hown.sl
        have HB := Lib.hid hb
        have HPS := Lib.hid hps
        have HS1 := Lib.hid (HS.out.below hb)
        clear hb hown hps
        simp only [List.length_nil]
        go_wp2_with fail
        refine (HSV.out _ HS1.out).mono ?_
        rintro e w2 ⟨rfl, hb⟩
        replace HB := Lib.hid (Below_then HB.out hb (Nat.le_refl _))
        replace HPS := Lib.hid (HPS.out.below hb)
        have HS2 := Lib.hid (HS1.out.below hb)
        clear hb
        go_wp2
        go_ret3
        rw [HR.out]
        exact ⟨_, rfl, Own.made HB.out.size, HB.out.alloc HB.out.size _⟩
      | cons n r =>
        have hl40 := storeV_len hv
        have hSZ := parts_size hpp
        have hpl3 : ((n :: r).map mk).length ≤ 3 := by rw [List.length_map]; exact (partsV_iff.1 (pathP_join hpp).1).1
        have hWK := fun PA pc w h1 h2 => sl9Walk_any A PA c pc l ((n :: r).map mk) root w h1 h2 hv hpl3
        have hwe : walkB l root (((n :: r).map mk).drop 0) = walkP l root (n :: r) := by rw [List.drop_zero]; unfold walkB; rw [map_tx_mk]
        rw [hwe] at hWK
        unfold WkRes at hWK
        have hD10 := fun PA pc w h1 h2 h3 h4 => sl10d_all A c l hcz hle hv r.length ((n :: r).map mk) (by simp) root PA pc w h1 h2 h3 h4 hSZ
        rw [map_tx_mk] at hD10
        have HS0 := Lib.hid (fun x h => @dropS_valid l (foldsD l root (n :: r)) (n :: r) x hv h)
        have HNW := Lib.hid (fun h => dropA_nowalk (root := root) hv hpp h)
        have HGW := Lib.hid (fun h => dropA_good (root := root) hv hpp h)
        rw [hpp, Option.getD_some, Option.isSome_some] at HP
        have hpz : 0 < ((n :: r).map mk).length := by simp
        generalize dropA l root (bs path) = R at *
        generalize (n :: r).map mk = pl at *
        generalize dropS l (foldsD l root (n :: r)) (n :: r) = S at *
        generalize walkP l root (n :: r) = WK at *
        have hpz' : ((pl.length : Int) == 0) = false := by rw [beq_eq_false_iff_ne]; omega
        have HD10 := Lib.hid hD10
        clear hpp hv hD10 hSZ hwe
        go_enter Tryd.func64, Tryd.ntmps64
        go_wp2_with fail
        refine (HP.out _).mono ?_
        rintro e w1 ⟨v1, rfl, hown, hb⟩
        obtain ⟨PA, pc, rfl, hple, hps, _⟩ := hown.sl
        have HB := Lib.hid hb
        have HPS := Lib.hid hps
        have HS1 := Lib.hid (HS.out.below hb)
        clear hb hown hps
        go_wp2_with fail
        refine (HSV.out _ HS1.out).mono ?_
        rintro e w2 ⟨rfl, hb⟩
        replace HB := Lib.hid (Below_then HB.out hb (Nat.le_refl _))
        replace HPS := Lib.hid (HPS.out.below hb)
        have HS2 := Lib.hid (HS1.out.below hb)
        clear hb
        cases WK with
        | none =>
          have HRN := Lib.hid (HNW.out rfl)
          have HWK := Lib.hid hWK
          clear hWK HNW HGW
          simp only [Option.isSome_none] at HWK
          go_wp2_with (at_builtin; refine app_pcN (w0 := w2) (l := []) rfl rfl (Own.made (Nat.le_refl _)) ((Below.refl _ _).alloc (Nat.le_refl _) _) (by simp; omega) (HS2.out.alloc _) HC.out (by rfl) (by rfl) ?_; intro v3 w3 hown3 hb3 hg3; rw [List.nil_append] at hown3; have HW3 := Lib.hid (hown3.mono HB.out.size); have HB3 := Lib.hid (Below_then HB.out hb3 (Nat.le_refl _)); have HS3 := Lib.hid (HS2.out.below hb3); have HPS3 := Lib.hid (HPS.out.below hb3); clear hown3 hb3 hg3)
          refine (HWK.out _ _ _ HS3.out HPS3.out).mono ?_
          rintro e w4 ⟨rfl, hb4⟩
          replace HB3 := Lib.hid (Below_then HB3.out hb4 (Nat.le_refl _))
          replace HW3 := Lib.hid (HW3.out.below hb4)
          clear hb4
          go_wp2
          go_ret3
          rw [HRN.out]
          exact ⟨_, rfl, HW3.out, HB3.out⟩
        | some wq =>
          have HGOOD := Lib.hid (HGW.out rfl)
          have HWK := Lib.hid hWK
          clear hWK HNW HGW
          simp only [Option.isSome_some, Option.getD_some] at HWK
          go_wp2_with (at_builtin; refine app_pcN (w0 := w2) (l := []) rfl rfl (Own.made (Nat.le_refl _)) ((Below.refl _ _).alloc (Nat.le_refl _) _) (by simp; omega) (HS2.out.alloc _) HC.out (by rfl) (by rfl) ?_; intro v3 w3 hown3 hb3 hg3; rw [List.nil_append] at hown3; have HW3 := Lib.hid (hown3.mono HB.out.size); have HB3 := Lib.hid (Below_then HB.out hb3 (Nat.le_refl _)); have HS3 := Lib.hid (HS2.out.below hb3); have HPS3 := Lib.hid (HPS.out.below hb3); clear hown3 hb3 hg3)
          refine (HWK.out _ _ _ HS3.out HPS3.out).mono ?_
          rintro e w4 ⟨rfl, hb4⟩
          replace HB3 := Lib.hid (Below_then HB3.out hb4 (Nat.le_refl _))
          replace HW3 := Lib.hid (HW3.out.below hb4)
          replace HS3 := Lib.hid (HS3.out.below hb4)
          replace HPS3 := Lib.hid (HPS3.out.below hb4)
          clear hb4
          go_wp2_with fail
          refine (HD10.out _ _ _ rfl HS3.out HPS3.out hple).mono ?_
          rintro e wL ⟨v5, m5, rfl, hb5, hres⟩
          replace HB3 := Lib.hid (Below_then HB3.out hb5 (Nat.le_refl _))
          replace HW3 := Lib.hid (HW3.out.below hb5)
          clear hb5
          cases S with
          | none =>
            have HRN := Lib.hid (show R = (l, root, false) from HGOOD.out)
            clear HGOOD
            simp only [Option.isSome_none]
            go_wp2
            go_ret3
            rw [HRN.out]
            exact ⟨_, rfl, HW3.out, HB3.out⟩
          | some x =>
            obtain ⟨rfl, B, d, rfl, hsB, hczB, hleB⟩ := hres x rfl
            have HSB := Lib.hid hsB
            have hvx := HS0.out x rfl
            have hlx := storeV_len hvx
            have hgd := HGOOD.out
            rw [Option.bind_some] at hgd
            obtain ⟨xs, m⟩ := x
            simp only at *
            clear HGOOD HS0 hsB hres
            simp only [Option.isSome_some]
            by_cases hm : m < 0
            · rw [if_pos hm] at hgd
              have hER := fun w h => sEmptyRoot_any B d xs w h hczB hleB (by omega) (fit_store hvx)
              unfold PutRes foldE at hER
              have hlp := putT_len xs (mk (foldT []))
              have HE2 := Lib.hid (fun h => (putT_ok (l := xs) (t := mk (foldT [])) h).2.2)
              rw [show prOf (tx (mk (foldT []))) = prOf (foldT []) from rfl] at HE2
              generalize mk (foldT []) = FE at *
              generalize prOf (foldT []) = FR at *
              generalize putT xs FE = PT at *
              obtain ⟨P1, P2, P3⟩ := PT
              simp only at hER hgd hlp HE2
              have HER := Lib.hid hER
              clear hER hvx
              go_wp2_with fail
              refine (HER.out _ HSB.out).mono ?_
              rintro e wL ⟨v8, rfl, hown8, hb8⟩
              replace HB3 := Lib.hid (Below_then HB3.out hb8 (Nat.le_refl _))
              replace HW3 := Lib.hid (HW3.out.below hb8)
              obtain ⟨X, dx, rfl, hlex, hsx, _⟩ := hown8.sl
              have HSL := Lib.hid hsx
              have HCL := Lib.hid hown8.cz
              clear hown8 hb8 hsx
              cases P3
              · have HRN := Lib.hid (show R = (l, root, false) from hgd)
                clear hgd
                go_wp2
                go_ret3
                rw [HRN.out]
                exact ⟨_, rfl, HW3.out, HB3.out⟩
              · have HRY := Lib.hid (show R = (P1, P2, true) by rw [HE2.out rfl]; exact hgd)
                clear hgd
                go_wp2_with (at_builtin; refine app_pcN (w0 := wL) (l := []) rfl rfl (Own.made (Nat.le_refl _)) ((Below.refl _ _).alloc (Nat.le_refl _) _) (by simp; omega) (HSL.out.alloc _) HCL.out (by rfl) (by rfl) ?_; intro v9 w9 hown9 hb9 hg9; rw [List.nil_append] at hown9; have HW9 := Lib.hid (hown9.mono HB3.out.size); have HB9 := Lib.hid (Below_then HB3.out hb9 (Nat.le_refl _)); clear hown9 hb9 hg9)
                go_ret3
                rw [HRY.out]
                exact ⟨_, rfl, HW9.out, HB9.out⟩
            · rw [if_neg hm] at hgd
              have HRY := Lib.hid (show R = (xs, m, true) from hgd)
              have HSL := HSB
              have HCL := Lib.hid hczB
              clear hgd hvx
              go_wp2_with (at_builtin; refine app_pcN (w0 := wL) (l := []) rfl rfl (Own.made (Nat.le_refl _)) ((Below.refl _ _).alloc (Nat.le_refl _) _) (by simp; omega) (HSL.out.alloc _) HCL.out (by rfl) (by rfl) ?_; intro v9 w9 hown9 hb9 hg9; rw [List.nil_append] at hown9; have HW9 := Lib.hid (hown9.mono HB3.out.size); have HB9 := Lib.hid (Below_then HB3.out hb9 (Nat.le_refl _)); clear hown9 hb9 hg9)
              go_ret3
              rw [HRY.out]
              exact ⟨_, rfl, HW9.out, HB9.out⟩
end Go.Proofs.YtaghiefokmapmaaDoor

/- Lines of archives: what stays, what is read back. Plain Lean, no program in sight. -/
set_option linter.unusedVariables false
namespace Go.Proofs.YtaghiefokmapmaaDoor
theorem archV_iff {a : Ar} : archV a = true ↔ storeV a.ps = true ∧ versV a.vs = true ∧ (folderOf a.ps a.op).isSome = true ∧ ∀ v ∈ a.vs, (folderOf a.ps v.1).isSome = true := by
  unfold archV
  simp only [Bool.and_eq_true, List.all_eq_true]
theorem archV_chg {a : Ar} {s : List Pc} {r : Int} (ha : archV a = true) (h : Chg a.ps s r) : archV ⟨s, r, a.vs⟩ = true := by
  obtain ⟨h1, h2, h3, h4⟩ := archV_iff.1 ha
  refine archV_iff.2 ⟨h.valid, h2, h.root, fun v hv => ?_⟩
  obtain ⟨l, hl⟩ := Option.isSome_iff_exists.1 (h4 v hv)
  rw [h.keep.fold hl]; rfl
theorem addV_ok {l l' : List Vr} {v : Vr} (h : addV l v = (l', true)) : l' = l ++ [v] ∧ versV (l ++ [v]) = true := by
  unfold addV at h
  split at h
  · split at h
    · rename_i h2
      injection h with h3 h4
      exact ⟨h3.symm, h2⟩
    · simp at h
  · simp at h
theorem addV_no {l : List Vr} {v : Vr} (hv : versV l = true) (h : (addV l v).2 = false) : addV l v = (l, false) := by
  unfold addV at h ⊢
  rw [hv, if_pos rfl] at h ⊢
  split at h
  · cases h
  · rename_i h2; rw [if_neg h2]
/-- What a line leaves. -/
structure LineOk (a x : Ar) (ans : Bs) : Prop where
  valid : archV x = true
  keep : Keep a.ps x.ps
  vers : ∃ r, x.vs = a.vs ++ r
  same : ans = wOk ∨ x = a
  some : ans ≠ []
theorem LineOk.same_no {a : Ar} {ans : Bs} (ha : archV a = true) (h : ans ≠ []) : LineOk a a ans := ⟨ha, Keep.refl _, ⟨[], by simp⟩, .inr rfl, h⟩
theorem wOk_ne : wOk ≠ [] := by decide
theorem wNo_ne : wNo ≠ [] := by decide
/-! ### paths of files -/
theorem filesP_mem {s : List Pc} : ∀ (f : Nat) (p : Int) (ps : List Bs), (∀ q ∈ ps, wordV q = true) → ps.length + f ≤ 3 → ∀ x ∈ filesP s f p ps,
    ∃ qs q, qs ≠ [] ∧ partsV (ps ++ qs) = true ∧ x = joinP (ps ++ qs) ∧ walkP s p qs = some q ∧ (fileOf s q).isSome = true
  | 0, _, _, _, _, x, hx => by cases hx
  | f + 1, p, ps, hw, hl, x, hx => by
    rw [filesP_succ] at hx
    obtain ⟨e, he, hx⟩ := List.mem_flatMap.1 hx
    cases hf : folderOf s p with
    | none => rw [hf] at he; cases he
    | some l =>
      rw [hf, Option.getD_some] at he
      have hv := folder_valid hf
      have hg : getE l (tx e.1) = some e.2 := getE_mem (entsV_sorted hv) (show (mk (tx e.1), e.2) ∈ l by rw [mk_tx]; exact he)
      have hwe := (entOk_iff.1 (entsV_ok hv he)).1
      have hw2 : ∀ q ∈ ps ++ [tx e.1], wordV q = true := fun q hq => by
        rw [List.mem_append, List.mem_singleton] at hq
        rcases hq with hq | rfl
        · exact hw q hq
        · exact hwe
      unfold stepF at hx
      split at hx
      · rename_i hfi
        rw [List.mem_singleton] at hx
        refine ⟨[tx e.1], e.2, by simp, partsV_iff.2 ⟨by simp; omega, hw2⟩, hx, ?_, hfi⟩
        rw [walkP, hf, Option.bind_some, hg, Option.bind_some, walkP, if_pos (file_there hfi)]
      · obtain ⟨qs, q, h1, h2, h3, h4, h5⟩ := filesP_mem f e.2 (ps ++ [tx e.1]) hw2 (by simp; omega) x hx
        rw [List.append_assoc] at h2 h3
        refine ⟨tx e.1 :: qs, q, by simp, h2, h3, ?_, h5⟩
        rw [walkP, hf, Option.bind_some, hg, Option.bind_some]; exact h4
theorem allF_mem {s : List Pc} {root : Int} {x : Bs} (hx : x ∈ allF s root) : storeV s = true ∧ ∃ qs q, qs ≠ [] ∧ partsV qs = true ∧ x = joinP qs ∧ walkP s root qs = some q ∧ (fileOf s q).isSome = true := by
  unfold allF at hx
  split at hx
  · rename_i hs
    obtain ⟨qs, q, h1, h2, h3, h4, h5⟩ := filesP_mem 3 root [] (by simp) (by simp) x hx
    exact ⟨hs, qs, q, h1, by simpa using h2, by simpa using h3, h4, h5⟩
  · cases hx
theorem joinP_ne (ps : List Bs) (h : partsV ps = true) : joinP ps ≠ [] := by
  unfold joinP
  rw [if_pos h]
  cases ps with
  | nil => simp
  | cons p r => simp [joinB]
theorem allF_ne {s : List Pc} {root : Int} {x : Bs} (hx : x ∈ allF s root) : x ≠ [] := by
  obtain ⟨_, qs, q, _, h2, rfl, _⟩ := allF_mem hx
  exact joinP_ne qs h2
theorem allF_path {s : List Pc} {root : Int} {x : Bs} (hx : x ∈ allF s root) : (pathP x).isSome = true := by
  obtain ⟨_, qs, q, _, h2, rfl, _⟩ := allF_mem hx
  rw [pathP_of h2]; rfl
theorem joinW_ne {c : Bs} {l : List Bs} (h : l ≠ []) (hl : ∀ x ∈ l, x ≠ []) : joinW c l ≠ [] := by
  cases l with
  | nil => exact absurd rfl h
  | cons p r =>
    have hp := hl p (by simp)
    cases r with
    | nil => exact hp
    | cons q r =>
      show p ++ c ++ joinW c (q :: r) ≠ []
      cases p with
      | nil => exact absurd rfl hp
      | cons => simp
theorem filesAns_ne (a : Ar) : filesAns a ≠ [] := by
  unfold filesAns
  split
  · simp
  · rename_i h; exact joinW_ne h fun x hx => allF_ne hx
/-! ### a line -/
theorem lineA_ok {a : Ar} (ha : archV a = true) (ws : List Bs) : LineOk a (lineA a ws).1 (lineA a ws).2 := by
  have hno := LineOk.same_no ha wNo_ne
  have hstay : ∀ {s r}, Chg a.ps s r → LineOk a ⟨s, r, a.vs⟩ wOk := fun h => ⟨archV_chg ha h, h.keep, ⟨[], by simp⟩, .inl rfl, wOk_ne⟩
  obtain ⟨h1, h2, h3, h4⟩ := archV_iff.1 ha
  unfold lineA
  split
  · rename_i x p c
    split
    · split
      · rename_i s r hw; exact hstay (write_chg hw)
      · exact hno
    · exact hno
  · rename_i x p
    split
    · split
      · rename_i s r hw; exact hstay (drop_chg hw)
      · exact hno
    split
    · split
      · rename_i v hv
        obtain ⟨rfl, hv2⟩ := addV_ok hv
        refine ⟨archV_iff.2 ⟨h1, hv2, h3, fun v hv => ?_⟩, Keep.refl _, ⟨_, rfl⟩, .inl rfl, wOk_ne⟩
        rcases List.mem_append.1 hv with hv | hv
        · exact h4 v hv
        · rw [List.mem_singleton] at hv; subst hv; exact h3
      · exact hno
    split
    · split
      · rename_i hb
        have hk : (readH p).toNat < a.vs.length := by omega
        have e : a.vs.getD (readH p).toNat (0, 0, ⟨#[]⟩) = a.vs[(readH p).toNat] := by rw [List.getD_eq_getElem?_getD, List.getElem?_eq_getElem hk]; rfl
        refine ⟨archV_iff.2 ⟨h1, h2, ?_, h4⟩, Keep.refl _, ⟨[], by simp⟩, .inl rfl, wOk_ne⟩
        show (folderOf a.ps (a.vs.getD (readH p).toNat (0, 0, ⟨#[]⟩)).1).isSome = true
        rw [e]; exact h4 _ (List.getElem_mem hk)
      · exact hno
    split
    · split
      · exact LineOk.same_no ha (by simp)
      · exact hno
    · exact hno
  · rename_i x
    split
    · exact LineOk.same_no ha (filesAns_ne a)
    · exact hno
  · exact hno
theorem archL_ok {a : Ar} (ha : archV a = true) (line : Bs) : LineOk a (archL a line).1 (archL a line).2 := by
  unfold archL
  rw [if_pos ha]; exact lineA_ok ha _
theorem archL_bad {a : Ar} (ha : archV a = false) (line : Bs) : archL a line = (⟨[], 0, []⟩, []) := by
  unfold archL; rw [ha]; rfl
theorem all_true {α : Type} (l : List α) : ∀ x ∈ l, True := fun _ _ => trivial
theorem lineA_good {N : Bs → Prop} {a : Ar} (hN : ∀ n, N n) (hg : Good N a.ps) (ws : List Bs) : Good N (lineA a ws).1.ps := by
  unfold lineA
  split
  · split
    · split
      · rename_i s r hw; exact write_good hw hg fun _ _ n _ => hN n
      · exact hg
    · exact hg
  · split
    · split
      · rename_i s r hw; exact drop_good hw hg fun _ _ n _ => hN n
      · exact hg
    split
    · split <;> exact hg
    split
    · split <;> exact hg
    split
    · split <;> exact hg
    · exact hg
  · split <;> exact hg
  · exact hg
theorem archL_good {N : Bs → Prop} {a : Ar} (hN : ∀ n, N n) (hg : Good N a.ps) (line : Bs) : Good N (archL a line).1.ps := by
  unfold archL
  split
  · exact lineA_good hN hg _
  · exact good_nil N
/-! ### written words are read -/
theorem readBack {s s' : List Pc} {root r' : Int} {path c n : Bs} (hp : pathP path = some [n]) (h : writeA s root path c = (s', r', true)) : readAt s' r' path = some c := by
  have hch := write_chg h
  obtain ⟨hs, hc, m, r, fs, x, hpp, hf, hx, hput, rfl⟩ := writeA_ok h
  rw [hp] at hpp
  injection hpp with hpp
  injection hpp with e1 e2
  subst e1 e2
  obtain ⟨l, fs', hl, hf2, rfl, _⟩ := foldsW_top hf
  rw [foldsW] at hf2
  injection hf2 with hf2
  subst hf2
  obtain ⟨y, hy, hpe, rfl⟩ := upT_top hx
  have hy : some (([] : List ByteArray), prOf (fileT c)) = some y := hy
  injection hy with hy
  subst hy
  obtain ⟨g1, g2, g3⟩ := putE_ok hpe
  have hfo := folder_put hs hput (l := (putE l (mk n, prOf (fileT c))).1) (by simp) g2
  have hfi := file_put hs hput (c := c) (by simp) hc
  have hge : getE (putE l (mk n, prOf (fileT c))).1 n = some (prOf (fileT c)) := by
    refine getE_mem (entsV_sorted g2) ?_
    rw [g3]
    exact (mem_insE (entsV_sorted g1) _ _).2 (.inl rfl)
  unfold readAt walkTo
  rw [if_pos hch.valid, hp, Option.bind_some, walkP, hfo, Option.bind_some, hge, Option.bind_some, walkP, if_pos (file_there (by rw [hfi]; rfl)), Option.bind_some, hfi]
def pathQ : Bs := [47, 113]
def lineWrite : Bs := [119, 114, 105, 116, 101, 32, 47, 113, 32, 119, 111, 114, 100]
def lineRead : Bs := [114, 101, 97, 100, 32, 47, 113]
def wWord : Bs := [119, 111, 114, 100]
theorem readBackL {a : Ar} (h : (archL a lineWrite).2 = wOk) : archL (archL a lineWrite).1 lineRead = ((archL a lineWrite).1, 61 :: wWord) := by
  cases ha : archV a
  · rw [archL_bad ha] at h; cases h
  have hok := archL_ok ha lineWrite
  have e1 : splitS 32 lineWrite = [wWrite, pathQ, wWord] := by decide
  have e2 : splitS 32 lineRead = [wRead, pathQ] := by decide
  have hl : archL a lineWrite = lineA a [wWrite, pathQ, wWord] := by unfold archL; rw [if_pos ha, e1]
  rw [hl] at h hok ⊢
  have hx : ∀ x : Ar, archV x = true → archL x lineRead = lineA x [wRead, pathQ] := fun x hx => by unfold archL; rw [if_pos hx, e2]
  rw [hx _ hok.valid]
  have hw : lineA a [wWrite, pathQ, wWord] = match writeA a.ps a.op pathQ wWord with | (s, r, true) => (⟨s, r, a.vs⟩, wOk) | _ => (a, wNo) := by
    rfl
  rw [hw] at h ⊢
  split at h
  · rename_i s r hwa
    have hr : readAt s r pathQ = some wWord := readBack (n := [113]) (by decide) hwa
    show lineA ⟨s, r, a.vs⟩ [wRead, pathQ] = (⟨s, r, a.vs⟩, 61 :: wWord)
    have e : lineA ⟨s, r, a.vs⟩ [wRead, pathQ] = match readAt s r pathQ with | some t => ((⟨s, r, a.vs⟩ : Ar), 61 :: t) | none => (⟨s, r, a.vs⟩, wNo) := rfl
    rw [e, hr]
  · exact absurd (show wNo = wOk from h) (by decide)
/-! ### kept versions can be opened again -/
theorem flatMap_congr' {α β : Type} {f g : α → List β} : ∀ {l : List α}, (∀ x ∈ l, f x = g x) → l.flatMap f = l.flatMap g
  | [], _ => rfl
  | x :: r, h => by rw [List.flatMap_cons, List.flatMap_cons, h x (by simp), flatMap_congr' fun y hy => h y (by simp [hy])]
theorem filesP_keep {N : Bs → Prop} {s s' : List Pc} (hg : Good N s) (hk : Keep s s') : ∀ (f : Nat) (p : Int) (ps : List Bs), (getT s p).isSome = true → filesP s' f p ps = filesP s f p ps
  | 0, _, _, _ => rfl
  | f + 1, p, ps, h => by
    rw [filesP_succ, filesP_succ, hk.fo h]
    cases hf : folderOf s p with
    | none => rfl
    | some l =>
      rw [Option.getD_some]
      refine flatMap_congr' fun e he => ?_
      have h2 := (hg p l hf e he).1
      unfold stepF
      rw [hk.fi h2, filesP_keep hg hk f e.2 _ h2]
theorem allF_keep {N : Bs → Prop} {s s' : List Pc} (hg : Good N s) (hk : Keep s s') (hs : storeV s = true) (hs' : storeV s' = true) {p : Int} (h : (getT s p).isSome = true) : allF s' p = allF s p := by
  unfold allF
  rw [if_pos hs, if_pos hs', filesP_keep hg hk 3 p [] h]
def lineKeep : Bs := [107, 101, 101, 112, 32, 104, 101, 114, 101]
def wHere : Bs := [104, 101, 114, 101]
def backTo (n : Int) : Bs := [98, 97, 99, 107, 32] ++ hexT n
theorem backTo_split : ∀ n : Nat, n < 12 → splitS 32 (backTo n) = [wBack, hexT n] := by decide
theorem versionsStay {N : Bs → Prop} {a : Ar} (hg : archV a = true → Good N a.ps) (h : (archL a lineKeep).2 = wOk) (line : Bs) :
    (archL (archL (archL a lineKeep).1 line).1 (backTo (((archL a lineKeep).1.vs.length : Int) - 1))).2 = wOk ∧
    (archL (archL (archL a lineKeep).1 line).1 (backTo (((archL a lineKeep).1.vs.length : Int) - 1))).1.op = a.op ∧
    allF (archL (archL (archL a lineKeep).1 line).1 (backTo (((archL a lineKeep).1.vs.length : Int) - 1))).1.ps a.op = allF a.ps a.op := by
  cases ha : archV a
  · rw [archL_bad ha] at h; cases h
  have hok := archL_ok ha lineKeep
  have e1 : splitS 32 lineKeep = [wKeep, wHere] := by decide
  have hl : archL a lineKeep = lineA a [wKeep, wHere] := by unfold archL; rw [if_pos ha, e1]
  have hw : lineA a [wKeep, wHere] = match addV a.vs (a.op, (a.vs.length : Int) - 1, mk wHere) with | (v, true) => (⟨a.ps, a.op, v⟩, wOk) | _ => (a, wNo) := by
    rfl
  rw [hl, hw] at h
  split at h
  · rename_i v hv
    obtain ⟨rfl, hv2⟩ := addV_ok hv
    have hx : archL a lineKeep = (⟨a.ps, a.op, a.vs ++ [(a.op, (a.vs.length : Int) - 1, mk wHere)]⟩, wOk) := by rw [hl, hw, hv]
    rw [hx] at hok ⊢
    have hy := archL_ok hok.valid line
    simp only at hy ⊢
    generalize archL ⟨a.ps, a.op, a.vs ++ [(a.op, (a.vs.length : Int) - 1, mk wHere)]⟩ line = Y at *
    obtain ⟨y, t⟩ := Y
    simp only at hy ⊢
    have hl12 := versV_len hv2
    rw [List.length_append, List.length_singleton] at hl12 ⊢
    have e0 : (((a.vs.length + 1 : Nat) : Int) - 1) = (a.vs.length : Int) := by omega
    rw [e0]
    have e3 : archL y (backTo (a.vs.length : Int)) = lineA y [wBack, hexT (a.vs.length : Int)] := by unfold archL; rw [if_pos hy.valid, backTo_split _ (by omega)]
    have hpv : pv (a.vs.length : Int) = true := by unfold pv inI; rw [decide_eq_true_eq]; omega
    obtain ⟨r, hr⟩ := hy.vers
    have hlen : a.vs.length < y.vs.length := by rw [hr, List.length_append, List.length_append, List.length_singleton]; omega
    have hget : y.vs.getD a.vs.length (0, 0, ⟨#[]⟩) = (a.op, (a.vs.length : Int) - 1, mk wHere) := by
      rw [hr, List.getD_eq_getElem?_getD]; simp
    have e4 : lineA y [wBack, hexT (a.vs.length : Int)] = (⟨y.ps, a.op, y.vs⟩, wOk) := by
      have e : lineA y [wBack, hexT (a.vs.length : Int)] = if 0 ≤ readH (hexT (a.vs.length : Int)) ∧ readH (hexT (a.vs.length : Int)) < y.vs.length then ((⟨y.ps, (y.vs.getD (readH (hexT (a.vs.length : Int))).toNat (0, 0, ⟨#[]⟩)).1, y.vs⟩ : Ar), wOk) else (y, wNo) := rfl
      rw [e, readH_hexT hpv, if_pos (by omega), Int.toNat_natCast, hget]
    rw [e3, e4]
    refine ⟨rfl, rfl, ?_⟩
    obtain ⟨h1, _, h3, _⟩ := archV_iff.1 ha
    obtain ⟨l, hl⟩ := Option.isSome_iff_exists.1 h3
    exact allF_keep (hg ha) hy.keep h1 (archV_iff.1 hy.valid).1 (folder_there hl)
  · exact absurd (show wNo = wOk from h) (by decide)
/-! ### lines follow each other -/
theorem archLs_append : ∀ (l m : List Bs) (a : Ar), archLs a (l ++ m) = ((archLs (archLs a l).1 m).1, (archLs a l).2 ++ (archLs (archLs a l).1 m).2)
  | [], m, a => rfl
  | x :: r, m, a => by
    rw [List.cons_append, archLs, archLs_append r m, archLs]; rfl
theorem archLs_valid : ∀ (l : List Bs) (a : Ar), archV a = true → archV (archLs a l).1 = true
  | [], a, h => h
  | x :: r, a, h => by rw [archLs]; exact archLs_valid r _ (archL_ok h x).valid
theorem archM_parts {a : Ar} {ls : List Bs} (ha : archV a = true) (hl : ls.length ≤ 12) (h : Nat) :
    (archM (archM a (ls.take h)).1 (ls.drop h)).1 = (archM a ls).1 ∧ (archM a (ls.take h)).2 ++ (archM (archM a (ls.take h)).1 (ls.drop h)).2 = (archM a ls).2 := by
  have e : ∀ (b : Ar) (m : List Bs), archV b = true → m.length ≤ 12 → archM b m = archLs b m := fun b m hb hm => by unfold archM; rw [hb, decide_eq_true hm]; rfl
  rw [e a ls ha hl, e a _ ha (by rw [List.length_take]; omega), e _ _ (archLs_valid _ _ ha) (by rw [List.length_drop]; omega)]
  have := archLs_append (ls.take h) (ls.drop h) a
  rw [List.take_append_drop] at this
  rw [this]
  exact ⟨rfl, rfl⟩
theorem archM_bad {a : Ar} {ls : List Bs} (h : archV a = false ∨ ¬ ls.length ≤ 12) : archM a ls = (⟨[], 0, []⟩, []) := by
  unfold archM
  rcases h with h | h
  · rw [h]; rfl
  · rw [decide_eq_false h]; simp
/-! ### new archives, open roots -/
theorem archV_nopieces (op : Int) (vs : List Vr) : archV ⟨[], op, vs⟩ = false := by
  cases h : archV ⟨[], op, vs⟩
  · rfl
  · have := (archV_iff.1 h).2.2.1
    cases this
theorem archV_novers {a : Ar} (h : archV a = true) : archV ⟨a.ps, a.op, []⟩ = true := by
  obtain ⟨h1, h2, h3, h4⟩ := archV_iff.1 h
  exact archV_iff.2 ⟨h1, rfl, h3, by simp⟩
theorem newA_ok {s : List Pc} (h : (newA s).2 = true) : archV (newA s).1 = true ∧ (newA s).1.vs = [] ∧ allF (newA s).1.ps (newA s).1.op = [] := by
  unfold newA at *
  split at h
  · rename_i hp
    rw [if_pos hp]
    obtain ⟨h1, h2, h3⟩ := putT_ok hp
    have hpa : putAll s [mk (foldT [])] = some (putT s (mk (foldT []))).1 := by rw [putAll_one, if_pos hp]
    have hfo := folder_put h1 hpa (l := []) (by simp) entsV_nil
    have hop : (putT s (mk (foldT []))).2.1 = prOf (foldT []) := h3
    refine ⟨archV_iff.2 ⟨h2.valid, rfl, ?_, by simp⟩, rfl, ?_⟩
    · show (folderOf (putT s (mk (foldT []))).1 (putT s (mk (foldT []))).2.1).isSome = true
      rw [hop, hfo]; rfl
    · show allF (putT s (mk (foldT []))).1 (putT s (mk (foldT []))).2.1 = []
      unfold allF
      rw [if_pos h2.valid, hop, filesP_succ, hfo]; rfl
  · cases h
theorem newA_good {N : Bs → Prop} {s : List Pc} (hg : Good N s) : Good N (newA s).1.ps := by
  unfold newA
  split
  · rename_i hp
    have hpa : putAll s [mk (foldT [])] = some (putT s (mk (foldT []))).1 := by rw [putAll_one, if_pos hp]
    refine good_put (putT_ok hp).1 hg hpa fun t ht l hr e he => ?_
    rw [List.mem_singleton] at ht
    subst ht
    rw [tx_mk, readF_foldT entsV_nil] at hr
    injection hr with hr
    subst hr; cases he
  · exact good_nil N
end Go.Proofs.YtaghiefokmapmaaDoor

/- Sizes of files, files with a word, quotas that are passed: their laws. Plain Lean, no program in sight. -/
set_option linter.unusedVariables false
namespace Go.Proofs.YtaghiefokmapmaaDoor
theorem foldl_addI {α : Type} (g : α → Int) : ∀ (l : List α) (n : Int), l.foldl (fun n p => n + g p) n = n + (l.map g).sum
  | [], n => by simp
  | x :: r, n => by rw [List.foldl_cons, foldl_addI g r, List.map_cons, List.sum_cons]; omega
theorem sum_app : ∀ (a b : List Int), (a ++ b).sum = a.sum + b.sum
  | [], b => by simp
  | x :: r, b => by rw [List.cons_append, List.sum_cons, List.sum_cons, sum_app r b]; omega
theorem sum_flat {α β : Type} (f : α → List β) (g : β → Int) : ∀ l : List α, ((l.flatMap f).map g).sum = (l.map fun e => ((f e).map g).sum).sum
  | [] => rfl
  | x :: r => by rw [List.flatMap_cons, List.map_append, sum_app, List.map_cons, List.sum_cons, sum_flat f g r]
theorem sum_filter_le {α : Type} (p : α → Bool) (g : α → Int) (hg : ∀ x, 0 ≤ g x) : ∀ l : List α, ((l.filter p).map g).sum ≤ (l.map g).sum
  | [] => by simp
  | x :: r => by
    have ih := sum_filter_le p g hg r
    have := hg x
    rw [List.filter_cons, List.map_cons, List.sum_cons]
    split
    · rw [List.map_cons, List.sum_cons]; omega
    · omega
def lenAt (s : List Pc) (root : Int) (p : Bs) : Int := ((contentAt s root p).length : Int)
theorem sizeOf'_sum (s : List Pc) (root : Int) (l : List Bs) : sizeOf' s root l = (l.map (lenAt s root)).sum := by
  unfold sizeOf'
  rw [show (fun (n : Int) p => n + ((contentAt s root p).length : Int)) = fun n p => n + lenAt s root p from rfl, foldl_addI]; omega
theorem belowP_root {f : Bs} (h : (pathP f).isSome = true) : belowP f [47] = true := by
  obtain ⟨a, ha⟩ := Option.isSome_iff_exists.1 h
  unfold belowP
  rw [ha, show pathP [47] = some [] by decide]; rfl
theorem usedP_root {s : List Pc} (hs : storeV s = true) (root : Int) : usedP s root [47] = totalP s root := by
  unfold usedP totalP
  rw [hs, show (pathP [47]).isSome = true by decide]
  show sizeOf' s root ((allF s root).filter fun f => belowP f [47]) = _
  rw [List.filter_eq_self.2 fun f hf => belowP_root (allF_path hf)]
theorem totalP_bad {s : List Pc} (hs : storeV s = false) (root : Int) : totalP s root = 0 := by
  unfold totalP allF
  rw [hs]; rfl
theorem usedP_le {s : List Pc} (hs : storeV s = true) (root : Int) {path : Bs} (hp : (pathP path).isSome = true) : 0 ≤ usedP s root path ∧ usedP s root path ≤ usedP s root [47] := by
  rw [usedP_root hs]
  unfold usedP totalP
  rw [hs, hp]
  show 0 ≤ sizeOf' s root _ ∧ sizeOf' s root _ ≤ _
  rw [sizeOf'_sum, sizeOf'_sum]
  have h0 : ∀ x, 0 ≤ lenAt s root x := fun x => Int.natCast_nonneg _
  refine ⟨?_, sum_filter_le _ _ h0 _⟩
  have : ∀ l : List Bs, 0 ≤ (l.map (lenAt s root)).sum := fun l => by
    induction l with
    | nil => simp
    | cons x r ih => rw [List.map_cons, List.sum_cons]; have := h0 x; omega
  exact this _
/-! ### a file more -/
theorem walkP_keep {s s' : List Pc} (hk : Keep s s') : ∀ (qs : List Bs) (p q : Int), walkP s p qs = some q → walkP s' p qs = some q
  | [], p, q, h => by
    rw [walkP] at h ⊢
    split at h
    · rename_i hp; rw [if_pos (hk.there hp)]; exact h
    · cases h
  | n :: r, p, q, h => by
    rw [walkP] at h ⊢
    obtain ⟨l, hl, h⟩ := Option.bind_eq_some_iff.1 h
    obtain ⟨x, hx, h⟩ := Option.bind_eq_some_iff.1 h
    rw [hk.fold hl, Option.bind_some, hx, Option.bind_some]
    exact walkP_keep hk r x q h
theorem content_file {s : List Pc} {root p q : Int} {l : List En} {n c : Bs} {qs : List Bs} (hs : storeV s = true) (hf : folderOf s root = some l) (hg : getE l n = some p) (hv : partsV (n :: qs) = true) (hw : walkP s p qs = some q) (hc : fileOf s q = some c) :
    contentAt s root (joinP (n :: qs)) = c := by
  unfold contentAt readAt walkTo
  rw [if_pos hs, pathP_of hv, Option.bind_some, walkP, hf, Option.bind_some, hg, Option.bind_some, hw, Option.bind_some, hc]; rfl
theorem stepF_mem {s : List Pc} {e : En} (he : entOk e = true) {x : Bs} (hx : x ∈ stepF s 2 [] e) : ∃ qs q, partsV (tx e.1 :: qs) = true ∧ x = joinP (tx e.1 :: qs) ∧ walkP s e.2 qs = some q ∧ (fileOf s q).isSome = true := by
  have hw := (entOk_iff.1 he).1
  unfold stepF at hx
  split at hx
  · rename_i hfi
    rw [List.mem_singleton] at hx
    exact ⟨[], e.2, partsV_iff.2 ⟨by simp, by simpa using hw⟩, hx, by rw [walkP, if_pos (file_there hfi)], hfi⟩
  · obtain ⟨qs, q, _, h2, h3, h4, h5⟩ := filesP_mem 2 e.2 ([] ++ [tx e.1]) (by simpa using hw) (by simp) x hx
    exact ⟨qs, q, h2, h3, h4, h5⟩
def nameZ : Bs := [122, 122]
def pathZ : Bs := [47, 122, 122]
theorem total_write {N : Bs → Prop} {s s' : List Pc} {root r' : Int} {c : Bs} (hg : Good N s) (hz : ¬ N nameZ) (h : writeA s root pathZ c = (s', r', true)) : totalP s' r' = totalP s root + (c.length : Int) := by
  have hch := write_chg h
  obtain ⟨hs, hc, n, r, fs, x, hpp, hf, hx, hput, rfl⟩ := writeA_ok h
  rw [show pathP pathZ = some [nameZ] by decide] at hpp
  injection hpp with hpp
  injection hpp with e1 e2
  subst e1 e2
  obtain ⟨l, fs', hl, hf2, rfl, _⟩ := foldsW_top hf
  rw [foldsW] at hf2
  injection hf2 with hf2
  subst hf2
  obtain ⟨y, hy, hpe, rfl⟩ := upT_top hx
  have hy : some (([] : List ByteArray), prOf (fileT c)) = some y := hy
  injection hy with hy
  subst hy
  obtain ⟨g1, g2, g3⟩ := putE_ok hpe
  have hl : folderOf s root = some l := hl
  have hfo := folder_put hs hput (l := (putE l (mk nameZ, prOf (fileT c))).1) (by simp) g2
  have hfi := file_put hs hput (c := c) (by simp) hc
  have hso := entsV_sorted g1
  have hno : hereE l nameZ = false := by
    rw [hereE_get hso]
    cases hge : getE l nameZ with
    | none => rfl
    | some p => exact absurd (hg root l hl _ (getE_some hge)).2 (by rw [tx_mk]; exact hz)
  simp only at hfo hput hfi g2 g3 ⊢
  rw [g3] at hfo g2 ⊢
  have hins : insE l (mk nameZ, prOf (fileT c)) = l.take (posE l nameZ) ++ (mk nameZ, prOf (fileT c)) :: l.drop (posE l nameZ) := by
    unfold insE
    rw [show tx (mk nameZ, prOf (fileT c)).1 = nameZ from rfl, hno]; rfl
  have ht : ∀ (s : List Pc) (p : Int) (l : List En), storeV s = true → folderOf s p = some l → totalP s p = (l.map fun e => ((stepF s 2 [] e).map (lenAt s p)).sum).sum := fun s p l hs hl => by
    unfold totalP allF
    rw [if_pos hs, filesP_succ, hl, Option.getD_some, sizeOf'_sum, sum_flat]
  rw [ht _ _ _ hch.valid hfo, ht _ _ _ hs hl]
  generalize prOf (foldT (insE l (mk nameZ, prOf (fileT c)))) = R at *
  have hold : ∀ e ∈ l, ((stepF s' 2 [] e).map (lenAt s' R)).sum = ((stepF s 2 [] e).map (lenAt s root)).sum := fun e he => by
    have h2 := hg root l hl e he
    have hst : stepF s' 2 [] e = stepF s 2 [] e := by
      unfold stepF
      rw [hch.keep.fi h2.1, filesP_keep hg hch.keep 2 e.2 _ h2.1]
    rw [hst]
    congr 1
    refine List.map_congr_left fun x hx => ?_
    obtain ⟨qs, q, k1, rfl, k3, k4⟩ := stepF_mem (entsV_ok g1 he) hx
    obtain ⟨t, ht⟩ := Option.isSome_iff_exists.1 k4
    have ge : getE l (tx e.1) = some e.2 := getE_mem hso (show (mk (tx e.1), e.2) ∈ l by rw [mk_tx]; exact he)
    have hne : tx e.1 ≠ nameZ := fun e0 => hz (e0 ▸ h2.2)
    have ge' : getE (insE l (mk nameZ, prOf (fileT c))) (tx e.1) = some e.2 := getE_mem (entsV_sorted g2) (by
      rw [mk_tx]; exact (mem_insE hso _ _).2 (.inr ⟨he, hne⟩))
    unfold lenAt
    rw [content_file hs hl ge k1 k3 ht, content_file hch.valid hfo ge' k1 (walkP_keep hch.keep _ _ _ k3) (by rw [hch.keep.fi (walkP_there k3)]; exact ht)]
  have hnew : ((stepF s' 2 [] (mk nameZ, prOf (fileT c))).map (lenAt s' R)).sum = (c.length : Int) := by
    have e : stepF s' 2 [] (mk nameZ, prOf (fileT c)) = [joinP [nameZ]] := by
      unfold stepF
      rw [show fileOf s' (mk nameZ, prOf (fileT c)).2 = some c from hfi]; rfl
    have ge : getE (insE l (mk nameZ, prOf (fileT c))) nameZ = some (prOf (fileT c)) := getE_mem (entsV_sorted g2) ((mem_insE hso _ _).2 (.inl rfl))
    rw [e]
    have hcont : contentAt s' R (joinP [nameZ]) = c := content_file hch.valid hfo ge (by decide) (by rw [walkP, if_pos (file_there (by rw [hfi]; rfl))]) hfi
    rw [List.map_cons, List.map_nil, List.sum_cons, List.sum_nil]
    unfold lenAt
    rw [hcont]; omega
  rw [hins, List.map_append, List.map_cons, sum_app, List.sum_cons, hnew]
  have e1 : (l.map fun e => ((stepF s 2 [] e).map (lenAt s root)).sum).sum = ((l.take (posE l nameZ)).map fun e => ((stepF s 2 [] e).map (lenAt s root)).sum).sum + ((l.drop (posE l nameZ)).map fun e => ((stepF s 2 [] e).map (lenAt s root)).sum).sum := by
    rw [← sum_app, ← List.map_append, List.take_append_drop]
  have e2 : ((l.take (posE l nameZ)).map fun e => ((stepF s' 2 [] e).map (lenAt s' R)).sum) = (l.take (posE l nameZ)).map fun e => ((stepF s 2 [] e).map (lenAt s root)).sum := List.map_congr_left fun e he => hold e (List.mem_of_mem_take he)
  have e3 : ((l.drop (posE l nameZ)).map fun e => ((stepF s' 2 [] e).map (lenAt s' R)).sum) = (l.drop (posE l nameZ)).map fun e => ((stepF s 2 [] e).map (lenAt s root)).sum := List.map_congr_left fun e he => hold e (List.mem_of_mem_drop he)
  rw [e1, e2, e3]; omega
/-! ### found ones stand in their order -/
theorem filt_at {α : Type} {F : List α} {P : α → Bool} {k : Nat} (hk : k < F.length) (h : P F[k] = true) : (F.filter P)[((F.take k).filter P).length]? = some F[k] := by
  have e : F.filter P = (F.take k).filter P ++ (F.drop k).filter P := by rw [← List.filter_append, List.take_append_drop]
  rw [e, List.getElem?_append_right (Nat.le_refl _), Nat.sub_self, List.drop_eq_getElem_cons hk, List.filter_cons, h]; rfl
theorem filt_no {α : Type} {F : List α} {P : α → Bool} {k j : Nat} (hk : k < F.length) (h : P F[k] = false) {y : α} (hy : (F.filter P)[j]? = some y) : y ≠ F[k] := by
  intro e
  have := (List.mem_filter.1 (List.mem_of_getElem? hy)).2
  rw [e, h] at this; cases this
theorem filt_next {α : Type} {F : List α} {P : α → Bool} {k : Nat} (hk : k < F.length) : ((F.take (k + 1)).filter P).length = ((F.take k).filter P).length + if P F[k] then 1 else 0 := by
  rw [List.take_succ_eq_append_getElem hk, List.filter_append, List.length_append]
  cases h : P F[k] <;> simp [h]
theorem common_word {a w : Bs} (hw : wordsOf w = [w]) : (decide (0 < (commonW a w).length)) = (wordsOf a).contains w := by
  unfold commonW
  rw [hw]
  rw [Bool.eq_iff_iff, decide_eq_true_eq, List.length_pos_iff, List.contains_iff_mem]
  constructor
  · intro h
    obtain ⟨x, hx⟩ := List.exists_mem_of_ne_nil _ h
    obtain ⟨h1, h2⟩ := List.mem_filter.1 hx
    have : x = w := by simpa using h2
    exact this ▸ h1
  · intro h e
    have : w ∈ (wordsOf a).filter fun x => [w].contains x := List.mem_filter.2 ⟨h, by simp⟩
    rw [e] at this; cases this
/-! ### quotas -/
theorem quoV_at {l : List Qt} (h : quoV l = true) {k : Nat} (hk : k < l.length) : ((l.take k).any fun o => tx o.1 == tx l[k].1) = false := by
  unfold quoV at h
  rw [Bool.and_eq_true, List.all_eq_true] at h
  have h2 := h.2 k (List.mem_range.2 hk)
  unfold quoAt at h2
  rw [List.getElem?_eq_getElem hk] at h2
  simp only [Bool.and_eq_true, Bool.not_eq_true'] at h2
  exact h2.2
theorem quoV_lt {l : List Qt} (h : quoV l = true) {j k : Nat} (hj : j < l.length) (hk : k < l.length) (hjk : j < k) : tx l[j].1 ≠ tx l[k].1 := by
  intro e
  have h2 := quoV_at h hk
  rw [List.any_eq_false] at h2
  have hm : l[j] ∈ l.take k := by
    rw [List.mem_iff_getElem]
    exact ⟨j, by rw [List.length_take]; omega, by rw [List.getElem_take]⟩
  exact h2 _ hm (by rw [e]; simp)
theorem quoV_inj {l : List Qt} (h : quoV l = true) {a b : Qt} (ha : a ∈ l) (hb : b ∈ l) (e : a.1 = b.1) : a = b := by
  obtain ⟨j, hj, rfl⟩ := List.getElem_of_mem ha
  obtain ⟨k, hk, rfl⟩ := List.getElem_of_mem hb
  by_cases h1 : j < k
  · exact absurd (by rw [e]) (quoV_lt h hj hk h1)
  by_cases h2 : k < j
  · exact absurd (by rw [e]) (quoV_lt h hk hj h2)
  have : j = k := by omega
  subst this; rfl
theorem over_at {s : List Pc} {root : Int} {l : List Qt} {k : Nat} (hk : k < l.length) (h : overQ s root l[k] = true) : (overB s root l)[(overB s root (l.take k)).length]? = some l[k].1 := by
  unfold overB
  rw [List.getElem?_map, List.length_map, filt_at hk h]; rfl
theorem over_no {s : List Pc} {root : Int} {l : List Qt} {k j : Nat} (hv : quoV l = true) (hk : k < l.length) (h : overQ s root l[k] = false) {y : ByteArray} (hy : (overB s root l)[j]? = some y) : y ≠ l[k].1 := by
  intro e
  unfold overB at hy
  rw [List.getElem?_map] at hy
  obtain ⟨q, hq, rfl⟩ := Option.map_eq_some_iff.1 hy
  obtain ⟨h1, h2⟩ := List.mem_filter.1 (List.mem_of_getElem? hq)
  have := quoV_inj hv h1 (List.getElem_mem hk) e
  rw [this, h] at h2; cases h2
theorem over_none {s : List Pc} {l : List Qt} : overR s (-1) l = [] := by
  unfold overR
  split
  · rename_i h
    rw [Bool.and_eq_true] at h
    have hg : getT s (-1) = none := by
      cases hg : getT s (-1) with
      | none => rfl
      | some t =>
        have := (getT_valid h.2 hg).2.2
        unfold pv inI at this
        rw [decide_eq_true_eq] at this; omega
    have hf : folderOf s (-1) = none := by unfold folderOf; rw [hg]; rfl
    have ha : allF s (-1) = [] := by unfold allF; rw [if_pos h.2, filesP_succ, hf]; rfl
    unfold overB
    rw [List.filter_eq_nil_iff.2]
    · rfl
    · intro q hq
      have hb := quoV_path h.1 hq
      have hu : usedP s (-1) (bs q.1) = 0 := by
        unfold usedP
        rw [hb.1, h.2, ha]; rfl
      unfold overQ
      rw [hu]; simp; omega
  · rfl
end Go.Proofs.YtaghiefokmapmaaDoor

/- Stores that are drawn: some steps from the empty folder on. Plain Lean, no program in sight. -/
set_option linter.unusedVariables false
namespace Go.Proofs.YtaghiefokmapmaaDoor
def paths7 : List Bs := [[47, 97], [47, 98], [47, 99], [47, 97, 47, 98], [47, 98, 47, 97], [47, 98, 47, 98, 47, 97], [47, 97, 47, 98, 47, 99]]
def conts4 : List Bs := [[104, 105], [114, 101, 100, 32, 103, 114, 101, 101, 110], [], [120]]
/-- One step: nothing, a drop, a write. -/
def StepS (s : List Pc) (r : Int) (s' : List Pc) (r' : Int) : Prop :=
  (s' = s ∧ r' = r) ∨ ∃ path ∈ paths7, (∃ b, dropA s r path = (s', r', b)) ∨ ∃ c ∈ conts4, ∃ b, writeA s r path c = (s', r', b)
inductive DrawnS : Nat → List Pc → Int → Prop
  | base : DrawnS 0 (putT [] foldE).1 (putT [] foldE).2.1
  | step {k : Nat} {s s' : List Pc} {r r' : Int} : DrawnS k s r → StepS s r s' r' → DrawnS (k + 1) s' r'
def NoZ (n : Bs) : Prop := n ≠ nameZ
theorem paths7_ok : ∀ p ∈ paths7, (pathP p).isSome = true ∧ pathP p ≠ some [] ∧ ∀ n ∈ (pathP p).getD [], n ≠ nameZ := by decide +kernel
theorem conts4_ok : ∀ c ∈ conts4, contV c = true := by decide +kernel
theorem dropA_no {s s' : List Pc} {r r' : Int} {p : Bs} (hs : storeV s = true) (hp : p ∈ paths7) (h : dropA s r p = (s', r', false)) : s' = s ∧ r' = r := by
  obtain ⟨h1, h2, _⟩ := paths7_ok p hp
  obtain ⟨ps, hps⟩ := Option.isSome_iff_exists.1 h1
  unfold dropA at h
  rw [if_pos hs, hps] at h
  cases ps with
  | nil => exact absurd hps h2
  | cons n t =>
    simp only at h
    split at h
    · simp at h
    · simp only [Prod.mk.injEq, and_true] at h; exact ⟨h.1.symm, h.2.symm⟩
theorem writeA_no {s s' : List Pc} {r r' : Int} {p c : Bs} (hs : storeV s = true) (hp : p ∈ paths7) (hc : c ∈ conts4) (h : writeA s r p c = (s', r', false)) : s' = s ∧ r' = r := by
  obtain ⟨h1, h2, _⟩ := paths7_ok p hp
  obtain ⟨ps, hps⟩ := Option.isSome_iff_exists.1 h1
  unfold writeA at h
  rw [hs, conts4_ok c hc, Bool.true_and, if_pos rfl, hps] at h
  cases ps with
  | nil => exact absurd hps h2
  | cons n t =>
    simp only at h
    split at h
    · simp at h
    · simp only [Prod.mk.injEq, and_true] at h; exact ⟨h.1.symm, h.2.symm⟩
theorem path7_names {p : Bs} (hp : p ∈ paths7) : ∀ ps, pathP p = some ps → ∀ n ∈ ps, NoZ n := fun ps h n hn => by
  have := (paths7_ok p hp).2.2 n
  rw [h] at this
  exact this hn
theorem step_keeps {s s' : List Pc} {r r' : Int} (h : StepS s r s' r') (hs : storeV s = true) (hg : Good NoZ s) : storeV s' = true ∧ Good NoZ s' := by
  rcases h with ⟨rfl, rfl⟩ | ⟨path, hp, ⟨b, h⟩ | ⟨c, hc, b, h⟩⟩
  · exact ⟨hs, hg⟩
  · cases b
    · obtain ⟨rfl, rfl⟩ := dropA_no hs hp h; exact ⟨hs, hg⟩
    · exact ⟨(drop_chg h).valid, drop_good h hg (path7_names hp)⟩
  · cases b
    · obtain ⟨rfl, rfl⟩ := writeA_no hs hp hc h; exact ⟨hs, hg⟩
    · exact ⟨(write_chg h).valid, write_good h hg (path7_names hp)⟩
theorem drawnS_ok {k : Nat} {s : List Pc} {r : Int} (h : DrawnS k s r) : storeV s = true ∧ Good NoZ s := by
  induction h with
  | base =>
    have h1 : (newA []).2 = true := by decide +kernel
    have h2 := newA_good (good_nil NoZ)
    have h3 := newA_ok h1
    have e : (newA []).1.ps = (putT [] foldE).1 := by
      unfold newA at h1 ⊢
      split
      · rfl
      · rename_i hn; rw [if_neg hn] at h1; cases h1
    rw [e] at h2
    refine ⟨?_, h2⟩
    rw [← e]
    exact (archV_iff.1 h3.1).1
  | step _ hst ih => exact step_keeps hst ih.1 ih.2
/-! ### a piece turned -/
theorem turned_print {s : List Pc} {k : Nat} {p : Int} (hk : k < s.length) (hs : storeV s = true) (h : storeV (s.set k (p, s[k].2)) = true) : s.set k (p, s[k].2) = s := by
  have h1 := (pieceOk_iff.1 (storeV_piece hs (List.getElem_mem hk))).2
  have h2 : prOf (tx s[k].2) = p := (pieceOk_iff.1 (storeV_piece h (List.mem_set hk _))).2
  rw [← h2, h1]
  exact List.set_getElem_self hk
theorem turned_text {N : Bs → Prop} {s : List Pc} {k : Nat} {t : ByteArray} (hk : k < s.length) (hs : storeV s = true) (hg : Good N s) (ht : readF (tx t) = none) (h : storeV (s.set k (s[k].1, t)) = true) : Good N (s.set k (s[k].1, t)) := by
  have hso := storeV_sorted hs
  have hso' := storeV_sorted h
  have hthere : ∀ q, (getT s q).isSome = true → (getT (s.set k (s[k].1, t)) q).isSome = true := fun q hq => by
    obtain ⟨u, hu⟩ := Option.isSome_iff_exists.1 hq
    obtain ⟨i, hi, hie⟩ := List.getElem_of_mem (getT_some hu)
    by_cases e : i = k
    · subst e
      have : (q, t) ∈ s.set i (s[i].1, t) := by
        have h2 := List.mem_set hi (s[i].1, t)
        rwa [show s[i].1 = q by rw [hie]] at h2 ⊢
      rw [getT_mem hso' this]; rfl
    · have : (q, u) ∈ s.set k (s[k].1, t) := by
        rw [List.mem_iff_getElem]
        exact ⟨i, by rw [List.length_set]; exact hi, by rw [List.getElem_set_ne (fun h => e h.symm)]; exact hie⟩
      rw [getT_mem hso' this]; rfl
  intro p l hf e he
  unfold folderOf at hf
  obtain ⟨u, hu, hr⟩ := Option.bind_eq_some_iff.1 hf
  rcases List.mem_or_eq_of_mem_set (getT_some hu) with hm | hm
  · have hf2 : folderOf s p = some l := by unfold folderOf; rw [getT_mem hso hm]; exact hr
    obtain ⟨h1, h2⟩ := hg p l hf2 e he
    exact ⟨hthere _ h1, h2⟩
  · injection hm with h1 h2
    subst h2
    rw [ht] at hr; cases hr
theorem twice_bad {s : List Pc} (h : s ≠ []) : storeV (s ++ [s[0]'(List.length_pos_iff.2 h)]) = false := by
  cases hv : storeV (s ++ [s[0]'(List.length_pos_iff.2 h)])
  · rfl
  · have := storeV_sorted hv
    unfold Sorted at this
    rw [List.pairwise_append] at this
    have h2 := this.2.2 (s[0]'(List.length_pos_iff.2 h)) (List.getElem_mem _) (s[0]'(List.length_pos_iff.2 h)) (by simp)
    omega
end Go.Proofs.YtaghiefokmapmaaDoor

/- Drawn inputs: paths. -/
set_option linter.unusedVariables false
namespace Go.Proofs.YtaghiefokmapmaaDoor
open Go.RowKit
theorem lit_str {w w1 : World} {g : Nat} {cs : Array Value} {E : TypeId} {m k : Nat} (ho : Only g (w.alloc (.cells cs E)) w1) (hg : g < w.heap.size) (hk : k < cs.size) (hc : cs.toList.all (shortB m) = true) : ∃ s, w1.cell? ⟨w.heap.size, k, none⟩ = some (.string s) ∧ s.size ≤ m := by
  obtain ⟨s, hs, hz⟩ := shortB_iff (List.all_eq_true.1 hc cs[k] (by simp))
  exact ⟨s, lit_cell ho hg (by rw [Array.getElem?_eq_getElem hk, hs]), hz⟩
set_option maxHeartbeats 4000000 in
set_option maxRecDepth 100000 in
theorem l20Path_any (n : Int) (g p : Nat) (w : World) (hr : Rdr w g p) (hp : p ≤ 900000000) (hn : n ≤ 1000000000) :
    Calls Tryd.prog 63 #[.pointer (some ⟨g, 0, none⟩), .int .i64 n] w (Drew (ShortStr 9) 2 w g p) := by
  have HR := Lib.hid hr
  clear hr
  go_enter Tryd.func63, Tryd.ntmps63
  go_wp2_with fail
  refine (odd_any _ _ _ _ HR.out (by omega) hn).mono ?_
  rintro e w1 ⟨x, p1, rfl, ho1, hr1, hp1⟩
  have HR1 := Lib.hid hr1
  have HO1 := Lib.hid ho1
  clear hr1 ho1
  cases x
  · go_wp2_with fail
    refine (pick_int 13 0 7 (HR1.out.alloc _) (by omega) rfl (by omega) (by omega) (by decide)).mono ?_
    rintro e w2 ⟨x, m, rfl, hx, hc, hm0, hm7, ho2, hr2⟩
    obtain ⟨N, rfl⟩ := Int.eq_ofNat_of_zero_le hm0
    have hN : N < 8 := by omega
    have hcc : w2.cell? ⟨w1.heap.size + 1, x, none⟩ = some (.int .i64 (N : Int)) := by simpa using hc
    clear hc
    obtain ⟨s, hcs, hs⟩ := lit_str (k := N) (m := 9) ho2 HR1.out.lt hN (by decide)
    have HR2 := Lib.hid hr2
    have HO2 := Lib.hid ((Only.of_below ((Below.refl w1.heap.size w1).alloc (Nat.le_refl _) _)).trans ho2)
    clear hr2 ho2
    go_wp2_with fail
    go_ret
    exact ⟨_, _, rfl, ⟨_, rfl, hs⟩, HO1.out.trans HO2.out, HR2.out, by omega⟩
  · go_wp2_with fail
    refine (pick_str 6 9 HR1.out (by omega) rfl (by omega) (by omega) (by decide)).mono ?_
    rintro e w2 ⟨x, s, rfl, hx, hc, hs, ho2, hr2⟩
    have HR2 := Lib.hid hr2
    have HO2 := Lib.hid ho2
    clear hr2 ho2
    go_wp2_with fail
    go_ret
    exact ⟨_, _, rfl, ⟨_, rfl, hs⟩, HO1.out.trans HO2.out, HR2.out, by omega⟩
end Go.Proofs.YtaghiefokmapmaaDoor

/- Drawn stores: paths, contents, steps, stores; BundlePrint's and BundleLines' inputs. -/
set_option linter.unusedVariables false
namespace Go.Proofs.YtaghiefokmapmaaDoor
open Go.RowKit
/-- One cell of an element of an owned row written anew. -/
theorem Own.setOne {α : Type} {enc : α → List Value} {w : World} {base size : Nat} {E : TypeId} {g n cap : Nat} {l : List α} (h : Own w base E size enc (.slice (some ⟨g, 0, none⟩) n cap) l) (he : ∀ x, (enc x).length = size) (hsz : 0 < size) {i j : Nat} (hi : i < l.length) (hj : j < size) {x : α} {u : Value} (hu : (enc x)[j]? = some u) (hx : ∀ k, k ≠ j → (enc x)[k]? = (enc l[i])[k]?) :
    Own (w.setCell ⟨g, i * size + j, none⟩ u) base E size enc (.slice (some ⟨g, 0, none⟩) n cap) (l.set i x) := by
  rcases h.2 with ⟨hv, hn⟩ | ⟨g', cap', cur, hv, hg, hh, hnc, hcm, hs, ht⟩
  · injection hv with e; cases e
  · injection hv with e1 e2 e3
    injection e1 with e1; injection e1 with e1
    subst e1 e2 e3
    obtain ⟨cs', h1, h2, h3⟩ := setAll_cells (m := (0, 0)) [u] w (i * size + j) cur hh
    refine ⟨flat_length he _, .inr ⟨g, cap, cs', by rw [List.length_set], hg, h1, by rw [List.length_set]; exact hnc, hcm, by rw [h2]; exact hs, ?_⟩⟩
    have hlen : (flat enc (l.set i x)).length = l.length * size := by rw [flat_length he, List.length_set]
    have hls : l.length * size ≤ cur.size := by rw [hs]; exact Nat.mul_le_mul_right _ hnc
    have hi2 : i * size + size ≤ l.length * size := by
      have := Nat.mul_le_mul_right size (show i + 1 ≤ l.length from hi)
      rwa [Nat.succ_mul] at this
    have h0 : (flat enc l).length = l.length * size := flat_length he l
    rw [List.length_set]
    apply List.ext_getElem?
    intro p
    by_cases hp : p < l.length * size
    · rw [List.getElem?_take_of_lt hp, Array.getElem?_toList, h3 p]
      rw [List.length_singleton]
      have hq : p / size < l.length := Nat.div_lt_of_lt_mul (by rwa [Nat.mul_comm] at hp)
      have hdm : p / size * size + p % size = p := by rw [Nat.mul_comm]; exact Nat.div_add_mod p size
      have hms := Nat.mod_lt p hsz
      have hg2 := flat_get he (l.set i x) (p / size) (by rw [List.length_set]; exact hq) (p % size) hms
      rw [hdm] at hg2
      rw [hg2, List.getElem_set]
      by_cases hqi : i = p / size
      · subst hqi
        rw [if_pos rfl]
        by_cases hpj : p % size = j
        · rw [if_pos (by omega), hpj, hu, show p - (p / size * size + j) = 0 by omega]; rfl
        · rw [if_neg (by omega), hx _ hpj]
          have hg3 := flat_get he l (p / size) hq (p % size) hms
          rw [hdm] at hg3
          rw [← hg3]
          have this : (cur.toList.take (l.length * size))[p]? = (flat enc l)[p]? := by rw [ht]
          rw [List.getElem?_take_of_lt hp, Array.getElem?_toList] at this
          exact this
      · rw [if_neg hqi, if_neg]
        · have hg3 := flat_get he l (p / size) hq (p % size) hms
          rw [hdm] at hg3
          rw [← hg3]
          have this : (cur.toList.take (l.length * size))[p]? = (flat enc l)[p]? := by rw [ht]
          rw [List.getElem?_take_of_lt hp, Array.getElem?_toList] at this
          exact this
        · intro hh
          apply hqi
          have a1 : i ≤ p / size := (Nat.le_div_iff_mul_le hsz).2 (by omega)
          have a2 : p / size < i + 1 := Nat.div_lt_of_lt_mul (by rw [Nat.mul_comm, Nat.succ_mul]; omega)
          omega
    · rw [List.getElem?_eq_none (by simp; omega), List.getElem?_eq_none (by omega)]
theorem Own.setPrint {w : World} {base : Nat} {E : TypeId} {g n cap : Nat} {l : List Pc} (h : Own w base E 2 encP (.slice (some ⟨g, 0, none⟩) n cap) l) {i : Nat} (hi : i < l.length) (p : Int) :
    Own (w.setCell ⟨g, i * 2, none⟩ (.int .i64 p)) base E 2 encP (.slice (some ⟨g, 0, none⟩) n cap) (l.set i (p, l[i].2)) :=
  h.setOne (fun _ => rfl) (by omega) (j := 0) hi (by omega) rfl (fun k hk => by
    match k with
    | 0 => exact absurd rfl hk
    | k + 1 => rfl)
theorem Own.setText {w : World} {base : Nat} {E : TypeId} {g n cap : Nat} {l : List Pc} (h : Own w base E 2 encP (.slice (some ⟨g, 0, none⟩) n cap) l) {i : Nat} (hi : i < l.length) (t : ByteArray) :
    Own (w.setCell ⟨g, i * 2 + 1, none⟩ (.string t)) base E 2 encP (.slice (some ⟨g, 0, none⟩) n cap) (l.set i (l[i].1, t)) :=
  h.setOne (fun _ => rfl) (by omega) (j := 1) hi (by omega) rfl (fun k hk => by
    match k with
    | 0 => rfl
    | 1 => exact absurd rfl hk
    | k + 2 => rfl)
def paths8 : List Bs := [47] :: paths7
def pathB : Value → Bool | .string s => decide (bs s ∈ paths8) | _ => false
def contB : Value → Bool | .string s => decide (bs s ∈ conts4) | _ => false
def PathV (v : Value) : Prop := ∃ s : ByteArray, v = .string s ∧ bs s ∈ paths8
def ContV (v : Value) : Prop := ∃ s : ByteArray, v = .string s ∧ bs s ∈ conts4
theorem pathB_iff {v : Value} (h : pathB v = true) : PathV v := by
  unfold pathB at h; split at h
  · exact ⟨_, rfl, of_decide_eq_true h⟩
  · cases h
theorem contB_iff {v : Value} (h : contB v = true) : ContV v := by
  unfold contB at h; split at h
  · exact ⟨_, rfl, of_decide_eq_true h⟩
  · cases h
theorem lit_chk {w w1 : World} {g : Nat} {cs : Array Value} {E : TypeId} {k : Nat} (chk : Value → Bool) (ho : Only g (w.alloc (.cells cs E)) w1) (hg : g < w.heap.size) (hk : k < cs.size) (hc : cs.toList.all chk = true) : ∃ u, w1.cell? ⟨w.heap.size, k, none⟩ = some u ∧ chk u = true :=
  ⟨cs[k], lit_cell ho hg (Array.getElem?_eq_getElem hk), List.all_eq_true.1 hc _ (by simp)⟩
theorem paths8_len : ∀ p ∈ paths8, p.length ≤ 6 := by decide
theorem conts4_len : ∀ p ∈ conts4, p.length ≤ 9 := by decide
theorem path_size {s : ByteArray} (h : bs s ∈ paths8) : s.size ≤ 6 := by rw [← size_bs]; exact paths8_len _ h
theorem cont_size {s : ByteArray} (h : bs s ∈ conts4) : s.size ≤ 9 := by rw [← size_bs]; exact conts4_len _ h
set_option maxHeartbeats 2000000 in
set_option maxRecDepth 100000 in
theorem l20Path_zero (g p : Nat) (w : World) (hr : Rdr w g p) (hp : p ≤ 900000000) :
    Calls Tryd.prog 63 #[.pointer (some ⟨g, 0, none⟩), .int .i64 0] w (Drew PathV 1 w g p) := by
  have HR := Lib.hid hr
  clear hr
  go_enter Tryd.func63, Tryd.ntmps63
  go_wp2_with fail
  refine (odd0_any _ _ _ HR.out (by omega)).mono ?_
  rintro e w1 ⟨rfl, rfl⟩
  go_wp2_with fail
  refine (pick_int 13 0 7 (HR.out.alloc _) (by omega) rfl (by omega) (by omega) (by decide)).mono ?_
  rintro e w2 ⟨x, m, rfl, hx, hc, hm0, hm7, ho2, hr2⟩
  obtain ⟨N, rfl⟩ := Int.eq_ofNat_of_zero_le hm0
  have hN : N < 8 := by omega
  have hcc : w2.cell? ⟨w.heap.size + 1, x, none⟩ = some (.int .i64 (N : Int)) := by simpa using hc
  clear hc
  obtain ⟨u, hcs, hu⟩ := lit_chk (k := N) pathB ho2 HR.out.lt hN (by decide +kernel)
  obtain ⟨s, rfl, hs⟩ := pathB_iff hu
  have HR2 := Lib.hid hr2
  have HS := Lib.hid hs
  have HO2 := Lib.hid ((Only.of_below ((Below.refl w.heap.size w).alloc (Nat.le_refl _) _)).trans ho2)
  clear hr2 ho2 hu hs
  go_wp2_with fail
  go_ret
  exact ⟨_, _, rfl, ⟨_, rfl, HS.out⟩, HO2.out, HR2.out, by omega⟩
set_option maxHeartbeats 2000000 in
set_option maxRecDepth 100000 in
theorem l20Content_any (g p : Nat) (w : World) (hr : Rdr w g p) (hp : p ≤ 900000000) :
    Calls Tryd.prog 66 #[.pointer (some ⟨g, 0, none⟩)] w (Drew ContV 1 w g p) := by
  have HR := Lib.hid hr
  clear hr
  go_enter Tryd.func66, Tryd.ntmps66
  go_wp2_with fail
  refine (pick_lit 4 contB HR.out (by omega) rfl (by omega) (by omega) (by decide +kernel)).mono ?_
  rintro e w2 ⟨x, u, rfl, hx, hc, hu, ho2, hr2⟩
  obtain ⟨s, rfl, hs⟩ := contB_iff hu
  have HR2 := Lib.hid hr2
  have HO2 := Lib.hid ho2
  have HS := Lib.hid hs
  clear hr2 ho2 hs hu
  go_wp2_with fail
  go_ret
  exact ⟨_, _, rfl, ⟨_, rfl, HS.out⟩, HO2.out, HR2.out, by omega⟩
/-- A step of a drawn store. -/
def StepRes (base g p : Nat) (l : List Pc) (root : Int) (w : World) (e : Ending) (w' : World) : Prop :=
  ∃ (v : Value) (l' : List Pc) (r' : Int) (b : Bool) (p' : Nat), e = .returned (.tuple #[v, .int .i64 r', .bool b]) ∧ Own w' base 44 2 encP v l' ∧ StepS l root l' r' ∧ Only g w w' ∧ Rdr w' g p' ∧ p' ≤ p + 3
set_option maxHeartbeats 4000000 in
set_option maxRecDepth 100000 in
theorem l20Step_any (base g p : Nat) (v : Value) (l : List Pc) (root : Int) (w : World) (hr : Rdr w g p) (hp : p ≤ 800000000) (hg : g < base) (hbase : base ≤ w.heap.size) (hown : Own w base 44 2 encP v l) (hv : storeV l = true) :
    Calls Tryd.prog 43 #[.pointer (some ⟨g, 0, none⟩), v, .int .i64 root] w (StepRes base g p l root w) := by
  have HR := Lib.hid hr
  have HW := Lib.hid hown
  have HV := Lib.hid hv
  have hl40 := storeV_len hv
  clear hr hown hv
  go_enter Tryd.func43, Tryd.ntmps43
  go_wp2_with fail
  refine (l20Path_zero _ _ _ HR.out (by omega)).mono ?_
  rintro e w1 ⟨v1, p1, rfl, ⟨s, rfl, hs⟩, ho1, hr1, hp1⟩
  have HR1 := Lib.hid hr1
  have HO1 := Lib.hid ho1
  have HW1 := Lib.hid (HW.out.only ho1 hg)
  have hsz := path_size hs
  clear hr1 ho1
  cases hq : (s.toList == [47])
  case true =>
    go_wp2
    go_ret3
    exact ⟨_, l, root, _, p1, rfl, HW1.out, .inl ⟨rfl, rfl⟩, HO1.out, HR1.out, by omega⟩
  case false =>
    have HP7 := Lib.hid (show bs s ∈ paths7 by
      rcases List.mem_cons.1 hs with h | h
      · rw [ByteArray.toList_eq] at hq
        change (bs s == [47]) = false at hq
        rw [h] at hq; cases hq
      · exact h)
    clear hs
    go_wp2_with fail
    refine (pick_any 5 _ _ _ HR1.out (by omega) (by omega)).mono ?_
    rintro e w2 ⟨x, rfl, hx, ho2, hr2⟩
    have HR2 := Lib.hid hr2
    have HO2 := Lib.hid (HO1.out.trans ho2)
    have HW2 := Lib.hid (HW1.out.only ho2 hg)
    have hz2 := Nat.le_trans hbase HO2.out.size
    clear hr2 ho2
    obtain ⟨A, c, rfl, hle, hsl, _⟩ := HW2.out.sl
    have HSL := Lib.hid hsl
    have HC := Lib.hid HW2.out.cz
    clear hsl
    by_cases hx0 : x = 0
    · have hx0' : ((x : Int) == 0) = true := by rw [beq_iff_eq]; omega
      have hD := fun w h => sDropAt_any A c l root s w h HC.out hle (by omega) (fit_store HV.out) (by omega)
      have HST := Lib.hid (fun l' r' b (h : dropA l root (bs s) = (l', r', b)) => show StepS l root l' r' from .inr ⟨bs s, HP7.out, .inl ⟨b, h⟩⟩)
      unfold PutRes at hD
      generalize dropA l root (bs s) = R at *
      obtain ⟨R1, R2, R3⟩ := R
      simp only at hD
      have HD := Lib.hid hD
      clear hD
      go_wp2_with fail
      refine (HD.out _ HSL.out).mono ?_
      rintro e w3 ⟨v3, rfl, hown3, hb3⟩
      have HW3 := Lib.hid (hown3.mono hz2)
      have HO3 := Lib.hid (HO2.out.trans (Only.of_below hb3))
      have HR3 := Lib.hid (HR2.out.below hb3)
      clear hown3 hb3
      go_wp2
      go_ret3
      exact ⟨_, R1, R2, _, _, rfl, HW3.out, HST.out _ _ _ rfl, HO3.out, HR3.out, by omega⟩
    · have hx0' : ((x : Int) == 0) = false := by rw [beq_eq_false_iff_ne]; omega
      go_wp2_with fail
      refine (l20Content_any _ _ _ HR2.out (by omega)).mono ?_
      rintro e w4 ⟨v4, p4, rfl, ⟨ct, rfl, hct⟩, ho4, hr4, hp4⟩
      have HR4 := Lib.hid hr4
      have HO4 := Lib.hid (HO2.out.trans ho4)
      have HSL4 := Lib.hid ((HW2.out.only ho4 hg).sl')
      have hcz := cont_size hct
      have hz4 := Nat.le_trans hbase HO4.out.size
      have hD := fun w h => sWriteAt_any A c l root s ct w h HC.out hle (by omega) (fit_store HV.out) (by omega) (by omega)
      have HST := Lib.hid (fun l' r' b (h : writeA l root (bs s) (bs ct) = (l', r', b)) => show StepS l root l' r' from .inr ⟨bs s, HP7.out, .inr ⟨bs ct, hct, b, h⟩⟩)
      unfold PutRes at hD
      generalize writeA l root (bs s) (bs ct) = R at *
      obtain ⟨R1, R2, R3⟩ := R
      simp only at hD
      have HD := Lib.hid hD
      clear hD hr4 ho4 hct
      go_wp2_with fail
      refine (HD.out _ HSL4.out).mono ?_
      rintro e w3 ⟨v3, rfl, hown3, hb3⟩
      have HW3 := Lib.hid (hown3.mono hz4)
      have HO3 := Lib.hid (HO4.out.trans (Only.of_below hb3))
      have HR3 := Lib.hid (HR4.out.below hb3)
      clear hown3 hb3
      go_wp2
      go_ret3
      exact ⟨_, R1, R2, _, _, rfl, HW3.out, HST.out _ _ _ rfl, HO3.out, HR3.out, by omega⟩
/-- What is known of a drawn store. -/
structure StOk (n : Int) (l : List Pc) (root : Int) : Prop where
  good : storeV l = true → Good NoZ l
  fit : ∀ q ∈ l, q.2.size ≤ 60
  len : l.length ≤ 41
  pos : 0 < l.length
  drawn : n = 0 → ∃ k, k ≤ 5 ∧ DrawnS k l root
theorem drawnS_pos {k : Nat} {s : List Pc} {r : Int} (h : DrawnS k s r) : 0 < s.length := by
  induction h with
  | base => decide +kernel
  | @step k s s' r r' hd hst ih =>
    obtain ⟨hs, _⟩ := drawnS_ok hd
    have key : ∀ {s' : List Pc}, Keep s s' → 0 < s'.length := fun {s'} hk => by
      obtain ⟨p, t⟩ : ∃ p, p ∈ s := ⟨_, List.getElem_mem ih⟩
      have hg : getT s p.1 = some p.2 := getT_mem (storeV_sorted hs) t
      have := getT_some (hk _ _ hg)
      exact List.length_pos_of_mem this
    rcases hst with ⟨rfl, rfl⟩ | ⟨path, hp, ⟨b, h⟩ | ⟨c, hc, b, h⟩⟩
    · exact ih
    · cases b
      · obtain ⟨rfl, rfl⟩ := dropA_no hs hp h; exact ih
      · exact key (drop_chg h).keep
    · cases b
      · obtain ⟨rfl, rfl⟩ := writeA_no hs hp hc h; exact ih
      · exact key (write_chg h).keep
theorem store_fit60 {l : List Pc} (h : storeV l = true) : ∀ q ∈ l, q.2.size ≤ 60 := fun q hq => textV_size (pieceOk_iff.1 (storeV_piece h hq)).1
theorem StOk.of {n : Int} {k : Nat} {l : List Pc} {root : Int} (hk : k ≤ 5) (h : DrawnS k l root) : StOk n l root := by
  obtain ⟨h1, h2⟩ := drawnS_ok h
  exact ⟨fun _ => h2, store_fit60 h1, by have := storeV_len h1; omega, drawnS_pos h, fun _ => ⟨k, hk, h⟩⟩
/-- A drawn store with its root. -/
def StoreRes (n : Int) (w : World) (g p : Nat) (e : Ending) (w' : World) : Prop :=
  ∃ (v : Value) (l : List Pc) (root : Int) (p' : Nat), e = .returned (.tuple #[v, .int .i64 root]) ∧ Own w' w.heap.size 44 2 encP v l ∧ StOk n l root ∧ Only g w w' ∧ Rdr w' g p' ∧ p' ≤ p + 30
def turnedT : ByteArray := ⟨#[116, 117, 114, 110, 101, 100]⟩
theorem turnedT_no : readF (tx turnedT) = none := by decide +kernel
theorem fit_set {l : List Pc} (h : ∀ q ∈ l, q.2.size ≤ 60) {k : Nat} {x : Pc} (hx : x.2.size ≤ 60) : ∀ q ∈ l.set k x, q.2.size ≤ 60 := fun q hq => by
  rcases List.mem_or_eq_of_mem_set hq with h1 | rfl
  · exact h q h1
  · exact hx
theorem StOk.print {n : Int} {k : Nat} {l : List Pc} {root : Int} {i : Nat} (hi : i < l.length) {p : Int} (hn : n ≠ 0) (h : DrawnS k l root) : StOk n (l.set i (p, l[i].2)) root := by
  obtain ⟨h1, h2⟩ := drawnS_ok h
  have hl := storeV_len h1
  refine ⟨fun hv => ?_, fit_set (store_fit60 h1) (show l[i].2.size ≤ 60 from store_fit60 h1 _ (List.getElem_mem hi)), by rw [List.length_set]; omega, by rw [List.length_set]; omega, fun h => absurd h hn⟩
  rw [turned_print hi h1 hv]; exact h2
theorem StOk.text {n : Int} {k : Nat} {l : List Pc} {root : Int} {i : Nat} (hi : i < l.length) (hn : n ≠ 0) (h : DrawnS k l root) : StOk n (l.set i (l[i].1, turnedT)) root := by
  obtain ⟨h1, h2⟩ := drawnS_ok h
  have hl := storeV_len h1
  exact ⟨fun hv => turned_text hi h1 h2 turnedT_no hv, fit_set (store_fit60 h1) (show turnedT.size ≤ 60 by decide), by rw [List.length_set]; omega, by rw [List.length_set]; omega, fun h => absurd h hn⟩
theorem StOk.twice {n : Int} {k : Nat} {l : List Pc} {root : Int} (hi : 0 < l.length) (hn : n ≠ 0) (h : DrawnS k l root) : StOk n (l ++ [l[0]]) root := by
  obtain ⟨h1, h2⟩ := drawnS_ok h
  have hl := storeV_len h1
  refine ⟨fun hv => ?_, fun q hq => ?_, by rw [List.length_append, List.length_singleton]; omega, by rw [List.length_append, List.length_singleton]; omega, fun h => absurd h hn⟩
  · rw [twice_bad (List.length_pos_iff.1 hi)] at hv; cases hv
  · rcases List.mem_append.1 hq with h | h
    · exact store_fit60 h1 q h
    · rw [List.mem_singleton] at h; subst h; exact store_fit60 h1 _ (List.getElem_mem hi)
/-! ### one piece more, in whatever order -/
abbrev rowPc (y : Pc) : Obj := .cells #[.int .i64 y.1, .string y.2] 44
abbrev madePc : Obj := .cells #[] 44
def RowPc (w : World) (g : Nat) (y : Pc) : Prop := w.cell? ⟨g, 0, none⟩ = some (.int .i64 y.1) ∧ w.cell? ⟨g, 1, none⟩ = some (.string y.2)
theorem RowPc.new (w : World) (y : Pc) : RowPc (w.alloc (rowPc y)) w.heap.size y := ⟨new_cell rfl, new_cell rfl⟩
theorem RowPc.alloc {w : World} {g : Nat} {y : Pc} (h : RowPc w g y) (x : Obj) : RowPc (w.alloc x) g y := ⟨cell_alloc h.1, cell_alloc h.2⟩
theorem RowPc.grew {w w' : World} {g : Nat} {y : Pc} {v : Value} (h : RowPc w g y) (hg : Grew v w w') (hv : v.ownBlock ≠ some g) : RowPc w' g y := ⟨hg.cell hv h.1, hg.cell hv h.2⟩
theorem RowPc.below {w w' : World} {g : Nat} {y : Pc} (h : RowPc w g y) (hb : Below w.heap.size w w') : RowPc w' g y := ⟨Below_cells hb _ _ _ h.1, Below_cells hb _ _ _ h.2⟩
section
variable {ops : Array Oper} {rest : List Oper} {o : Oper} {a : Act} {K : Act → World → Prop} {Q : Exit → Act → World → Prop} {E' : Prop} {w0 w1 wr : World} {l m : List Pc} {A : Option Addr} {c : Nat} {y : Pc} {s x : Operand} {v : Value}
theorem step_pqN {l m : List Pc} (hgd : o.guard = none) (ho : o.op = .call { callee := .builtin .append, args := #[s, x], argTypes := #[23, 23] })
    (hown : Own wr w0.heap.size 44 2 encP v l) (hb : Below w0.heap.size w0 wr) (hn : l.length + m.length ≤ 33554432) (hsl : Sl wr encP 2 A m) (hcz : A = none → c = 0)
    (hs : a.eval s = v) (hx : a.eval x = .slice A m.length c)
    (h : ∀ v' w', Own w' w0.heap.size 44 2 encP v' (l ++ m) → Below w0.heap.size w0 w' → Grew v wr w' → K (a.put o.dst v') w') : if Region.wanted o (yielded ops a.tmps) = true then Oper.wp Tryd.prog o a wr K Q else E' := by
  obtain ⟨i0, hi0, hz0, hz1, hz2⟩ := info_parts pc_info
  exact step_appN Tryd.underlying23 hi0 hz0 hz1 hz2 rfl (by decide) (by decide) hgd s x ho hown hb (Nat.le_refl _) hb.size hn hsl hcz (fun _ => rfl) oneP hs hx h
theorem step_pq {g : Nat} (hgd : o.guard = none) (ho : o.op = .call { callee := .builtin .append, args := #[s, x], argTypes := #[23, 23] })
    (hown : Own wr w0.heap.size 44 2 encP v l) (hb : Below w0.heap.size w0 wr) (hn : l.length ≤ 16777216) (hr : RowPc wr g y)
    (hs : a.eval s = v) (hx : a.eval x = .slice (some ⟨g, 0, none⟩) 1 1)
    (h : ∀ v' w', Own w' w0.heap.size 44 2 encP v' (l ++ [y]) → Below w0.heap.size w0 w' → K (a.put o.dst v') w') : if Region.wanted o (yielded ops a.tmps) = true then Oper.wp Tryd.prog o a wr K Q else E' := by
  obtain ⟨i0, hi0, hz0, hz1, hz2⟩ := info_parts pc_info
  exact step_app1 Tryd.underlying23 hi0 hz0 hz1 hz2 rfl (by decide) (by decide) hgd s x ho hs hx hown hb (Nat.le_refl _) hb.size hn y (by
    intro j u hu
    have hj : j < 2 := by have := (List.getElem?_eq_some_iff.1 hu).1; simp [encP] at this; omega
    match j, hj with
    | 0, _ => simp [encP] at hu; rw [← hu]; exact hr.1
    | 1, _ => simp [encP] at hu; rw [← hu]; exact hr.2) rfl (oneP y) h
theorem step_pq_a (hsl : Sl w1 encP 2 A l) (hcz : A = none → c = 0) (hl : l.length ≤ 16777216) (hgd : o.guard = none) (ho : o.op = .call { callee := .builtin .append, args := #[s, x], argTypes := #[23, 23] })
    (hs : a.eval s = .slice (some ⟨w1.heap.size, 0, none⟩) 0 0) (hx : a.eval x = .slice A l.length c)
    (h : ∀ v' w', Own w' w1.heap.size 44 2 encP v' l → Below w1.heap.size w1 w' → K (a.put o.dst v') w') : if Region.wanted o (yielded ops a.tmps) = true then Oper.wp Tryd.prog o a (w1.alloc madePc).drew K Q else E' :=
  step_pqN (w0 := w1) (l := []) hgd ho ((Own.made (w := w1) (Nat.le_refl _)).drew) (((Below.refl _ _).alloc (Nat.le_refl _) _).drew) (by simp; omega) ((hsl.alloc _).drew) hcz hs hx fun v' w' h1 h2 _ => h v' w' h1 h2
theorem step_pq_b (hsl : Sl w1 encP 2 A l) (hcz : A = none → c = 0) (hl : l.length ≤ 16777216) (hgd : o.guard = none) (ho : o.op = .call { callee := .builtin .append, args := #[s, x], argTypes := #[23, 23] })
    (hs : a.eval s = .slice (some ⟨w1.heap.size, 0, none⟩) 0 0) (hx : a.eval x = .slice A l.length c)
    (h : ∀ v' w', Own w' w1.heap.size 44 2 encP v' l → Below w1.heap.size w1 w' → RowPc w' (w1.heap.size + 1) y → K (a.put o.dst v') w') : if Region.wanted o (yielded ops a.tmps) = true then Oper.wp Tryd.prog o a ((w1.alloc madePc).alloc (rowPc y)).drew K Q else E' := by
  have hz : w1.heap.size ≤ (w1.alloc madePc).heap.size := by simp
  have hr := RowPc.new (w1.alloc madePc) y
  have hzz : (w1.alloc madePc).heap.size = w1.heap.size + 1 := by simp
  rw [hzz] at hr
  exact step_pqN (w0 := w1) (l := []) hgd ho (((Own.made (w := w1) (Nat.le_refl _)).alloc _).drew) ((((Below.refl _ _).alloc (Nat.le_refl _) _).alloc hz _).drew) (by simp; omega) (((hsl.alloc _).alloc _).drew) hcz hs hx fun v' w' h1 h2 h3 => h v' w' h1 h2 (RowPc.grew (w := ((w1.alloc madePc).alloc (rowPc y)).drew) hr h3 (by simp [Value.ownBlock]))
theorem step_pq_c (hsl : Sl w1 encP 2 A l) (hcz : A = none → c = 0) (hl : l.length ≤ 16777216) (hgd : o.guard = none) (ho : o.op = .call { callee := .builtin .append, args := #[s, x], argTypes := #[23, 23] })
    (hs : a.eval s = .slice (some ⟨w1.heap.size + 1, 0, none⟩) 0 0) (hx : a.eval x = .slice A l.length c)
    (h : ∀ v' w', Own w' w1.heap.size 44 2 encP v' l → Below w1.heap.size w1 w' → RowPc w' w1.heap.size y → K (a.put o.dst v') w') : if Region.wanted o (yielded ops a.tmps) = true then Oper.wp Tryd.prog o a ((w1.alloc (rowPc y)).alloc madePc).drew K Q else E' := by
  have hz : w1.heap.size ≤ (w1.alloc (rowPc y)).heap.size := by simp
  have hr := (RowPc.new w1 y).alloc madePc
  have hm := (Own.made (enc := encP) (E := 44) (size := 2) (w := w1.alloc (rowPc y)) hz).drew
  have hzz : (w1.alloc (rowPc y)).heap.size = w1.heap.size + 1 := by simp
  rw [hzz] at hm
  exact step_pqN (w0 := w1) (l := []) hgd ho hm ((((Below.refl _ _).alloc (Nat.le_refl _) _).alloc hz _).drew) (by simp; omega) (((hsl.alloc _).alloc _).drew) hcz hs hx fun v' w' h1 h2 h3 => h v' w' h1 h2 (RowPc.grew (w := ((w1.alloc (rowPc y)).alloc madePc).drew) hr h3 (by simp [Value.ownBlock]))
end
theorem firstRow {w : World} {G : Nat} {l : List Pc} (h : Sl w encP 2 (some ⟨G, 0, none⟩) l) (hl : 0 < l.length) : RowPc w G l[0] := by
  obtain ⟨b, o, e, hc0, hc1⟩ := h.getP hl
  injection e with e; injection e with e1 e2
  subst e1; subst e2
  exact ⟨by simpa using hc0, by simpa using hc1⟩
theorem rowAt {w : World} {G i : Nat} {l : List Pc} (h : Sl w encP 2 (some ⟨G, 0, none⟩) l) (hl : i < l.length) : w.cell? ⟨G, i * 2, none⟩ = some (.int .i64 l[i].1) ∧ w.cell? ⟨G, i * 2 + 1, none⟩ = some (.string l[i].2) := by
  obtain ⟨b, o, e, hc0, hc1⟩ := h.getP hl
  injection e with e; injection e with e1 e2
  subst e1; subst e2
  exact ⟨by simpa using hc0, by simpa using hc1⟩
set_option maxHeartbeats 4000000 in
set_option maxRecDepth 100000 in
theorem l20Store_any (n : Int) (g p : Nat) (w : World) (hr : Rdr w g p) (hp : p ≤ 700000000) (hn : n ≤ 1000000000) :
    Calls Tryd.prog 20 #[.pointer (some ⟨g, 0, none⟩), .int .i64 n] w (StoreRes n w g p) := by
  have HR := Lib.hid hr
  have hlt := hr.lt
  clear hr
  have hER := fun g2 w => sEmptyRoot_any (some ⟨g2, 0, none⟩) 0 [] w (Sl.gone rfl) (by intro h; cases h) (Nat.le_refl _) (by simp) (by intro q hq; cases hq)
  unfold PutRes at hER
  simp only [List.length_nil] at hER
  have hbase := DrawnS.base
  generalize putT [] foldE = R at *
  obtain ⟨R1, R2, R3⟩ := R
  simp only at hER hbase
  have HBASE := Lib.hid hbase
  have HER := Lib.hid hER
  clear hER hbase
  go_enter Tryd.func20, Tryd.ntmps20
  go_wp2_with fail
  refine (HER.out _ _).mono ?_
  rintro e w1 ⟨v1, rfl, hown1, hb1⟩
  have HB1 := Lib.hid (Below_of_alloc hb1)
  have HW1 := Lib.hid (hown1.mono (show w.heap.size ≤ _ by simp))
  have HR1 := Lib.hid (HR.out.below HB1.out)
  have HO1 := Lib.hid (Only.of_below (g := g) HB1.out)
  clear hown1 hb1
  go_wp2_with fail
  refine (pick_any 6 _ _ _ HR1.out (by omega) (by omega)).mono ?_
  rintro e w2 ⟨a, rfl, ha, ho2, hr2⟩
  have ha' : a ≤ 5 := by omega
  have HR2 := Lib.hid hr2
  have HO2 := Lib.hid (HO1.out.trans ho2)
  have HW2 := Lib.hid (HW1.out.only ho2 hlt)
  clear hr2 ho2 ha
  go_wp2_with fail
  go_loopw [6, 7, 9] (fun vs vr vk wr => ∃ (j : Nat) (l : List Pc) (root : Int) (p1 k : Nat), vk = .int .i64 j ∧ vr = .int .i64 root ∧ j + k ≤ 5 ∧ Hid (DrawnS k l root) ∧ Hid (Own wr w.heap.size 44 2 encP vs l) ∧ Hid (Only g w wr) ∧ Hid (Rdr wr g p1) ∧ p1 + 3 * j ≤ p + 16) (fun _ _ vk _ => (intOf vk).toNat)
  case atStart => exact ⟨a, R1, R2, p + 1, 0, rfl, rfl, by omega, HBASE.out, HW2.out, HO2.out, HR2.out, by omega⟩
  case round =>
    obtain ⟨j, l, root, p1, k, rfl, rfl, hjk, HD, HW3, HO3, HR3, hp1⟩ := hrel
    have hv := (drawnS_ok HD.out).1
    by_cases hj : 0 < j
    · have hj' : (0 : Int) < (j : Int) := by omega
      go_wp2_with fail
      refine (l20Step_any w.heap.size g p1 _ l root _ HR3.out (by omega) hlt HO3.out.size HW3.out hv).mono ?_
      rintro e w4 ⟨v4, l4, r4, b4, p4, rfl, hown4, hst, ho4, hr4, hp4⟩
      have HW4 := Lib.hid hown4
      have HO4 := Lib.hid (HO3.out.trans ho4)
      have HR4 := Lib.hid hr4
      have HST := Lib.hid hst
      clear hown4 ho4 hr4 hst
      go_wp2
      go_roundw
      case rel => exact ⟨j - 1, l4, r4, p4, k + 1, by go_num, rfl, by omega, .step HD.out HST.out, HW4.out, HO4.out, HR4.out, by omega⟩
      case measure => simp [intOf]; omega
    · obtain rfl : j = 0 := by omega
      by_cases hn0 : n = 0
      · subst hn0
        go_wp2_with fail
        refine (odd0_any _ _ _ HR3.out (by omega)).mono ?_
        rintro e w4 ⟨rfl, rfl⟩
        go_wp2
        go_ret2
        exact ⟨_, l, root, p1, rfl, HW3.out, StOk.of (by omega) HD.out, HO3.out, HR3.out, by omega⟩
      · go_wp2_with fail
        refine (odd_any _ _ _ _ HR3.out (by omega) hn).mono ?_
        rintro e w4 ⟨b4, p4, rfl, ho4, hr4, hp4⟩
        have HW4 := Lib.hid (HW3.out.only ho4 hlt)
        have HO4 := Lib.hid (HO3.out.trans ho4)
        have HR4 := Lib.hid hr4
        clear ho4 hr4
        cases b4
        · go_wp2
          go_ret2
          exact ⟨_, l, root, p4, rfl, HW4.out, StOk.of (by omega) HD.out, HO4.out, HR4.out, by omega⟩
        · go_wp2_with fail
          refine (pick_any 3 _ _ _ HR4.out (by omega) (by omega)).mono ?_
          rintro e w5 ⟨x, rfl, hx, ho5, hr5⟩
          have HW5 := Lib.hid (HW4.out.only ho5 hlt)
          have HO5 := Lib.hid (HO4.out.trans ho5)
          have HR5 := Lib.hid hr5
          clear ho5 hr5
          have hpos := drawnS_pos HD.out
          have hl40 := storeV_len hv
          have hz5 := HO5.out.size
          obtain ⟨G, cap, rfl, hG, hcap, hcm, _⟩ := HW5.out.row hpos
          have HSL := Lib.hid HW5.out.sl'
          have hx3 : x = 0 ∨ x = 1 ∨ x = 2 := by omega
          rcases hx3 with rfl | rfl | rfl
          · go_wp2_with (at_builtin; refine app_pcN (w0 := w5) (l := []) rfl rfl (Own.made (Nat.le_refl _)) ((Below.refl _ _).alloc (Nat.le_refl _) _) (by simp; omega) (HSL.out.alloc _) (by intro h; cases h) (by rfl) (by rfl) ?_; intro v6 w6 hown6 hb6 hg6; rw [List.nil_append] at hown6; obtain ⟨G2, cap2, rfl, hG2, hcap2, hcm2, _⟩ := hown6.row hpos; have HW6 := Lib.hid (hown6.mono hz5); have HO6 := Lib.hid (HO5.out.trans (Only.of_below hb6)); have HR6 := Lib.hid (HR5.out.below hb6); clear hown6 hb6 hg6)
            refine (pick_any (l.length : Int) _ _ _ HR6.out (by omega) (by omega)).mono ?_
            rintro e w7 ⟨y, rfl, hy, ho7, hr7⟩
            have hyl : y < l.length := by omega
            have HW7 := Lib.hid (HW6.out.only ho7 hlt)
            have HO7 := Lib.hid (HO6.out.trans ho7)
            have HR7 := Lib.hid hr7
            clear ho7 hr7
            go_wp2_with fail
            refine (pick_lit 2 (intB (-1) 5) HR7.out (by omega) rfl (by omega) (by omega) (by decide)).mono ?_
            rintro e w8 ⟨z, u, rfl, hz, hcz, hu, ho8, hr8⟩
            obtain ⟨m, rfl, hm0, hm1⟩ := intB_iff hu
            have HW8 := Lib.hid (HW7.out.only ho8 hlt)
            have HO8 := Lib.hid (HO7.out.trans ho8)
            have HR8 := Lib.hid hr8
            clear ho8 hr8 hu
            have hfz := HW8.out.free' (y * 2)
            obtain ⟨b3, o3, e3, hc0, hc1⟩ := HW8.out.sl'.getP hyl
            injection e3 with e3; injection e3 with e4 e5
            subst e4; subst e5
            simp only [Nat.zero_add] at hc0 hc1
            have HSET := Lib.hid (HW8.out.setPrint hyl m)
            have HOF := Lib.hid (HO8.out.setNew (p := ⟨G2, y * 2, none⟩) (show w.heap.size ≤ G2 by omega) (.int .i64 m))
            have HRF := Lib.hid (HR8.out.setNew (q := ⟨G2, y * 2, none⟩) (by show g < G2; omega) (.int .i64 m))
            have HSO := Lib.hid (StOk.print (n := n) (p := m) hyl hn0 HD.out)
            have hyl' : (y : Int) < (l.length : Int) := by omega
            clear hc1 hy
            generalize l[y] = q at *
            obtain ⟨q1, q2⟩ := q
            simp only at *
            go_wp2
            go_ret2
            exact ⟨_, _, root, _, rfl, HSET.out, HSO.out, HOF.out, HRF.out, by omega⟩
          · have HRW := Lib.hid (firstRow HSL.out hpos)
            have HSO := Lib.hid (StOk.twice (n := n) hpos hn0 HD.out)
            have hpos' : (0 : Int) < (l.length : Int) := by omega
            have HC := Lib.hid (show (some ⟨G, 0, none⟩ : Option Addr) = none → cap = 0 from fun h => by cases h)
            have HL := Lib.hid (show l.length ≤ 16777216 by omega)
            have HLEN := Lib.hid (show (l ++ [l[0]]).length = l.length + 1 by simp)
            have HZ := Lib.hid (show w5.heap.size < (w5.alloc madePc).heap.size by simp)
            have HZ2 := Lib.hid (show w5.heap.size < (w5.alloc (rowPc l[0])).heap.size by simp)
            have HD0 := Lib.hid (Below.refl w5.heap.size w5).drew
            generalize hy0 : l[0] = y0 at *
            clear hy0
            go_wp2_with fail
            go_region_held3 (fun w' => w'.cell? ⟨G, 0, none⟩ = some (.int .i64 y0.1) ∧ w'.cell? ⟨G, 1, none⟩ = some (.string y0.2))
              (first | assumption | exact HRW.out | exact HRW.out.below HD0.out | exact HRW.out.below HB3.out | exact HRW.out.below HB2.out | exact HRW.out.below HBR.out | exact HRW.out.below ((Below.refl _ _).alloc (Nat.le_refl _) _).drew | exact HRW.out.below (((Below.refl _ _).alloc (Nat.le_refl _) _).alloc (Nat.le_of_lt HZ.out) _).drew | exact HRW.out.below (((Below.refl _ _).alloc (Nat.le_refl _) _).alloc (Nat.le_of_lt HZ2.out) _).drew)
              ((first
                | (refine step_pq_a HSL.out HC.out HL.out rfl rfl (by rfl) (by rfl) ?_; intro v2 w2 hown2 hb2; have HW2 := Lib.hid (hown2.alloc (rowPc y0)); have HB2 := Lib.hid hb2; have HBR := Lib.hid (hb2.alloc hb2.size (rowPc y0)); have HRR := Lib.hid (RowPc.new w2 y0); clear hown2 hb2)
                | (refine step_pq_b (y := y0) HSL.out HC.out HL.out rfl rfl (by rfl) (by rfl) ?_; intro v2 w2 hown2 hb2 hr2; have HW2 := Lib.hid hown2; have HB2 := Lib.hid hb2; have HBR := HB2; have HRR := Lib.hid hr2; clear hown2 hb2 hr2)
                | (refine step_pq_c (y := y0) HSL.out HC.out HL.out rfl rfl (by rfl) (by rfl) ?_; intro v2 w2 hown2 hb2 hr2; have HW2 := Lib.hid hown2; have HB2 := Lib.hid hb2; have HBR := HB2; have HRR := Lib.hid hr2; clear hown2 hb2 hr2)
                | (refine step_pq rfl rfl HW2.out HBR.out HL.out HRR.out (by rfl) (by rfl) ?_; intro v3 w3 hown3 hb3; have HW3 := Lib.hid hown3; have HB3 := Lib.hid hb3; clear hown3 hb3)))
            all_goals
              have HWF := Lib.hid (HW3.out.mono hz5)
              have HOF := Lib.hid (HO5.out.trans (Only.of_below HB3.out))
              have HRF := Lib.hid (HR5.out.below HB3.out)
              go_wp2
              go_ret2
              exact ⟨_, _, root, _, rfl, HWF.out, HSO.out, HOF.out, HRF.out, by omega⟩
          · have hlast : l.length - 1 < l.length := by omega
            have hl2 : (0 : Int) ≤ (l.length : Int) - 1 := by omega
            have hl3 : ((l.length : Int) - 1).toNat = l.length - 1 := by omega
            have hl4 : (l.length : Int) - 1 < (l.length : Int) := by omega
            have hl5 : IntKind.i64.wrap ((l.length : Int) - 1) = (l.length : Int) - 1 := by rw [IntKind.wrap_i64]; omega
            go_wp2_with (at_builtin; go_loud (refine app_pcN (w0 := w5) (l := []) rfl rfl (Own.made (Nat.le_refl _)) ((Below.refl _ _).alloc (Nat.le_refl _) _) (by first | omega | (simp; omega)) (HSL.out.alloc _) (by intro h; cases h) (by rfl) (by rfl) ?_; intro v6 w6 hown6 hb6 hg6; rw [List.nil_append] at hown6; obtain ⟨G2, cap2, rfl, hG2, hcap2, hcm2, _⟩ := hown6.row hpos; have HW6 := Lib.hid (hown6.mono hz5); have HO6 := Lib.hid (HO5.out.trans (Only.of_below hb6)); have HR6 := Lib.hid (HR5.out.below hb6); clear hown6 hb6 hg6; have hfz := HW6.out.free' ((l.length - 1) * 2 + 1); have hcc := rowAt HW6.out.sl' hlast; have hc0 := hcc.1; have hc1 := hcc.2; clear hcc))
            have HSET := Lib.hid (HW6.out.setText hlast turnedT)
            have HOF := Lib.hid (HO6.out.setNew (p := ⟨G2, (l.length - 1) * 2 + 1, none⟩) (show w.heap.size ≤ G2 by omega) (.string turnedT))
            have HRF := Lib.hid (HR6.out.setNew (q := ⟨G2, (l.length - 1) * 2 + 1, none⟩) (by show g < G2; omega) (.string turnedT))
            have HSO := Lib.hid (StOk.text (n := n) hlast hn0 HD.out)
            go_ret2
            exact ⟨_, _, root, _, rfl, HSET.out, HSO.out, HOF.out, HRF.out, by omega⟩
end Go.Proofs.YtaghiefokmapmaaDoor

/- BundleLines, walked. -/
set_option linter.unusedVariables false
namespace Go.Proofs.YtaghiefokmapmaaDoor
open Go.RowKit
--BEGIN
def lineOf (p : Pc) : ByteArray := mk (hexT p.1) ++ ⟨#[32]⟩ ++ p.2
def bundL (l : List Pc) : List ByteArray := if storeV l then l.map lineOf else []
theorem bundL_len (l : List Pc) : (bundL l).length ≤ l.length := by unfold bundL; split <;> simp
theorem bundL_take {l : List Pc} {k : Nat} (h : k < l.length) : (l.take (k + 1)).map lineOf = (l.take k).map lineOf ++ [lineOf l[k]] := by
  rw [List.take_succ_eq_append_getElem h, List.map_append]; rfl
set_option maxHeartbeats 4000000 in
set_option maxRecDepth 100000 in
theorem iBundleLines_any (A : Option Addr) (c : Nat) (l : List Pc) (w : World) (hs : Sl w encP 2 A l) (hl : l.length ≤ 16777216) (hf : FitP l) (ht : TzL w) :
    Calls Tryd.prog 7 #[.slice A l.length c] w (OwnRes 9 1 encS (bundL l) w) := by
  have HS := Lib.hid hs
  have HF := Lib.hid hf
  have HT := Lib.hid ht
  have hsv := fun w h => iStoreValid_any A c l w h hl hf
  clear hs hf ht
  unfold OwnRes
  cases hv : storeV l
  · have E := Lib.hid (show bundL l = [] by unfold bundL; rw [hv]; rfl)
    rw [hv] at hsv
    have HSV := Lib.hid hsv
    clear hsv hv
    rw [E.out]
    go_enter Tryd.func7, Tryd.ntmps7
    go_wp2_with fail
    refine (HSV.out _ HS.out).mono ?_
    rintro e w1 ⟨rfl, hb⟩
    have HB := Lib.hid hb
    clear hb
    go_wp2
    go_ret
    exact ⟨_, rfl, Own.nil, HB.out⟩
  · have E := Lib.hid (show bundL l = l.map lineOf by unfold bundL; rw [hv]; rfl)
    rw [hv] at hsv
    have HSV := Lib.hid hsv
    have hl40 := storeV_len hv
    clear hsv hv
    rw [E.out]
    go_enter Tryd.func7, Tryd.ntmps7
    go_wp2_with fail
    refine (HSV.out _ HS.out).mono ?_
    rintro e w1 ⟨rfl, hb⟩
    have HB := Lib.hid hb
    have HS1 := Lib.hid (HS.out.below hb)
    have HT1 := Lib.hid (HT.out.below hb)
    clear hb
    go_wp2_with fail
    go_loopw [3, 11] (fun v i wr => ∃ (k : Nat) (acc : List ByteArray), k ≤ l.length ∧ i = .int .i64 k ∧ acc.length = k ∧ Hid (acc = (l.take k).map lineOf) ∧ Hid (Own wr w1.heap.size 9 1 encS v acc) ∧ Hid (Below w1.heap.size w1 wr)) (fun _ i _ => l.length - (intOf i).toNat)
    case atStart => exact ⟨0, [], Nat.zero_le _, rfl, rfl, rfl, Own.nil, Below.refl _ _⟩
    case round =>
      obtain ⟨k, acc, hk, rfl, hak, HA, HO, HBW⟩ := hrel
      by_cases hlt : k < l.length
      · obtain ⟨b, o, rfl, hc0, hc1⟩ := (HS1.out.below HBW.out).getP hlt
        have hfk := HF.out.at hlt
        have hst := bundL_take hlt
        have HT2 := Lib.hid (HT1.out.below HBW.out)
        generalize l[k] = p at *
        obtain ⟨a, t⟩ := p
        simp only at *
        have hz1 : (mk (hexT a)).size ≤ 6 := by rw [mk_size]; exact hexT_len a
        have hz2 : (mk (hexT a) ++ ⟨#[32]⟩).size ≤ 7 := by rw [ByteArray.size_append]; exact Nat.add_le_add_right hz1 1
        have hq1 := str_add (x := mk (hexT a)) (y := ⟨#[32]⟩) (by omega) (by simp [ByteArray.size])
        have hq2 := str_add (x := mk (hexT a) ++ ⟨#[32]⟩) (y := t) (by omega) (by omega)
        have HNE := Lib.hid HO.out.ne
        have HH := Lib.hid (fun w h => iHexText_any a w h)
        have HN := Lib.hid (show acc ++ [mk (hexT a) ++ ⟨#[32]⟩ ++ t] = (l.take (k + 1)).map lineOf by rw [hst, HA.out]; rfl)
        have HL := Lib.hid (show acc.length ≤ 16777216 by omega)
        have HK := Lib.hid (show (wr.alloc (.cells #[.int .i64 a, .string t] 44)).cell? ⟨wr.heap.size, 0, none⟩ = some (.int .i64 a) ∧ (wr.alloc (.cells #[.int .i64 a, .string t] 44)).cell? ⟨wr.heap.size, 1, none⟩ = some (.string t) from ⟨new_cell rfl, new_cell rfl⟩)
        have HT3 := Lib.hid (HT2.out.below ((Below.refl _ _).alloc (Nat.le_refl _) (.cells #[.int .i64 a, .string t] 44)))
        clear hst
        go_wp2_with fail
        clear hc0 hc1
        first
          | go_region_held3 (fun w' => w'.cell? ⟨wr.heap.size, 0, none⟩ = some (.int .i64 a) ∧ w'.cell? ⟨wr.heap.size, 1, none⟩ = some (.string t))
              (first | assumption | exact HK.out | exact keep2 HB3.out HK.out | exact keep2 (HB3.out.alloc HB3.out.size _) HK.out | exact HK4.out)
              ((first
                | (go_at_call 22; refine (HH.out _ (by exact HT3.out)).mono ?_; rintro e w3 ⟨rfl, hb3⟩; have HB3 := Lib.hid (Below_drew hb3); clear hb3)
                | (refine step_str_e (w0 := w1) (HO.out.below (Below_of_alloc HB3.out)) (Below_then HBW.out (Below_of_alloc HB3.out) (Nat.le_refl _)) HL.out (by rfl) rfl (by rfl) (by rfl) ?_; intro v4 w4 hown4 hb4 hg4; have HW4 := Lib.hid hown4; have HB4 := Lib.hid hb4; have HK4 := Lib.hid (keep2G hg4 HNE.out (keep2 (HB3.out.alloc HB3.out.size _) HK.out)); clear hown4 hb4 hg4)))
          | fail
        all_goals
          go_wp2
          go_roundw
          case rel => exact ⟨k + 1, _, by omega, by go_num, by simp; omega, HN.out, HW4.out, HB4.out⟩
          case measure => simp [intOf]; omega
      · have HE := Lib.hid (show acc = l.map lineOf by rw [HA.out, List.take_of_length_le (by omega)])
        have HB2 := Lib.hid (Below_then HB.out HBW.out (Nat.le_refl _))
        have HOO := Lib.hid (HO.out.mono HB.out.size)
        go_wp2
        go_ret
        rw [← HE.out]
        exact ⟨_, rfl, HOO.out, HB2.out⟩
set_option maxHeartbeats 4000000 in
set_option maxRecDepth 100000 in
theorem sBundleLines_any (A : Option Addr) (c : Nat) (l : List Pc) (w : World) (hs : Sl w encP 2 A l) (hl : l.length ≤ 16777216) (hf : FitP l) :
    Calls Tryd.prog 9 #[.slice A l.length c] w (OwnRes 9 1 encS (bundL l) w) := by
  have HS := Lib.hid hs
  have HF := Lib.hid hf
  have hsv := fun w h => sStoreValid_any A c l w h hl hf
  clear hs hf
  unfold OwnRes
  cases hv : storeV l
  · have E := Lib.hid (show bundL l = [] by unfold bundL; rw [hv]; rfl)
    rw [hv] at hsv
    have HSV := Lib.hid hsv
    clear hsv hv
    rw [E.out]
    by_cases h0 : l.length = 0
    · have h0' : decide ((0 : Int) < (l.length : Int)) = false := decide_eq_false (by omega)
      go_enter Tryd.func9, Tryd.ntmps9
      go_wp2_with fail
      go_loopw [3, 4] (fun v i wr => v = .slice (some ⟨w.heap.size, 0, none⟩) 0 0 ∧ i = .int .i64 0 ∧ wr = w.alloc (.cells #[] 9)) (fun _ _ _ => 0)
      case atStart => exact ⟨rfl, rfl, rfl⟩
      case round =>
        obtain ⟨rfl, rfl, rfl⟩ := hrel
        go_wp2
        go_ret
        exact ⟨_, rfl, Own.made (Nat.le_refl _), (Below.refl _ _).alloc (Nat.le_refl _) _⟩
    · have h0' : decide ((0 : Int) < (l.length : Int)) = true := decide_eq_true (by omega)
      go_enter Tryd.func9, Tryd.ntmps9
      go_wp2_with fail
      go_loopw [3, 4] (fun v i wr => v = .slice (some ⟨w.heap.size, 0, none⟩) 0 0 ∧ i = .int .i64 0 ∧ wr = w.alloc (.cells #[] 9)) (fun _ _ _ => 0)
      case atStart => exact ⟨rfl, rfl, rfl⟩
      case round =>
        obtain ⟨rfl, rfl, rfl⟩ := hrel
        go_wp2_with fail
        refine (HSV.out _ (HS.out.alloc _)).mono ?_
        rintro e w1 ⟨rfl, hb⟩
        have HW := Lib.hid ((Own.made (w := w) (enc := encS) (E := 9) (size := 1) (Nat.le_refl _)).below hb)
        have HB := Lib.hid (Below_of_alloc hb)
        clear hb
        go_wp2
        go_ret
        exact ⟨_, rfl, HW.out, HB.out⟩
  · have E := Lib.hid (show bundL l = l.map lineOf by unfold bundL; rw [hv]; rfl)
    rw [hv] at hsv
    have HSV := Lib.hid hsv
    have hl40 := storeV_len hv
    clear hsv hv
    rw [E.out]
    go_enter Tryd.func9, Tryd.ntmps9
    go_wp2_with fail
    go_loopw [3, 4] (fun v i wr => ∃ (k : Nat) (acc : List ByteArray), k ≤ l.length ∧ i = .int .i64 k ∧ acc.length = k ∧ Hid (acc = (l.take k).map lineOf) ∧ Hid (Own wr w.heap.size 9 1 encS v acc) ∧ Hid (Below w.heap.size w wr)) (fun _ i _ => l.length - (intOf i).toNat)
    case atStart => exact ⟨0, [], Nat.zero_le _, rfl, rfl, rfl, Own.made (Nat.le_refl _), (Below.refl _ _).alloc (Nat.le_refl _) _⟩
    case round =>
      obtain ⟨k, acc, hk, rfl, hak, HA, HO, HBW⟩ := hrel
      by_cases hlt : k < l.length
      · have hlt' : decide ((k : Int) < (l.length : Int)) = true := decide_eq_true (by omega)
        obtain ⟨b, o, rfl, hd0, hd1⟩ := HS.out.getP hlt
        have hfk := HF.out.at hlt
        have hst := bundL_take hlt
        generalize l[k] = p at *
        obtain ⟨a, t⟩ := p
        simp only at *
        have hz1 : (mk (hexT a)).size ≤ 6 := by rw [mk_size]; exact hexT_len a
        have hz2 : (mk (hexT a) ++ ⟨#[32]⟩).size ≤ 7 := by rw [ByteArray.size_append]; exact Nat.add_le_add_right hz1 1
        have hq1 := str_add (x := mk (hexT a)) (y := ⟨#[32]⟩) (by omega) (by simp [ByteArray.size])
        have hq2 := str_add (x := mk (hexT a) ++ ⟨#[32]⟩) (y := t) (by omega) (by omega)
        have HH := Lib.hid (fun w => sHexText_any a w)
        have HN := Lib.hid (show acc ++ [mk (hexT a) ++ ⟨#[32]⟩ ++ t] = (l.take (k + 1)).map lineOf by rw [hst, HA.out]; rfl)
        have HL := Lib.hid (show acc.length ≤ 16777216 by omega)
        have HK1 := Lib.hid (And.intro hd0 hd1)
        clear hst hd0 hd1
        go_wp2_with fail
        refine (HSV.out _ (HS.out.below HBW.out)).mono ?_
        rintro e w2 ⟨rfl, hb2⟩
        have HO2 := Lib.hid (HO.out.below hb2)
        have HB2 := Lib.hid (Below_then HBW.out hb2 (Nat.le_refl _))
        have HK2 := Lib.hid (keepA HB2.out HK1.out)
        clear hb2
        go_wp2_with fail
        first
          | go_region_held3 (fun w' => w'.cell? ⟨b, o + k * 2, none⟩ = some (.int .i64 a) ∧ w'.cell? ⟨b, o + k * 2 + 1, none⟩ = some (.string t))
              (first | assumption | exact HK2.out | exact keepA (HB2.out.drew.alloc HB2.out.size _) HK1.out | exact keepA HB4.out HK1.out)
              ((first
                | (go_at_call 23; refine (HH.out _).mono ?_; rintro e w3 ⟨rfl, rfl⟩)
                | (refine step_str_g (w0 := w) HO2.out HB2.out HL.out (by rfl) rfl (by rfl) (by rfl) ?_; intro v4 w4 hown4 hb4 hg4; have HW4 := Lib.hid hown4; have HB4 := Lib.hid hb4; clear hown4 hb4 hg4)))
          | fail
        all_goals
          go_wp2
          go_roundw
          case rel => exact ⟨k + 1, _, by omega, by go_num, by simp; omega, HN.out, HW4.out, HB4.out⟩
          case measure => simp [intOf]; omega
      · have hlt' : decide ((k : Int) < (l.length : Int)) = false := decide_eq_false (by omega)
        have HE := Lib.hid (show acc = l.map lineOf by rw [HA.out, List.take_of_length_le (by omega)])
        go_wp2
        go_ret
        rw [← HE.out]
        exact ⟨_, rfl, HO.out, HBW.out⟩
end Go.Proofs.YtaghiefokmapmaaDoor

/- Bundles: their prints go on, they can be read. Plain Lean, no program in sight. -/
set_option linter.unusedVariables false
namespace Go.Proofs.YtaghiefokmapmaaDoor
theorem bundF_pv : ∀ (l : List Pc) (n : Int), pv n = true → (∀ p ∈ l, pv p.1 = true) → pv (l.foldl (fun n p => prPair n p.1) n) = true
  | [], n, h, _ => h
  | p :: r, n, h, hl => bundF_pv r _ (prPair_pv h (hl p (by simp))) fun x hx => hl x (by simp [hx])
theorem bundP_pv {l : List Pc} (h : storeV l = true) : pv (bundP l) = true := by
  unfold bundP bundF
  rw [if_pos h]
  exact bundF_pv l 13 (by decide) fun p hp => pieceOk_pv (storeV_piece h hp)
theorem bundP_last {l : List Pc} (h : storeV l = true) {k : Nat} (hk : k + 1 = l.length) : bundP l = prPair (bundP (l.take k)) (l[k]'(by omega)).1 := by
  have h2 : storeV (l.take k) = true := storeV_sub h (List.take_sublist _ _)
  unfold bundP
  rw [if_pos h, if_pos h2]
  have := bundF_take (l := l) (k := k) (by omega)
  rw [List.take_of_length_le (by omega)] at this
  exact this
theorem hex_ne32 (n : Int) : ∀ c ∈ hexT n, c ≠ 32 := fun c hc => (range_ne (hex_range (hexT_chars n c hc))).2.2.2.1
theorem cut_hex (n : Int) (r : Bs) : cutC 32 (hexT n ++ 32 :: r) = some (hexT n, r) := by
  have hh : headC 32 (hexT n ++ 32 :: r) = hexT n := by
    unfold headC
    exact takeWhile_stop (fun c hc => by simpa using hex_ne32 n c hc) (by decide)
  unfold cutC
  rw [hh, if_pos (by simp), drop_past]
theorem lineOf_bs (p : Pc) : bs (lineOf p) = hexT p.1 ++ 32 :: tx p.2 := by
  unfold lineOf bs tx
  simp [mk]
theorem put_next {l : List Pc} {k : Nat} (h : storeV l = true) (hk : k < l.length) : putT (l.take k) l[k].2 = (l.take (k + 1), l[k].1, true) := by
  have h1 : storeV (l.take k) = true := storeV_sub h (List.take_sublist _ _)
  have hp := pieceOk_iff.1 (storeV_piece h (List.getElem_mem hk))
  have hso := List.pairwise_iff_getElem.1 (storeV_sorted h)
  have hl := storeV_len h
  have hlt : (l.take k).length = k := by rw [List.length_take]; omega
  have hsm : ∀ x ∈ l.take k, x.1 < l[k].1 := fun x hx => by
    obtain ⟨j, hj, rfl⟩ := List.getElem_of_mem hx
    rw [hlt] at hj
    rw [List.getElem_take]
    exact hso j k (by omega) hk hj
  have hg : getT (l.take k) (prOf (tx l[k].2)) = none := getT_none_iff.2 fun x hx => by
    have := hsm x hx
    rw [hp.2]; omega
  rw [putT_new h1 hp.1 hg (by omega), hp.2]
  have hb : below (l.take k) l[k].1 = k := below_of _ _ _ (by omega) (fun t ht _ => hsm _ (List.getElem_mem ht)) (fun h => absurd h (by omega))
  rw [hb, List.take_of_length_le (by omega), List.drop_of_length_le (by omega), List.take_succ_eq_append_getElem hk]
theorem read_upto {l : List Pc} (h : storeV l = true) : ∀ k, k ≤ l.length → bundR ((l.map lineOf).take k) = (l.take k, 0)
  | 0, _ => by simp [bundR]
  | k + 1, hk => by
    have ih := read_upto h k (by omega)
    have hk' : k < (l.map lineOf).length := by rw [List.length_map]; omega
    rw [bundR_step hk' ih, List.getElem_map]
    have hput := put_next h (k := k) (by omega)
    have hp := storeV_piece h (List.getElem_mem (show k < l.length by omega))
    rw [lineB_put (x := (hexT l[k].1, tx l[k].2)) (by rw [lineOf_bs]; exact cut_hex _ _)]
    · show ((putT (l.take k) (mk (tx l[k].2))).1, 0) = _
      rw [mk_tx, hput]
    · show pieceOk (readH (hexT l[k].1), mk (tx l[k].2)) = true
      rw [readH_hexT (pieceOk_pv hp), mk_tx]; exact hp
    · show (putT (l.take k) (mk (tx l[k].2))).2.2 = true
      rw [mk_tx, hput]
theorem read_lines {l : List Pc} (h : storeV l = true) : bundR (bundL l) = (l, 0) := by
  have := read_upto h l.length (Nat.le_refl _)
  unfold bundL
  rw [if_pos h]
  rwa [List.take_of_length_le (by simp), List.take_of_length_le (Nat.le_refl _)] at this
end Go.Proofs.YtaghiefokmapmaaDoor

/- Laws' walks: FnExactSpotOf, FnExactFoldName, FnFoldName. -/
set_option linter.unusedVariables false
namespace Go.Proofs.YtaghiefokmapmaaDoor
open Go.RowKit
attribute [local go_sem] mk_toList

/-- A law's end: true, and nothing that was there has turned. -/
def LawOk (w : World) (e : Ending) (w' : World) : Prop := e = .returned (.bool true) ∧ Below w.heap.size w w'

set_option maxHeartbeats 2000000 in
set_option maxRecDepth 100000 in
theorem alive_any (w : World) : Calls Tryd.prog 11 #[] w fun e w' => e = .returned (.bool true) ∧ w = w' := by
  have h1 : wordV (bs ⟨#[97, 49]⟩) = true := by decide
  have h2 : wordV (bs ⟨#[49, 97]⟩) = false := by decide
  go_enter Tryd.func11, Tryd.ntmps11
  go_wp2_with (go_at_call 26; refine (iWordValid_any _ _ (by decide)).mono ?_; rintro e w' ⟨rfl, rfl⟩)
  go_ret
  exact ⟨rfl, rfl⟩

/-! ### spots -/
def spotOf (seed many : Int) : Int := if pv seed && inI many 1 16 then prPair seed 17 % many else -1
/-! ### folded names -/
theorem foldName_facts (s : Bs) : foldName (foldName s) = foldName s ∧ (foldName s ≠ [] → (foldName s).length = s.length) := by
  by_cases h : 1 ≤ s.length ∧ s.length ≤ 8 ∧ s.all fineC = true
  · have e : foldName s = s.map foldC := by unfold foldName; rw [if_pos h]
    have hff : ∀ c, fineC c = true → foldC (foldC c) = foldC c ∧ fineC (foldC c) = true := by
      intro c hc
      have h2 : foldC (foldC c) = foldC c := by
        refine foldC_same ?_
        unfold fineC smallC digitC inI at hc
        simp at hc; omega
      refine ⟨h2, ?_⟩
      unfold fineC at hc ⊢
      rw [h2]; exact hc
    have hall := List.all_eq_true.1 h.2.2
    refine ⟨?_, fun _ => by rw [e]; simp⟩
    rw [e]
    have h3 : 1 ≤ (s.map foldC).length ∧ (s.map foldC).length ≤ 8 ∧ (s.map foldC).all fineC = true := by
      refine ⟨by simpa using h.1, by simpa using h.2.1, ?_⟩
      rw [List.all_eq_true]; intro c hc
      obtain ⟨d, hd, rfl⟩ := List.mem_map.1 hc
      exact (hff d (hall d hd)).2
    have e2 : foldName (s.map foldC) = (s.map foldC).map foldC := by unfold foldName; rw [if_pos h3]
    rw [e2, List.map_map]
    refine List.map_congr_left fun c hc => ?_
    exact (hff c (hall c hc)).1
  · have e : foldName s = [] := by unfold foldName; rw [if_neg h]
    rw [e]
    exact ⟨rfl, fun h => absurd rfl h⟩

theorem foldName_le (s : Bs) : (foldName s).length ≤ 8 := by
  unfold foldName; split
  · rename_i h; simpa using h.2.1
  · simp

end Go.Proofs.YtaghiefokmapmaaDoor

/- FnBundlePrint, walked: prints of stores go on. -/
set_option linter.unusedVariables false
namespace Go.Proofs.YtaghiefokmapmaaDoor
open Go.RowKit
/-- A drawn store. -/
def DrawnSt (n : Int) (w : World) (e : Ending) (w' : World) : Prop :=
  ∃ (v : Value) (l : List Pc) (root : Int), e = .returned v ∧ Own w' w.heap.size 44 2 encP v l ∧ StOk n l root ∧ Below w.heap.size w w'
theorem StOk.fitP {n : Int} {l : List Pc} {root : Int} (h : StOk n l root) : FitP l := fun q hq => Nat.le_trans (h.fit q hq) (by omega)
set_option maxHeartbeats 2000000 in
set_option maxRecDepth 100000 in
theorem DrawBundleLines_any (A : Option Addr) (n c : Nat) (w : World) (hb : BytesIn w A n c) :
    Calls Tryd.prog 6 #[.slice A n c] w (DrawnSt 6 w) := by
  go_enter Tryd.func6, Tryd.ntmps6
  go_wp2_with fail
  refine (l20Open_any _ _ _ _ hb).mono ?_
  rintro e w1 ⟨rfl, hb1, hr1, hz1⟩
  have HR1 := Lib.hid hr1
  have HB1 := Lib.hid hb1
  clear hr1 hb1 hz1
  go_wp2_with fail
  refine (l20Store_any _ _ _ _ HR1.out (by omega) (by omega)).mono ?_
  rintro e w2 ⟨v1, l1, root, p2, rfl, hown, hf1, ho2, hr2, hp2⟩
  have HO2 := Lib.hid ho2
  have HW2 := Lib.hid hown
  have HF1 := Lib.hid hf1
  clear hr2 ho2 hown hf1
  go_wp2
  go_ret
  exact ⟨_, l1, root, rfl, HW2.out.mono HB1.out.size, HF1.out, HB1.out.trans (HO2.out.below (Nat.le_refl _) HB1.out.size)⟩
theorem bundP_bad {l : List Pc} (h : storeV l = false) : bundP l = -1 := by unfold bundP; rw [h]; rfl
end Go.Proofs.YtaghiefokmapmaaDoor
