/- Texts in one: Vc, Lk, S2, Pi. -/
import Derived.Test.YtokelopllbaikaaGreatDoorGb5
import Derived.Test.YtokelopllbaikaaGreatDoorWk4
import Derived.Test.YtokelopllbaikaaGreatDoorGb3
import Derived.Test.YtokelopllbaikaaGreatDoorGb4
import Derived.Test.YtokelopllbaikaaGreatDoorGb6
import Derived.Test.YtokelopllbaikaaGreatDoorPe
import Derived.Test.YtokelopllbaikaaGreatDoorGb2
import Derived.Test.YtokelopllbaikaaGreatDoorGb1
import Derived.Test.YtokelopllbaikaaGreatDoorGa7
/- Words between single spaces, plain; l34Words of the reference, walked. -/
set_option linter.unusedVariables false
namespace Go.Proofs.YtokelopllbaikaaGreatDoor
open Go.RowKit
end Go.Proofs.YtokelopllbaikaaGreatDoor

/- What a line of an archive leans on: its words, the boxes that the reference keeps. Written by gen_al.py. -/
set_option linter.unusedVariables false
namespace Go.Proofs.YtokelopllbaikaaGreatDoor
open Go.RowKit
/-! ### an archive and an answer -/
section
variable {w : World} {vA vB : Value} {x : Int} {bs bo : Nat} {SP SQ OP OQ : Value} {l : List Pc} {m : List Vr} {W W' : World}
end
end Go.Proofs.YtokelopllbaikaaGreatDoor

/- Dropping out of a folder, the reference's: l10Drop. Written by gen_drop.py. -/
set_option linter.unusedVariables false
namespace Go.Proofs.YtokelopllbaikaaGreatDoor
open Go.RowKit
def D10 (A : Option Addr) (c : Nat) (l : List Pc) (p : Int) (PA : Option Addr) (pc : Nat) (pl : List ByteArray) (w : World) : Prop :=
  (walkP l p (pl.map tx)).isSome = true → Sl w encP 2 A l → Sl w encS 1 PA pl → pl.length ≤ pc → (∀ x ∈ pl, x.size ≤ 8) →
    Calls Tryz.prog 123 #[.slice A l.length c, .int .i64 p, .slice PA pl.length pc] w (SetRes (dropS l (foldsD l p (pl.map tx)) (pl.map tx)) w)
theorem dropS_first {l : List Pc} {p : Int} {pl : List ByteArray} (h : 0 < pl.length) (hw : (walkP l p (pl.map tx)).isSome = true) :
    ∃ ll q, folderOf l p = some ll ∧ getE ll (tx pl[0]) = some q ∧ (walkP l q ((pl.drop 1).map tx)).isSome = true ∧
      dropS l (foldsD l p (pl.map tx)) (pl.map tx) = (dropS l (foldsD l q ((pl.drop 1).map tx)) ((pl.drop 1).map tx)).bind (dropUp ll (tx pl[0])) := by
  cases pl with
  | nil => simp at h
  | cons x r =>
    rw [List.map_cons, walkP] at hw
    cases hf : folderOf l p with
    | none => rw [hf] at hw; cases hw
    | some ll =>
      rw [hf, Option.bind_some] at hw
      cases hg : getE ll (tx x) with
      | none => rw [hg] at hw; cases hw
      | some q =>
        rw [hg, Option.bind_some] at hw
        refine ⟨ll, q, rfl, hg, hw, ?_⟩
        rw [List.map_cons, foldsD, hf, Option.getD_some, hg, Option.getD_some, dropS_cons]; rfl
set_option maxHeartbeats 16000000 in
set_option maxRecDepth 100000 in
theorem sl10d_step (A : Option Addr) (c : Nat) (l : List Pc) (hcz : A = none → c = 0) (hle : l.length ≤ c) (hv : storeV l = true) (pl : List ByteArray) (hpos : 0 < pl.length)
    (ih : 1 < pl.length → ∀ (p : Int) (PA : Option Addr) (pc : Nat) (w : World), D10 A c l p PA pc (pl.drop 1) w) (p : Int) (PA : Option Addr) (pc : Nat) (w : World) : D10 A c l p PA pc pl w := by
  intro hw hs hps hple hsz
  have HS := Lib.hid hs
  obtain ⟨b, o, rfl, hc0⟩ := hps.getS hpos
  have HPS := Lib.hid hps
  have HSZ := Lib.hid hsz
  have IH := Lib.hid ih
  have HV := Lib.hid hv
  have hlen : l.length ≤ 16777216 := by have := storeV_len hv; omega
  obtain ⟨ll, q, hfo, hge, hwr, hR⟩ := dropS_first hpos hw
  have HNM := Lib.hid (show pl[0].size ≤ 16777216 from Nat.le_trans (hsz _ (List.getElem_mem hpos)) (by omega))
  rw [Nat.add_zero] at hc0
  have HLV := Lib.hid (folder_valid hfo)
  have htz := getT_size HV.out (p := p)
  have hRD := fun w => sReadFolder_any ((getT l p).getD ⟨#[]⟩) w htz
  have hFT := folT_of (l := l) (p := p)
  have hSome := folT_some (l := l) (p := p)
  unfold RfRes at hRD
  unfold folT at hFT
  rw [hFT, hSome, hfo, Option.getD_some, Option.isSome_some] at hRD
  have HGP := Lib.hid (fun w h => sl4Get_any A c l p w h hlen)
  have hq0 : 0 ≤ q := getE_pos HLV.out hge
  have HWR := Lib.hid hwr
  clear hs hps hsz ih hv hw hwr
  generalize pl[0] = nm at *
  generalize dropS l (foldsD l p (pl.map tx)) (pl.map tx) = R at *
  have HR := Lib.hid hR
  have HGE := Lib.hid hge
  generalize (getT l p).getD ⟨#[]⟩ = TT at *
  generalize (getT l p).isSome = okg at *
  have HRD := Lib.hid hRD
  clear hRD hFT hSome htz hR hge hfo
  go_enter Tryz.func123, Tryz.ntmps123
  go_wp2_with (go_at_call 60; refine (HGP.out _ HS.out).mono ?_; rintro e w' ⟨rfl, rfl⟩)
  refine (HRD.out _).mono ?_
  rintro e wA ⟨v, rfl, hown, hb⟩
  have HB := Lib.hid hb
  have hcA := Below_cells HB.out _ _ _ hc0
  obtain ⟨LA, lc, rfl, hle4, hs4, hA4⟩ := hown.sl
  have HLC := Lib.hid hown.cz
  have HLL := Lib.hid hs4
  have HLE := Lib.hid hle4
  have HLA := Lib.hid (show LA = none ∨ ∃ b o, LA = some ⟨b, o, none⟩ by
    rcases hA4 with ⟨_, rfl⟩ | ⟨g, rfl, _⟩
    · exact .inl rfl
    · exact .inr ⟨_, _, rfl⟩)
  clear hown hb hs4 hle4 hA4
  have hlv := HLV.out
  have hl3 := entsV_len hlv
  have hso := entsV_sorted hlv
  go_wp2_with fail
  go_loopw [13, 14] (fun vc vi wr => ∃ (k : Nat), k ≤ ll.length ∧ vc = .int .i64 (chE ll (tx nm) k) ∧ vi = .int .i64 k ∧ Hid (Below wA.heap.size wA wr)) (fun _ vi _ => ll.length - (intOf vi).toNat)
  case atStart => exact ⟨0, Nat.zero_le _, rfl, rfl, Below.refl _ _⟩
  case round =>
    obtain ⟨k, hk, rfl, rfl, HBJ⟩ := hrel
    have HBX := Lib.hid (Below_then HB.out HBJ.out (Nat.le_refl _))
    have HLX := Lib.hid (HLL.out.below HBJ.out)
    have hd := Below_cells HBJ.out _ _ _ hcA
    have hpl1 : (0 : Int) < (pl.length : Int) := by omega
    by_cases hlt : k < ll.length
    · obtain ⟨b2, o2, hLA, hy0, hy1⟩ := HLX.out.getE hlt
      subst hLA
      have hlt' : (k : Int) < (ll.length : Int) := by omega
      cases heq : (ll[k].1.toList == nm.toList)
      · have HN := Lib.hid (chE_no (n := tx nm) hlt (by rw [eq_tlx] at heq; exact beq_eq_false_iff_ne.1 heq))
        generalize chE ll (tx nm) k = C0 at *
        generalize ll[k] = y at *
        obtain ⟨t, p2⟩ := y
        simp only at *
        go_wp2_with fail
        go_quiet (fail)
        all_goals
          go_wp2
          go_roundw
          case rel => exact ⟨k + 1, by omega, by rw [HN.out], by go_num, Below_drewN HBJ.out _⟩
          case measure => simp [intOf]; omega
      · have HN := Lib.hid (chE_yes (n := tx nm) hlt (by rw [eq_tlx] at heq; exact beq_iff_eq.1 heq))
        generalize chE ll (tx nm) k = C0 at *
        generalize ll[k] = y at *
        obtain ⟨t, p2⟩ := y
        simp only at *
        go_wp2_with fail
        go_quiet (fail)
        all_goals
          go_wp2
          go_roundw
          case rel => exact ⟨k + 1, by omega, by rw [HN.out], by go_num, Below_drewN HBJ.out _⟩
          case measure => simp [intOf]; omega
    · have hlt' : ¬ (k : Int) < (ll.length : Int) := by omega
      rw [chE_all (n := tx nm) hso (k := k) (by omega), HGE.out]
      simp only [Option.getD_some]
      have hqn : ¬ q < 0 := by omega
      by_cases h1 : pl.length = 1
      · have h1' : ¬ (1 : Int) < (pl.length : Int) := by omega
        have hrest : (pl.drop 1).map tx = [] := by rw [List.drop_of_length_le (by omega)]; rfl
        have HDU := Lib.hid (show R = dropUp ll (tx nm) (l, -1) by rw [HR.out, hrest]; rfl)
        have hm : (-1 : Int) < 0 := by omega
        have HVX := HV
        have hlx := storeV_len HVX.out
        have hczB := hcz
        have hleB := hle
        have HSB := Lib.hid (HS.out.below HBX.out)
        clear HR HGP hrest
        have hDE := fun w h => sDropEntry_any LA lc ll nm w h HLV.out
        unfold EnRes at hDE
        rw [show bs nm = tx nm from rfl] at hDE
        have hvd := dropE_valid HLV.out (tx nm)
        have HRL := Lib.hid (show R = if (dropE ll (tx nm)).1 = [] then some (l, -1) else if (putT l (mk (foldT (dropE ll (tx nm)).1))).2.2 then some ((putT l (mk (foldT (dropE ll (tx nm)).1))).1, prOf (foldT (dropE ll (tx nm)).1)) else none by
          rw [HDU.out]; unfold dropUp; simp only [if_pos hm]; rfl)
        generalize dropE ll (tx nm) = DE at *
        obtain ⟨rl, ok3⟩ := DE
        simp only at hDE hvd HRL
        have HDE := Lib.hid hDE
        clear hDE HDU
        go_wp2_with fail
        refine (HDE.out _ HLX.out).mono ?_
        rintro e w6 ⟨v6, rfl, hown6, hb6⟩
        have HB6 := Lib.hid (Below_then HBX.out hb6 (Nat.le_refl _))
        have HSB6 := Lib.hid (HSB.out.below hb6)
        obtain ⟨X, dx, rfl, hlex, hsx, _⟩ := hown6.sl
        have HX6 := Lib.hid hsx
        have hvr := hvd
        clear hb6 hown6 hsx hvd
        have hp3 := entsV_len hvr
        by_cases hrl : rl = []
        · have HRY := Lib.hid (show R = some (l, -1) by rw [HRL.out, if_pos hrl])
          have hz : rl.length = 0 := by rw [hrl]; rfl
          have hz' : (rl.length : Int) = 0 := by omega
          clear hrl HRL
          go_wp2
          go_ret3
          exact SetRes.yes HRY.out HB6.out HSB6.out hczB hleB
        · have hz' : ¬ (rl.length : Int) = 0 := by
            intro e
            exact hrl (List.length_eq_zero_iff.1 (by omega))
          have HRY := Lib.hid (show R = if (putT l (mk (foldT rl))).2.2 then some ((putT l (mk (foldT rl))).1, prOf (tx (mk (foldT rl)))) else none by rw [HRL.out, if_neg hrl]; rfl)
          have hFT := fun w h => sFolderText_any X dx rl w h (by omega) (fitE_valid hvr)
          have hfl := foldT_len rl
          have hPT := fun w h => sPutText_any A c l (mk (foldT rl)) w h hczB hleB (by omega) (fit_store HVX.out) (by rw [mk_size]; omega)
          unfold PutRes at hPT
          have hSP := fun w1 w2 v => @SetRes.put R l (mk (foldT rl)) w w1 w2 v HRY.out
          clear HRY HRL hvr hfl hrl
          generalize mk (foldT rl) = FT at *
          generalize putT l FT = PT at *
          obtain ⟨P1, P2, P3⟩ := PT
          simp only at hPT hSP
          have HSP := Lib.hid hSP
          have HFT := Lib.hid hFT
          have HPT := Lib.hid hPT
          clear hFT hPT hSP
          go_wp2_with fail
          refine (HFT.out _ HX6.out).mono ?_
          rintro e w7 ⟨rfl, hb7⟩
          replace HB6 := Lib.hid (Below_then HB6.out hb7 (Nat.le_refl _))
          replace HSB6 := Lib.hid (HSB6.out.below hb7)
          clear hb7
          go_wp2_with fail
          refine (HPT.out _ HSB6.out).mono ?_
          rintro e w8 ⟨v8, rfl, hown8, hb8⟩
          have HO8 := Lib.hid hown8
          have HB8 := Lib.hid hb8
          clear hown8 hb8
          go_wp2
          go_ret3
          exact HSP.out _ _ _ HO8.out HB6.out HB8.out
      · have h1' : (1 : Int) < (pl.length : Int) := by omega
        have hpc1 : ¬ pc = 1 := by omega
        have hREC : ∀ w, Sl w encP 2 A l → Sl w encS 1 (some ⟨b, o, none⟩) pl → Calls Tryz.prog 123 #[.slice A l.length c, .int .i64 q, .slice (some ⟨b, o + 1, none⟩) (pl.length - 1) (pc - 1)] w (SetRes (dropS l (foldsD l q ((pl.drop 1).map tx)) ((pl.drop 1).map tx)) w) := fun w h1 h2 => by
          have h := IH.out (by omega) q (some ⟨b, o + 1, none⟩) (pc - 1) w HWR.out h1 h2.dropS (by rw [List.length_drop]; omega) (fun x hx => HSZ.out x (List.mem_of_mem_drop hx))
          rw [List.length_drop] at h
          exact h
        have HS0 := Lib.hid (fun x h => @dropS_valid l (foldsD l q ((pl.drop 1).map tx)) ((pl.drop 1).map tx) x HV.out h)
        generalize dropS l (foldsD l q ((pl.drop 1).map tx)) ((pl.drop 1).map tx) = S at *
        have HREC := Lib.hid hREC
        clear hREC HGP
        go_wp2_with fail
        refine (HREC.out _ (HS.out.below HBX.out) (HPS.out.below HBX.out)).mono ?_
        rintro e w5 ⟨v5, m5, rfl, hb5, hres⟩
        replace HBX := Lib.hid (Below_then HBX.out hb5 (Nat.le_refl _))
        replace HLX := Lib.hid (HLX.out.below hb5)
        replace hd := Below_cells hb5 _ _ _ hd
        clear hb5
        cases S with
        | none =>
          have HRN := Lib.hid (show R = none from HR.out)
          clear HR
          simp only [Option.isSome_none]
          go_wp2
          go_ret3
          exact SetRes.no HRN.out HBX.out
        | some x =>
          obtain ⟨rfl, B, d, rfl, hsB, hczB, hleB⟩ := hres x rfl
          have HSB := Lib.hid hsB
          have HVX := Lib.hid (HS0.out x rfl)
          obtain ⟨xs, m⟩ := x
          have HDU := Lib.hid (show R = dropUp ll (tx nm) (xs, m) from HR.out)
          simp only at HVX HSB hczB hleB
          have hlx := storeV_len HVX.out
          clear HR hres hsB HS0
          simp only [Option.isSome_some]
          by_cases hm : m < 0
          · have hm2 : ¬ 0 ≤ m := by omega
            have hDE := fun w h => sDropEntry_any LA lc ll nm w h HLV.out
            unfold EnRes at hDE
            rw [show bs nm = tx nm from rfl] at hDE
            have hvd := dropE_valid HLV.out (tx nm)
            have HRL := Lib.hid (show R = if (dropE ll (tx nm)).1 = [] then some (xs, -1) else if (putT xs (mk (foldT (dropE ll (tx nm)).1))).2.2 then some ((putT xs (mk (foldT (dropE ll (tx nm)).1))).1, prOf (foldT (dropE ll (tx nm)).1)) else none by
              rw [HDU.out]; unfold dropUp; simp only [if_pos hm]; rfl)
            generalize dropE ll (tx nm) = DE at *
            obtain ⟨rl, ok3⟩ := DE
            simp only at hDE hvd HRL
            have HDE := Lib.hid hDE
            clear hDE HDU
            go_wp2_with fail
            refine (HDE.out _ HLX.out).mono ?_
            rintro e w6 ⟨v6, rfl, hown6, hb6⟩
            have HB6 := Lib.hid (Below_then HBX.out hb6 (Nat.le_refl _))
            have HSB6 := Lib.hid (HSB.out.below hb6)
            obtain ⟨X, dx, rfl, hlex, hsx, _⟩ := hown6.sl
            have HX6 := Lib.hid hsx
            have hvr := hvd
            clear hb6 hown6 hsx hvd
            have hp3 := entsV_len hvr
            by_cases hrl : rl = []
            · have HRY := Lib.hid (show R = some (xs, -1) by rw [HRL.out, if_pos hrl])
              have hz : rl.length = 0 := by rw [hrl]; rfl
              have hz' : (rl.length : Int) = 0 := by omega
              clear hrl HRL
              go_wp2
              go_ret3
              exact SetRes.yes HRY.out HB6.out HSB6.out hczB hleB
            · have hz' : ¬ (rl.length : Int) = 0 := by
                intro e
                exact hrl (List.length_eq_zero_iff.1 (by omega))
              have HRY := Lib.hid (show R = if (putT xs (mk (foldT rl))).2.2 then some ((putT xs (mk (foldT rl))).1, prOf (tx (mk (foldT rl)))) else none by rw [HRL.out, if_neg hrl]; rfl)
              have hFT := fun w h => sFolderText_any X dx rl w h (by omega) (fitE_valid hvr)
              have hfl := foldT_len rl
              have hPT := fun w h => sPutText_any B d xs (mk (foldT rl)) w h hczB hleB (by omega) (fit_store HVX.out) (by rw [mk_size]; omega)
              unfold PutRes at hPT
              have hSP := fun w1 w2 v => @SetRes.put R xs (mk (foldT rl)) w w1 w2 v HRY.out
              clear HRY HRL hvr hfl hrl
              generalize mk (foldT rl) = FT at *
              generalize putT xs FT = PT at *
              obtain ⟨P1, P2, P3⟩ := PT
              simp only at hPT hSP
              have HSP := Lib.hid hSP
              have HFT := Lib.hid hFT
              have HPT := Lib.hid hPT
              clear hFT hPT hSP
              go_wp2_with fail
              refine (HFT.out _ HX6.out).mono ?_
              rintro e w7 ⟨rfl, hb7⟩
              replace HB6 := Lib.hid (Below_then HB6.out hb7 (Nat.le_refl _))
              replace HSB6 := Lib.hid (HSB6.out.below hb7)
              clear hb7
              go_wp2_with fail
              refine (HPT.out _ HSB6.out).mono ?_
              rintro e w8 ⟨v8, rfl, hown8, hb8⟩
              have HO8 := Lib.hid hown8
              have HB8 := Lib.hid hb8
              clear hown8 hb8
              go_wp2
              go_ret3
              exact HSP.out _ _ _ HO8.out HB6.out HB8.out
          · skip
            have hDE := fun w h => sDropEntry_any LA lc ll nm w h HLV.out
            unfold EnRes at hDE
            rw [show bs nm = tx nm from rfl] at hDE
            have hvd := dropE_valid HLV.out (tx nm)
            have HRP := Lib.hid (show R = if (putE ll (nm, m)).1 = [] then some (xs, -1) else if (putT xs (mk (foldT (putE ll (nm, m)).1))).2.2 then some ((putT xs (mk (foldT (putE ll (nm, m)).1))).1, prOf (foldT (putE ll (nm, m)).1)) else none by
              have h := HDU.out
              unfold dropUp at h
              simp only [if_neg hm] at h
              rw [show restD ll (tx nm) (some m) = (putE ll (mk (tx nm), m)).1 from rfl, mk_tx] at h
              exact h)
            have hPE := fun w h => sPutEntry_any LA lc ll (nm, m) w h HLC.out HLA.out HLE.out HLV.out HNM.out
            have hvp : entsV (putE ll (nm, m)).1 = true := by
              have h := restD_valid ll (tx nm) (some m)
              rwa [show restD ll (tx nm) (some m) = (putE ll (mk (tx nm), m)).1 from rfl, mk_tx] at h
            unfold EnRes at hPE
            generalize putE ll (nm, m) = PE at *
            obtain ⟨rl, ok2⟩ := PE
            simp only at hPE hvp HRP
            have HPE := Lib.hid hPE
            have hm' : ¬ m < 0 := hm
            have hm2 : 0 ≤ m := by omega
            clear hPE
            generalize dropE ll (tx nm) = DE at *
            obtain ⟨dl, ok3⟩ := DE
            simp only at hDE hvd
            have HDE := Lib.hid hDE
            clear hDE HDU
            go_wp2_with fail
            refine (HDE.out _ HLX.out).mono ?_
            rintro e w6 ⟨v6, rfl, hown6, hb6⟩
            have HB6 := Lib.hid (Below_then HBX.out hb6 (Nat.le_refl _))
            have HSB6 := Lib.hid (HSB.out.below hb6)
            have HLX6 := Lib.hid (HLX.out.below hb6)
            have hd6 := Below_cells hb6 _ _ _ hd
            clear hb6 hown6 hd
            go_wp2_with fail
            refine (HPE.out _ HLX6.out).mono ?_
            rintro e w9 ⟨v9, rfl, hown9, hb9⟩
            replace HB6 := Lib.hid (Below_then HB6.out hb9 (Nat.le_refl _))
            replace HSB6 := Lib.hid (HSB6.out.below hb9)
            obtain ⟨X, dx, rfl, hlex, hsx, _⟩ := hown9.sl
            have HX6 := Lib.hid hsx
            have hvr := hvp
            have HRL := HRP
            clear hb9 hown9 hsx hvd hvp HRP
            have hp3 := entsV_len hvr
            by_cases hrl : rl = []
            · have HRY := Lib.hid (show R = some (xs, -1) by rw [HRL.out, if_pos hrl])
              have hz : rl.length = 0 := by rw [hrl]; rfl
              have hz' : (rl.length : Int) = 0 := by omega
              clear hrl HRL
              go_wp2
              go_ret3
              exact SetRes.yes HRY.out HB6.out HSB6.out hczB hleB
            · have hz' : ¬ (rl.length : Int) = 0 := by
                intro e
                exact hrl (List.length_eq_zero_iff.1 (by omega))
              have HRY := Lib.hid (show R = if (putT xs (mk (foldT rl))).2.2 then some ((putT xs (mk (foldT rl))).1, prOf (tx (mk (foldT rl)))) else none by rw [HRL.out, if_neg hrl]; rfl)
              have hFT := fun w h => sFolderText_any X dx rl w h (by omega) (fitE_valid hvr)
              have hfl := foldT_len rl
              have hPT := fun w h => sPutText_any B d xs (mk (foldT rl)) w h hczB hleB (by omega) (fit_store HVX.out) (by rw [mk_size]; omega)
              unfold PutRes at hPT
              have hSP := fun w1 w2 v => @SetRes.put R xs (mk (foldT rl)) w w1 w2 v HRY.out
              clear HRY HRL hvr hfl hrl
              generalize mk (foldT rl) = FT at *
              generalize putT xs FT = PT at *
              obtain ⟨P1, P2, P3⟩ := PT
              simp only at hPT hSP
              have HSP := Lib.hid hSP
              have HFT := Lib.hid hFT
              have HPT := Lib.hid hPT
              clear hFT hPT hSP
              go_wp2_with fail
              refine (HFT.out _ HX6.out).mono ?_
              rintro e w7 ⟨rfl, hb7⟩
              replace HB6 := Lib.hid (Below_then HB6.out hb7 (Nat.le_refl _))
              replace HSB6 := Lib.hid (HSB6.out.below hb7)
              clear hb7
              go_wp2_with fail
              refine (HPT.out _ HSB6.out).mono ?_
              rintro e w8 ⟨v8, rfl, hown8, hb8⟩
              have HO8 := Lib.hid hown8
              have HB8 := Lib.hid hb8
              clear hown8 hb8
              go_wp2
              go_ret3
              exact HSP.out _ _ _ HO8.out HB6.out HB8.out
theorem sl10d_all (A : Option Addr) (c : Nat) (l : List Pc) (hcz : A = none → c = 0) (hle : l.length ≤ c) (hv : storeV l = true) : ∀ (n : Nat) (pl : List ByteArray), pl.length = n + 1 → ∀ (p : Int) (PA : Option Addr) (pc : Nat) (w : World), D10 A c l p PA pc pl w
  | 0, pl, hn, p, PA, pc, w => sl10d_step A c l hcz hle hv pl (by omega) (fun h => by omega) p PA pc w
  | n + 1, pl, hn, p, PA, pc, w => sl10d_step A c l hcz hle hv pl (by omega) (fun h p2 PA2 pc2 w2 => sl10d_all A c l hcz hle hv n (pl.drop 1) (by rw [List.length_drop]; omega) p2 PA2 pc2 w2) p PA pc w
end Go.Proofs.YtokelopllbaikaaGreatDoor

/- PutEntry of the program, walked. -/
set_option linter.unusedVariables false
namespace Go.Proofs.YtokelopllbaikaaGreatDoor
open Go.RowKit
attribute [local go_sem] mk_toList
theorem insE_set {l : List En} {e : En} (h : hereE l (tx e.1) = true) (hk : posE l (tx e.1) < l.length) : insE l e = l.set (posE l (tx e.1)) e := by
  obtain ⟨_, h2⟩ := hereE_iff.1 h
  rw [insE_here hk rfl h2, List.set_eq_take_append_cons_drop, if_pos hk]
theorem insE_call {l : List En} {x : En} {B : Nat} {w0 w2 w3 : World} {X : Option Addr} {d : Nat} (hb2 : Below w0.heap.size w0 w2) (hown3 : Own w3 w2.heap.size 70 2 encE (.slice X l.length d) l) (hb3 : Below w2.heap.size w2 w3) (hB : B ≤ l.length) (hl : l.length ≤ 16777216) :
    Calls Tryz.prog 78 #[.slice X l.length d, .int .i64 (B : Nat), .slice (some ⟨w3.heap.size, 0, none⟩) 1 1] (w3.alloc (.cells #[.string x.1, .int .i64 x.2] 70)) fun e w' => ∃ v', e = .returned v' ∧ Own w' w0.heap.size 70 2 encE v' (l.take B ++ x :: l.drop B) ∧ Below w0.heap.size w0 w' :=
  (InsertEn_any w2.heap.size X d l x B _ w3.heap.size (Nat.le_trans hb3.size (by simp)) (hown3.alloc _) (heap_alloc_new w3 _) (by
    rintro g o rfl
    have := hown3.blk g rfl
    omega) hB hl).mono fun e w' ⟨v', he, ho, hb⟩ => ⟨v', he, ho.mono hb2.size, Below_then hb2 ((hb3.alloc hb3.size _).trans hb) (Nat.le_refl _)⟩
set_option maxHeartbeats 4000000 in
set_option maxRecDepth 100000 in
theorem iPutEntry_any (A : Option Addr) (c : Nat) (l : List En) (e0 : En) (w : World) (hs : Sl w encE 2 A l) (hcz : A = none → c = 0) (hv : entsV l = true) (he : e0.1.size ≤ 16777216) :
    Calls Tryz.prog 44 #[.slice A l.length c, .agg #[.string e0.1, .int .i64 e0.2]] w (EnRes (putE l e0) w) := by
  have hl3 := entsV_len hv
  have HS := Lib.hid hs
  have hEV := fun w h => iEntriesValid_any A c l w h (by omega) (fitE_valid hv)
  rw [hv] at hEV
  have HEV := Lib.hid hEV
  have hCL := fun w h => CloneEn_any A c l w h hcz (by omega)
  unfold OwnRes at hCL
  have HCL := Lib.hid hCL
  have hil := insE_len l e0
  have hpos := posE_le l (tx e0.1)
  have hFE := fun X d w h => findEntry_any X d l e0.1 w h (by omega) (entsV_sorted hv)
  unfold FeRes at hFE
  have hE2 := fun X d w h => iEntriesValid_any X d (insE l e0) w h (by omega) (fitE_ins hv he)
  have hPY : entsV (insE l e0) = true → putE l e0 = (insE l e0, true) := fun h => by unfold putE; rw [hv, if_pos rfl, if_pos h]
  have hPN : entsV (insE l e0) = false → putE l e0 = (l, false) := fun h => by unfold putE; rw [hv, if_pos rfl, if_neg (by rw [h]; simp)]
  have hSET : ∀ h : hereE l (tx e0.1) = true, insE l e0 = l.set (posE l (tx e0.1)) e0 := fun h => insE_set h (hereE_iff.1 h).1
  have hINS : hereE l (tx e0.1) = false → insE l e0 = l.take (posE l (tx e0.1)) ++ e0 :: l.drop (posE l (tx e0.1)) := fun h => insE_not rfl (fun hk e => by
    rw [hereE_iff.2 ⟨hk, e⟩] at h; cases h)
  have hlt : hereE l (tx e0.1) = true → posE l (tx e0.1) < l.length := fun h => (hereE_iff.1 h).1
  obtain ⟨n0, p0⟩ := e0
  simp only at *
  have HPY := Lib.hid hPY
  have HPN := Lib.hid hPN
  have HSET := Lib.hid hSET
  have HINS := Lib.hid hINS
  have HLT := Lib.hid hlt
  clear hs hEV hCL hPY hPN hSET hINS hlt hcz hv he
  generalize putE l (n0, p0) = R at *
  generalize hI : insE l (n0, p0) = I at *
  have HI := Lib.hid hI
  clear hI
  generalize posE l (tx n0) = k at *
  cases hh : hereE l (tx n0)
  · rw [hh] at hFE
    have HFE := Lib.hid hFE
    have HX := Lib.hid (HINS.out hh)
    clear hFE hh
    go_enter Tryz.func44, Tryz.ntmps44
    go_wp2_with fail
    refine (HEV.out _ (HS.out.alloc _)).mono ?_
    rintro e w1 ⟨rfl, hb1⟩
    have HB1 := Lib.hid (Below_of_alloc hb1)
    have HS1 := Lib.hid (HS.out.below HB1.out)
    have HBX := Lib.hid ((BoxE.new w (n0, p0)).below hb1)
    clear hb1
    go_wp2_with fail
    refine (HCL.out _ HS1.out).mono ?_
    rintro e w2 ⟨v2, rfl, hown2, hb2⟩
    obtain ⟨X, d, rfl, hle2, hsx2, _⟩ := hown2.sl
    have HSX := Lib.hid hsx2
    have HW2 := Lib.hid hown2
    have HY2 := Lib.hid hb2
    replace HBX := Lib.hid (HBX.out.below hb2)
    obtain ⟨hx0, hx1⟩ := HBX.out
    clear hown2 hb2 hsx2
    go_wp2_with fail
    refine (HFE.out X d _ HSX.out).mono ?_
    rintro e w3 ⟨rfl, hb3⟩
    have HW3 := Lib.hid (HW2.out.below hb3)
    have HY3 := Lib.hid (Below_then HY2.out hb3 (Nat.le_refl _))
    have HS3 := Lib.hid ((HS1.out.below HY2.out).below hb3)
    obtain ⟨hx2, hx3⟩ := HBX.out.below hb3
    clear hb3 hx0 hx1
    go_wp2_with fail
    refine (insE_call (x := (n0, p0)) HB1.out HW3.out HY3.out hpos (by omega)).mono ?_
    rintro e w4 ⟨v4, rfl, hown4, hb4⟩
    rw [← HX.out] at hown4
    obtain ⟨Z, dz, rfl, hlez, hsz, _⟩ := hown4.sl
    have HW4 := Lib.hid hown4
    have HSZ := Lib.hid hsz
    have HB4 := Lib.hid hb4
    have HS4 := Lib.hid (HS.out.below hb4)
    clear hown4 hsz hb4
    cases hvi : entsV I
    · rw [hvi] at hE2
      have HE2 := Lib.hid hE2
      have HR := Lib.hid (HPN.out hvi)
      clear hE2 hvi
      go_wp2_with fail
      refine (HE2.out Z dz _ HSZ.out).mono ?_
      rintro e w5 ⟨rfl, hb5⟩
      have HB5 := Lib.hid (Below_then HB4.out hb5 (Nat.le_refl _))
      have HS5 := Lib.hid (HS4.out.below hb5)
      clear hb5
      go_wp2_with fail
      refine (HCL.out _ HS5.out).mono ?_
      rintro e w6 ⟨v6, rfl, hown6, hb6⟩
      have HW6 := Lib.hid (hown6.mono HB5.out.size)
      have HB6 := Lib.hid (Below_then HB5.out hb6 (Nat.le_refl _))
      clear hown6 hb6
      go_wp2
      go_ret2
      rw [HR.out]
      exact ⟨_, rfl, HW6.out, HB6.out⟩
    · rw [hvi] at hE2
      have HE2 := Lib.hid hE2
      have HR := Lib.hid (HPY.out hvi)
      clear hE2 hvi
      go_wp2_with fail
      refine (HE2.out Z dz _ HSZ.out).mono ?_
      rintro e w5 ⟨rfl, hb5⟩
      have HB5 := Lib.hid (Below_then HB4.out hb5 (Nat.le_refl _))
      have HW5 := Lib.hid (HW4.out.below hb5)
      clear hb5
      go_wp2
      go_ret2
      rw [HR.out]
      exact ⟨_, rfl, HW5.out, HB5.out⟩
  · rw [hh] at hFE
    have HFE := Lib.hid hFE
    have HX := Lib.hid (HSET.out hh)
    have hkl := HLT.out hh
    clear hFE hh
    go_enter Tryz.func44, Tryz.ntmps44
    go_wp2_with fail
    refine (HEV.out _ (HS.out.alloc _)).mono ?_
    rintro e w1 ⟨rfl, hb1⟩
    have HB1 := Lib.hid (Below_of_alloc hb1)
    have HS1 := Lib.hid (HS.out.below HB1.out)
    have HBX := Lib.hid ((BoxE.new w (n0, p0)).below hb1)
    clear hb1
    go_wp2_with fail
    refine (HCL.out _ HS1.out).mono ?_
    rintro e w2 ⟨v2, rfl, hown2, hb2⟩
    obtain ⟨X, d, rfl, hle2, hsx2, _⟩ := hown2.sl
    obtain ⟨g, rfl, hg1, hg2⟩ := hown2.head (by omega)
    have HSX := Lib.hid hsx2
    have HW2 := Lib.hid hown2
    have HB2 := Lib.hid (Below_then HB1.out hb2 (Nat.le_refl _))
    have hgw : w.heap.size ≤ g := Nat.le_trans HB1.out.size hg1
    replace HBX := Lib.hid (HBX.out.below hb2)
    obtain ⟨hx0, hx1⟩ := HBX.out
    clear hown2 hb2 hsx2
    go_wp2_with fail
    refine (HFE.out (some ⟨g, 0, none⟩) d _ HSX.out).mono ?_
    rintro e w3 ⟨rfl, hb3⟩
    have HW3 := Lib.hid (HW2.out.below hb3)
    have HB3 := Lib.hid (Below_then HB2.out hb3 (Nat.le_refl _))
    obtain ⟨hx2, hx3⟩ := HBX.out.below hb3
    clear hb3 hx0 hx1
    have hset := HW3.out.setEl (fun _ => rfl) (by omega) hkl (n0, p0)
    rw [← HX.out] at hset
    have hIl : l.length = I.length := by rw [HX.out, List.length_set]
    have HSET2 := Lib.hid (show Own ((w3.setCell ⟨g, k * 2, none⟩ (.string n0)).setCell ⟨g, k * 2 + 1, none⟩ (.int .i64 p0)) w1.heap.size 70 2 encE (.slice (some ⟨g, 0, none⟩) l.length d) I from hset)
    obtain ⟨b3, o3, e, hy0, hy1⟩ := HW3.out.sl'.getE hkl
    injection e with e; injection e with e1 e2
    subst e1 e2
    simp only [Nat.zero_add] at hy0 hy1
    have hz0 := HW3.out.free' (k * 2)
    have hz1 := HW3.out.free' (k * 2 + 1)
    have HB4 := Lib.hid ((HB3.out.setCell (p := ⟨g, k * 2, none⟩) hgw (.string n0)).setCell (p := ⟨g, k * 2 + 1, none⟩) hgw (.int .i64 p0))
    have HSZ := Lib.hid (show Sl ((w3.setCell ⟨g, k * 2, none⟩ (.string n0)).setCell ⟨g, k * 2 + 1, none⟩ (.int .i64 p0)) encE 2 (some ⟨g, 0, none⟩) I from HSET2.out.sl')
    have HW4 := Lib.hid (HSET2.out.mono HB1.out.size)
    have hE3 : ∀ w, Sl w encE 2 (some ⟨g, 0, none⟩) I → Calls Tryz.prog 76 #[.slice (some ⟨g, 0, none⟩) l.length d] w fun e w' => e = .returned (.bool (entsV I)) ∧ Below w.heap.size w w' := by
      rw [hIl]; exact hE2 _ _
    clear hset hE2 hIl
    cases hvi : entsV I
    · rw [hvi] at hE3
      have HE2 := Lib.hid hE3
      have HR := Lib.hid (HPN.out hvi)
      clear hE3 hvi
      go_wp2_with fail
      refine (HE2.out _ HSZ.out).mono ?_
      rintro e w5 ⟨rfl, hb5⟩
      have HB5 := Lib.hid (Below_then HB4.out hb5 (Nat.le_refl _))
      have HS5 := Lib.hid (HS.out.below HB5.out)
      clear hb5
      go_wp2_with fail
      refine (HCL.out _ HS5.out).mono ?_
      rintro e w6 ⟨v6, rfl, hown6, hb6⟩
      have HW6 := Lib.hid (hown6.mono HB5.out.size)
      have HB6 := Lib.hid (Below_then HB5.out hb6 (Nat.le_refl _))
      clear hown6 hb6
      go_wp2
      go_ret2
      rw [HR.out]
      exact ⟨_, rfl, HW6.out, HB6.out⟩
    · rw [hvi] at hE3
      have HE2 := Lib.hid hE3
      have HR := Lib.hid (HPY.out hvi)
      clear hE3 hvi
      go_wp2_with fail
      refine (HE2.out _ HSZ.out).mono ?_
      rintro e w5 ⟨rfl, hb5⟩
      have HB5 := Lib.hid (Below_then HB4.out hb5 (Nat.le_refl _))
      have HW5 := Lib.hid (HW4.out.below hb5)
      clear hb5
      go_wp2
      go_ret2
      rw [HR.out]
      exact ⟨_, rfl, HW5.out, HB5.out⟩
end Go.Proofs.YtokelopllbaikaaGreatDoor
