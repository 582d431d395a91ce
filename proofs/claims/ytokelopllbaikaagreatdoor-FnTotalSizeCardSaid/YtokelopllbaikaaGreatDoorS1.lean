/- Writing into a folder, the reference's: l10Set. Written by gen_set.py. -/
import Derived.Test.YtokelopllbaikaaGreatDoorGb6
import Derived.Test.YtokelopllbaikaaGreatDoorPe
import Derived.Test.YtokelopllbaikaaGreatDoorGb2
import Derived.Test.YtokelopllbaikaaGreatDoorWk4
set_option linter.unusedVariables false
namespace Go.Proofs.YtokelopllbaikaaGreatDoor
open Go.RowKit
def L10 (A : Option Addr) (c : Nat) (l : List Pc) (leaf : Int) (a : Option Int) (PA : Option Addr) (pc : Nat) (pl : List ByteArray) (w : World) : Prop :=
  (∀ q, a = some q → 0 ≤ q) → Sl w encP 2 A l → Sl w encS 1 PA pl → pl.length ≤ pc → (∀ x ∈ pl, x.size ≤ 8) →
    Calls Tryz.prog 124 #[.slice A l.length c, .int .i64 (a.getD (-1)), .slice PA pl.length pc, .int .i64 leaf] w (SetRes (setP l a (pl.map tx) leaf) w)
theorem setP_first {l : List Pc} {a : Option Int} {pl : List ByteArray} {leaf : Int} (h : 0 < pl.length) : setP l a (pl.map tx) leaf = (listAt l a).bind fun ll => if ((pl.drop 1).map tx).isEmpty && !leafOk l (getE ll (tx pl[0])) then none else (setP l (getE ll (tx pl[0])) ((pl.drop 1).map tx) leaf).bind (setUp ll (tx pl[0])) := by
  cases pl with
  | nil => simp at h
  | cons x r => exact setP_cons l a (tx x) (r.map tx) leaf
theorem empty_drop {pl : List ByteArray} (h : 0 < pl.length) : ((pl.drop 1).map tx).isEmpty = decide (pl.length = 1) := by
  rw [Bool.eq_iff_iff, List.isEmpty_iff, List.map_eq_nil_iff, List.drop_eq_nil_iff, decide_eq_true_eq]; omega
set_option maxHeartbeats 4000000 in
set_option maxRecDepth 100000 in
theorem sl10_nil (A : Option Addr) (c : Nat) (l : List Pc) (hcz : A = none → c = 0) (hle : l.length ≤ c) (leaf : Int) (a : Option Int) (PA : Option Addr) (pc : Nat) (w : World) : L10 A c l leaf a PA pc [] w := by
  intro ha hs hps hple hsz
  have HS := Lib.hid hs
  have HC := Lib.hid hcz
  generalize a.getD (-1) = P
  rw [show setP l a (([] : List ByteArray).map tx) leaf = some (l, leaf) from rfl, List.length_nil]
  clear hs hps
  go_enter Tryz.func124, Tryz.ntmps124
  go_wp2
  go_ret3
  exact SetRes.yes rfl (Below.refl _ _) HS.out HC.out hle
set_option maxHeartbeats 4000000 in
set_option maxRecDepth 100000 in
theorem sl10_step (A : Option Addr) (c : Nat) (l : List Pc) (hcz : A = none → c = 0) (hle : l.length ≤ c) (hv : storeV l = true) (leaf : Int) (pl : List ByteArray) (hpos : 0 < pl.length)
    (ih : ∀ (a : Option Int) (PA : Option Addr) (pc : Nat) (w : World), L10 A c l leaf a PA pc (pl.drop 1) w) (a : Option Int) (PA : Option Addr) (pc : Nat) (w : World) : L10 A c l leaf a PA pc pl w := by
  intro ha hs hps hple hsz
  have HS := Lib.hid hs
  obtain ⟨b, o, rfl, hc0⟩ := hps.getS hpos
  have HPS := Lib.hid hps
  have HSZ := Lib.hid hsz
  have IH := Lib.hid ih
  have HV := Lib.hid hv
  have hlen : l.length ≤ 16777216 := by have := storeV_len hv; omega
  have hfirst := setP_first (l := l) (a := a) (leaf := leaf) hpos
  rw [empty_drop hpos] at hfirst
  have HNM := Lib.hid (show pl[0].size ≤ 16777216 from Nat.le_trans (hsz _ (List.getElem_mem hpos)) (by omega))
  rw [Nat.add_zero] at hc0
  clear hs hps hsz ih hv
  generalize pl[0] = nm at *
  generalize setP l a (pl.map tx) leaf = R at *
  have HREST := Lib.hid (fun ll (h : listAt l a = some ll) => show R = (if decide (pl.length = 1) && !leafOk l (getE ll (tx nm)) then none else (setP l (getE ll (tx nm)) ((pl.drop 1).map tx) leaf).bind (setUp ll (tx nm))) by rw [hfirst, h]; rfl)
  have hn1 : ((pl.length : Int) == 0) = false := by rw [beq_eq_false_iff_ne]; omega
  cases a with
  | none =>
    have hrest := HREST.out [] rfl
    clear hfirst HREST
    obtain ⟨ll, hll⟩ : ∃ ll : List En, ll = [] := ⟨_, rfl⟩
    rw [← hll] at hrest
    have HLV := Lib.hid (show entsV ll = true by rw [hll]; rfl)
    have HLL := Lib.hid (show Sl (w.alloc madeEn) encE 2 (some ⟨w.heap.size, 0, none⟩) ll from Sl.gone (by rw [hll]; rfl))
    have hz : ll.length = 0 := by rw [hll]; rfl
    have HLC := Lib.hid (show (some ⟨w.heap.size, 0, none⟩ : Option Addr) = none → 0 = 0 from fun _ => rfl)
    have HLA := Lib.hid (show (some ⟨w.heap.size, 0, none⟩ : Option Addr) = none ∨ ∃ b o, (some ⟨w.heap.size, 0, none⟩ : Option Addr) = some ⟨b, o, none⟩ from .inr ⟨_, _, rfl⟩)
    have HLE := Lib.hid (show ll.length ≤ 0 by omega)
    have HB := Lib.hid ((Below.refl w.heap.size w).alloc (Nat.le_refl _) madeEn)
    have hcA := cell_alloc (x := madeEn) hc0
    have HZ := Lib.hid hz
    have HGN := Lib.hid (show getE ll (tx nm) = none by rw [hll]; rfl)
    clear hll
    have HGO := Lib.hid (fun (h : pl.length = 1 → leafOk l (getE ll (tx nm)) = true) => show R = (setP l (getE ll (tx nm)) ((pl.drop 1).map tx) leaf).bind (setUp ll (tx nm)) by
      rw [hrest, if_neg]
      intro h2
      simp only [Bool.and_eq_true, decide_eq_true_eq, Bool.not_eq_true'] at h2
      rw [h h2.1] at h2; cases h2.2)
    have HNOL := Lib.hid (fun (h : pl.length = 1) (h2 : leafOk l (getE ll (tx nm)) = false) => show R = none by rw [hrest, h, h2]; rfl)
    clear hrest
    simp only [Option.getD_none]
    go_enter Tryz.func124, Tryz.ntmps124
    go_wp2_with fail
    rw [show (Value.slice (some ⟨w.heap.size, 0, none⟩) 0 0) = .slice (some ⟨w.heap.size, 0, none⟩) ll.length 0 by rw [HZ.out]]
    clear hz
    have hlv := HLV.out
    have hl3 := entsV_len hlv
    have hso := entsV_sorted hlv
    go_loopw [16, 17] (fun vc vi wr => ∃ (k : Nat), k ≤ ll.length ∧ vc = .int .i64 (chE ll (tx nm) k) ∧ vi = .int .i64 k ∧ Hid (Below (w.alloc madeEn).heap.size (w.alloc madeEn) wr)) (fun _ vi _ => ll.length - (intOf vi).toNat)
    case atStart => exact ⟨0, Nat.zero_le _, rfl, rfl, Below.refl _ _⟩
    case round =>
      obtain ⟨k, hk, rfl, rfl, HBJ⟩ := hrel
      have HBX := Lib.hid (Below_then HB.out HBJ.out (Nat.le_refl _))
      have HLX := Lib.hid (HLL.out.below HBJ.out)
      have hd := Below_cells HBJ.out _ _ _ hcA
      have hpl1 : (0 : Int) < (pl.length : Int) := by omega
      by_cases hlt : k < ll.length
      · exact absurd hlt (by have := HZ.out; omega)
      · have hlt' : ¬ (k : Int) < (ll.length : Int) := by omega
        rw [chE_all (n := tx nm) hso (k := k) (by omega)]
        have hge0 := @getE_pos ll (tx nm)
        have hG4 := fun p w h => sl4Get_any A c l p w h hlen
        cases hge : getE ll (tx nm) with
        | none =>
          rw [hge] at HGO
          have hgo := HGO.out (fun _ => rfl)
          have hg4 := hG4 (-1)
          generalize (getT l (-1)).getD ⟨#[]⟩ = T4 at *
          generalize (getT l (-1)).isSome = B4 at *
          have HG4 := Lib.hid hg4
          clear hg4
          clear hG4 hge0 HGO HNOL
          simp only [Option.getD_none]
          by_cases h1 : pl.length = 1
          · have h1' : ((pl.length : Int) == 1) = true := by rw [beq_iff_eq]; omega
            by_cases hroom : pc = 1
            · obtain rfl := hroom
              have hREC : ∀ w, Sl w encP 2 A l → Sl w encS 1 (some ⟨b, o, none⟩) pl → Calls Tryz.prog 124 #[.slice A l.length c, .int .i64 (-1), .slice (some ⟨b, o, none⟩) 0 0, .int .i64 leaf] w (SetRes (setP l (none) ((pl.drop 1).map tx) leaf) w) := fun w h1 h2 => by
                have h := IH.out (none) (some ⟨b, o, none⟩) 0 w (fun q h => by cases h) h1 (Sl.gone (by rw [List.length_drop]; omega)) (by rw [List.length_drop]; omega) (fun x hx => HSZ.out x (List.mem_of_mem_drop hx))
                rw [List.length_drop] at h
                rw [show pl.length - 1 = 0 by omega] at h
                exact h
              have HS0 := Lib.hid (fun x h => @setP_valid l (none) ((pl.drop 1).map tx) leaf x HV.out h)
              have HR := Lib.hid (show R = (setP l (none) ((pl.drop 1).map tx) leaf).bind (setUp ll (tx nm)) from hgo)
              clear hgo
              generalize setP l (none) ((pl.drop 1).map tx) leaf = S at *
              have HREC := Lib.hid hREC
              clear hREC h1
              go_wp2_with (go_at_call 60; refine (HG4.out _ (HS.out.below HBX.out)).mono ?_; rintro e w' ⟨rfl, rfl⟩)
              refine (HREC.out _ (HS.out.below HBX.out) (HPS.out.below HBX.out)).mono ?_
              rintro e w5 ⟨v5, m5, rfl, hb5, hres⟩
              replace HBX := Lib.hid (Below_then HBX.out hb5 (Nat.le_refl _))
              replace HLX := Lib.hid (HLX.out.below hb5)
              have HCELL := Lib.hid (Below_cells hb5 _ _ _ hd)
              clear hb5 hd
              cases S with
              | none =>
                have HRN := Lib.hid (show R = none from HR.out)
                clear HR
                simp only [Option.isSome_none]
                go_wp2
                go_ret3
                exact SetRes.no HRN.out HBX.out
              | some x =>
                obtain ⟨rfl, B, d, rfl, hsB, hczB, hleB⟩ := hres x rfl
                have HSB := Lib.hid hsB
                have HVX := Lib.hid (HS0.out x rfl)
                have HRX := Lib.hid (show R = if (putE ll (nm, x.2)).2 then (if (putT x.1 (mk (foldT (putE ll (nm, x.2)).1))).2.2 then some ((putT x.1 (mk (foldT (putE ll (nm, x.2)).1))).1, prOf (foldT (putE ll (nm, x.2)).1)) else none) else none by
                  have h := HR.out
                  rw [Option.bind_some] at h
                  unfold setUp at h
                  rw [mk_tx] at h; exact h)
                clear HR hres hsB
                have hlx := storeV_len HVX.out
                have hPE := fun W h => sPutEntry_any (some ⟨w.heap.size, 0, none⟩) 0 ll (nm, x.2) W h (fun _ => rfl) HLA.out HLE.out HLV.out HNM.out
                have hok := @putE_ok ll (nm, x.2)
                unfold EnRes at hPE
                have hcell := HCELL.out
                simp only [Option.isSome_some]
                generalize putE ll (nm, x.2) = PE at *
                obtain ⟨pl2, ok2⟩ := PE
                obtain ⟨xs, xp⟩ := x
                simp only at hPE hok HSB HVX HRX hlx hczB hleB
                have HPE := Lib.hid hPE
                clear hPE
                go_wp2_with fail
                refine (HPE.out _ HLX.out).mono ?_
                rintro e w6 ⟨v6, rfl, hown6, hb6⟩
                have HB6 := Lib.hid (Below_then HBX.out hb6 (Nat.le_refl _))
                have HSB6 := Lib.hid (HSB.out.below hb6)
                obtain ⟨X, dx, rfl, hlex, hsx, _⟩ := hown6.sl
                have HX6 := Lib.hid hsx
                clear hb6 hown6 hsx
                cases ok2
                · have HRN := Lib.hid (show R = none from HRX.out)
                  clear HRX hok
                  go_wp2
                  go_ret3
                  exact SetRes.no HRN.out HB6.out
                · have HRY := Lib.hid (show R = if (putT xs (mk (foldT pl2))).2.2 then some ((putT xs (mk (foldT pl2))).1, prOf (tx (mk (foldT pl2)))) else none from HRX.out)
                  have hv2 := (hok rfl).2.1
                  have hp3 := entsV_len hv2
                  have hFT := fun w h => sFolderText_any X dx pl2 w h (by omega) (fitE_valid hv2)
                  have hfl := foldT_len pl2
                  have hPT := fun w h => sPutText_any B d xs (mk (foldT pl2)) w h hczB hleB (by omega) (fit_store HVX.out) (by rw [mk_size]; omega)
                  unfold PutRes at hPT
                  have hSP := fun w1 w2 v => @SetRes.put R xs (mk (foldT pl2)) w w1 w2 v HRY.out
                  clear HRY HRX hok hv2 hfl
                  generalize mk (foldT pl2) = FT at *
                  generalize putT xs FT = PT at *
                  obtain ⟨P1, P2, P3⟩ := PT
                  simp only at hPT hSP
                  have HSP := Lib.hid hSP
                  have HFT := Lib.hid hFT
                  have HPT := Lib.hid hPT
                  clear hFT hPT hSP
                  go_wp2_with fail
                  refine (HFT.out _ HX6.out).mono ?_
                  rintro e w7 ⟨rfl, hb7⟩
                  replace HB6 := Lib.hid (Below_then HB6.out hb7 (Nat.le_refl _))
                  replace HSB6 := Lib.hid (HSB6.out.below hb7)
                  clear hb7
                  go_wp2_with fail
                  refine (HPT.out _ HSB6.out).mono ?_
                  rintro e w8 ⟨v8, rfl, hown8, hb8⟩
                  have HO8 := Lib.hid hown8
                  have HB8 := Lib.hid hb8
                  clear hown8 hb8
                  go_wp2
                  go_ret3
                  exact HSP.out _ _ _ HO8.out HB6.out HB8.out
            · have hpc1 : ¬ pc = 1 := hroom
              have hREC : ∀ w, Sl w encP 2 A l → Sl w encS 1 (some ⟨b, o, none⟩) pl → Calls Tryz.prog 124 #[.slice A l.length c, .int .i64 (-1), .slice (some ⟨b, o + 1, none⟩) (pl.length - 1) (pc - 1), .int .i64 leaf] w (SetRes (setP l (none) ((pl.drop 1).map tx) leaf) w) := fun w h1 h2 => by
                have h := IH.out (none) (some ⟨b, o + 1, none⟩) (pc - 1) w (fun q h => by cases h) h1 (h2.dropS) (by rw [List.length_drop]; omega) (fun x hx => HSZ.out x (List.mem_of_mem_drop hx))
                rw [List.length_drop] at h
                exact h
              have HS0 := Lib.hid (fun x h => @setP_valid l (none) ((pl.drop 1).map tx) leaf x HV.out h)
              have HR := Lib.hid (show R = (setP l (none) ((pl.drop 1).map tx) leaf).bind (setUp ll (tx nm)) from hgo)
              clear hgo
              generalize setP l (none) ((pl.drop 1).map tx) leaf = S at *
              have HREC := Lib.hid hREC
              clear hREC h1
              go_wp2_with (go_at_call 60; refine (HG4.out _ (HS.out.below HBX.out)).mono ?_; rintro e w' ⟨rfl, rfl⟩)
              refine (HREC.out _ (HS.out.below HBX.out) (HPS.out.below HBX.out)).mono ?_
              rintro e w5 ⟨v5, m5, rfl, hb5, hres⟩
              replace HBX := Lib.hid (Below_then HBX.out hb5 (Nat.le_refl _))
              replace HLX := Lib.hid (HLX.out.below hb5)
              have HCELL := Lib.hid (Below_cells hb5 _ _ _ hd)
              clear hb5 hd
              cases S with
              | none =>
                have HRN := Lib.hid (show R = none from HR.out)
                clear HR
                simp only [Option.isSome_none]
                go_wp2
                go_ret3
                exact SetRes.no HRN.out HBX.out
              | some x =>
                obtain ⟨rfl, B, d, rfl, hsB, hczB, hleB⟩ := hres x rfl
                have HSB := Lib.hid hsB
                have HVX := Lib.hid (HS0.out x rfl)
                have HRX := Lib.hid (show R = if (putE ll (nm, x.2)).2 then (if (putT x.1 (mk (foldT (putE ll (nm, x.2)).1))).2.2 then some ((putT x.1 (mk (foldT (putE ll (nm, x.2)).1))).1, prOf (foldT (putE ll (nm, x.2)).1)) else none) else none by
                  have h := HR.out
                  rw [Option.bind_some] at h
                  unfold setUp at h
                  rw [mk_tx] at h; exact h)
                clear HR hres hsB
                have hlx := storeV_len HVX.out
                have hPE := fun W h => sPutEntry_any (some ⟨w.heap.size, 0, none⟩) 0 ll (nm, x.2) W h (fun _ => rfl) HLA.out HLE.out HLV.out HNM.out
                have hok := @putE_ok ll (nm, x.2)
                unfold EnRes at hPE
                have hcell := HCELL.out
                simp only [Option.isSome_some]
                generalize putE ll (nm, x.2) = PE at *
                obtain ⟨pl2, ok2⟩ := PE
                obtain ⟨xs, xp⟩ := x
                simp only at hPE hok HSB HVX HRX hlx hczB hleB
                have HPE := Lib.hid hPE
                clear hPE
                go_wp2_with fail
                refine (HPE.out _ HLX.out).mono ?_
                rintro e w6 ⟨v6, rfl, hown6, hb6⟩
                have HB6 := Lib.hid (Below_then HBX.out hb6 (Nat.le_refl _))
                have HSB6 := Lib.hid (HSB.out.below hb6)
                obtain ⟨X, dx, rfl, hlex, hsx, _⟩ := hown6.sl
                have HX6 := Lib.hid hsx
                clear hb6 hown6 hsx
                cases ok2
                · have HRN := Lib.hid (show R = none from HRX.out)
                  clear HRX hok
                  go_wp2
                  go_ret3
                  exact SetRes.no HRN.out HB6.out
                · have HRY := Lib.hid (show R = if (putT xs (mk (foldT pl2))).2.2 then some ((putT xs (mk (foldT pl2))).1, prOf (tx (mk (foldT pl2)))) else none from HRX.out)
                  have hv2 := (hok rfl).2.1
                  have hp3 := entsV_len hv2
                  have hFT := fun w h => sFolderText_any X dx pl2 w h (by omega) (fitE_valid hv2)
                  have hfl := foldT_len pl2
                  have hPT := fun w h => sPutText_any B d xs (mk (foldT pl2)) w h hczB hleB (by omega) (fit_store HVX.out) (by rw [mk_size]; omega)
                  unfold PutRes at hPT
                  have hSP := fun w1 w2 v => @SetRes.put R xs (mk (foldT pl2)) w w1 w2 v HRY.out
                  clear HRY HRX hok hv2 hfl
                  generalize mk (foldT pl2) = FT at *
                  generalize putT xs FT = PT at *
                  obtain ⟨P1, P2, P3⟩ := PT
                  simp only at hPT hSP
                  have HSP := Lib.hid hSP
                  have HFT := Lib.hid hFT
                  have HPT := Lib.hid hPT
                  clear hFT hPT hSP
                  go_wp2_with fail
                  refine (HFT.out _ HX6.out).mono ?_
                  rintro e w7 ⟨rfl, hb7⟩
                  replace HB6 := Lib.hid (Below_then HB6.out hb7 (Nat.le_refl _))
                  replace HSB6 := Lib.hid (HSB6.out.below hb7)
                  clear hb7
                  go_wp2_with fail
                  refine (HPT.out _ HSB6.out).mono ?_
                  rintro e w8 ⟨v8, rfl, hown8, hb8⟩
                  have HO8 := Lib.hid hown8
                  have HB8 := Lib.hid hb8
                  clear hown8 hb8
                  go_wp2
                  go_ret3
                  exact HSP.out _ _ _ HO8.out HB6.out HB8.out
          · have h1' : ((pl.length : Int) == 1) = false := by rw [beq_eq_false_iff_ne]; omega
            have hpc1 : ¬ pc = 1 := by omega
            have hREC : ∀ w, Sl w encP 2 A l → Sl w encS 1 (some ⟨b, o, none⟩) pl → Calls Tryz.prog 124 #[.slice A l.length c, .int .i64 (-1), .slice (some ⟨b, o + 1, none⟩) (pl.length - 1) (pc - 1), .int .i64 leaf] w (SetRes (setP l (none) ((pl.drop 1).map tx) leaf) w) := fun w h1 h2 => by
              have h := IH.out (none) (some ⟨b, o + 1, none⟩) (pc - 1) w (fun q h => by cases h) h1 (h2.dropS) (by rw [List.length_drop]; omega) (fun x hx => HSZ.out x (List.mem_of_mem_drop hx))
              rw [List.length_drop] at h
              exact h
            have HS0 := Lib.hid (fun x h => @setP_valid l (none) ((pl.drop 1).map tx) leaf x HV.out h)
            have HR := Lib.hid (show R = (setP l (none) ((pl.drop 1).map tx) leaf).bind (setUp ll (tx nm)) from hgo)
            clear hgo
            generalize setP l (none) ((pl.drop 1).map tx) leaf = S at *
            have HREC := Lib.hid hREC
            clear hREC h1
            go_wp2_with (go_at_call 60; refine (HG4.out _ (HS.out.below HBX.out)).mono ?_; rintro e w' ⟨rfl, rfl⟩)
            refine (HREC.out _ (HS.out.below HBX.out) (HPS.out.below HBX.out)).mono ?_
            rintro e w5 ⟨v5, m5, rfl, hb5, hres⟩
            replace HBX := Lib.hid (Below_then HBX.out hb5 (Nat.le_refl _))
            replace HLX := Lib.hid (HLX.out.below hb5)
            have HCELL := Lib.hid (Below_cells hb5 _ _ _ hd)
            clear hb5 hd
            cases S with
            | none =>
              have HRN := Lib.hid (show R = none from HR.out)
              clear HR
              simp only [Option.isSome_none]
              go_wp2
              go_ret3
              exact SetRes.no HRN.out HBX.out
            | some x =>
              obtain ⟨rfl, B, d, rfl, hsB, hczB, hleB⟩ := hres x rfl
              have HSB := Lib.hid hsB
              have HVX := Lib.hid (HS0.out x rfl)
              have HRX := Lib.hid (show R = if (putE ll (nm, x.2)).2 then (if (putT x.1 (mk (foldT (putE ll (nm, x.2)).1))).2.2 then some ((putT x.1 (mk (foldT (putE ll (nm, x.2)).1))).1, prOf (foldT (putE ll (nm, x.2)).1)) else none) else none by
                have h := HR.out
                rw [Option.bind_some] at h
                unfold setUp at h
                rw [mk_tx] at h; exact h)
              clear HR hres hsB
              have hlx := storeV_len HVX.out
              have hPE := fun W h => sPutEntry_any (some ⟨w.heap.size, 0, none⟩) 0 ll (nm, x.2) W h (fun _ => rfl) HLA.out HLE.out HLV.out HNM.out
              have hok := @putE_ok ll (nm, x.2)
              unfold EnRes at hPE
              have hcell := HCELL.out
              simp only [Option.isSome_some]
              generalize putE ll (nm, x.2) = PE at *
              obtain ⟨pl2, ok2⟩ := PE
              obtain ⟨xs, xp⟩ := x
              simp only at hPE hok HSB HVX HRX hlx hczB hleB
              have HPE := Lib.hid hPE
              clear hPE
              go_wp2_with fail
              refine (HPE.out _ HLX.out).mono ?_
              rintro e w6 ⟨v6, rfl, hown6, hb6⟩
              have HB6 := Lib.hid (Below_then HBX.out hb6 (Nat.le_refl _))
              have HSB6 := Lib.hid (HSB.out.below hb6)
              obtain ⟨X, dx, rfl, hlex, hsx, _⟩ := hown6.sl
              have HX6 := Lib.hid hsx
              clear hb6 hown6 hsx
              cases ok2
              · have HRN := Lib.hid (show R = none from HRX.out)
                clear HRX hok
                go_wp2
                go_ret3
                exact SetRes.no HRN.out HB6.out
              · have HRY := Lib.hid (show R = if (putT xs (mk (foldT pl2))).2.2 then some ((putT xs (mk (foldT pl2))).1, prOf (tx (mk (foldT pl2)))) else none from HRX.out)
                have hv2 := (hok rfl).2.1
                have hp3 := entsV_len hv2
                have hFT := fun w h => sFolderText_any X dx pl2 w h (by omega) (fitE_valid hv2)
                have hfl := foldT_len pl2
                have hPT := fun w h => sPutText_any B d xs (mk (foldT pl2)) w h hczB hleB (by omega) (fit_store HVX.out) (by rw [mk_size]; omega)
                unfold PutRes at hPT
                have hSP := fun w1 w2 v => @SetRes.put R xs (mk (foldT pl2)) w w1 w2 v HRY.out
                clear HRY HRX hok hv2 hfl
                generalize mk (foldT pl2) = FT at *
                generalize putT xs FT = PT at *
                obtain ⟨P1, P2, P3⟩ := PT
                simp only at hPT hSP
                have HSP := Lib.hid hSP
                have HFT := Lib.hid hFT
                have HPT := Lib.hid hPT
                clear hFT hPT hSP
                go_wp2_with fail
                refine (HFT.out _ HX6.out).mono ?_
                rintro e w7 ⟨rfl, hb7⟩
                replace HB6 := Lib.hid (Below_then HB6.out hb7 (Nat.le_refl _))
                replace HSB6 := Lib.hid (HSB6.out.below hb7)
                clear hb7
                go_wp2_with fail
                refine (HPT.out _ HSB6.out).mono ?_
                rintro e w8 ⟨v8, rfl, hown8, hb8⟩
                have HO8 := Lib.hid hown8
                have HB8 := Lib.hid hb8
                clear hown8 hb8
                go_wp2
                go_ret3
                exact HSP.out _ _ _ HO8.out HB6.out HB8.out
        | some q => exact absurd (hge.symm.trans HGN.out) (by simp)

  | some p =>
    have hp0 : 0 ≤ p := ha p rfl
    have hHG := sl4Get_any A c l p
    have htz := getT_size HV.out (p := p)
    have hRD := fun w => sReadFolder_any ((getT l p).getD ⟨#[]⟩) w htz
    have hFT := folT_of (l := l) (p := p)
    have hSome := folT_some (l := l) (p := p)
    unfold RfRes at hRD
    unfold folT at hFT
    rw [hFT, hSome] at hRD
    have HGP := Lib.hid (fun w h => sl4Get_any A c l p w h hlen)
    simp only [Option.getD_some]
    cases hfo : folderOf l p with
    | none =>
      have HRN := Lib.hid (show R = none by rw [hfirst, show listAt l (some p) = none from hfo]; rfl)
      rw [hfo] at hRD
      generalize (getT l p).getD ⟨#[]⟩ = TT at *
      generalize (getT l p).isSome = okg at *
      have HRD := Lib.hid hRD
      clear hRD hfirst HREST hFT hSome htz hHG hfo
      go_enter Tryz.func124, Tryz.ntmps124
      go_wp2_with (go_at_call 60; refine (HGP.out _ (HS.out.alloc _)).mono ?_; rintro e w' ⟨rfl, rfl⟩)
      refine (HRD.out _).mono ?_
      rintro e w2 ⟨v, rfl, hown, hb⟩
      have HB := Lib.hid (Below_of_alloc hb)
      clear hown hb
      simp only [Option.isSome_none]
      go_wp2
      go_ret3
      exact SetRes.no HRN.out HB.out
    | some ll =>
      have hrest := HREST.out ll hfo
      have HLV := Lib.hid (folder_valid hfo)
      have HGO := Lib.hid (fun (h : pl.length = 1 → leafOk l (getE ll (tx nm)) = true) => show R = (setP l (getE ll (tx nm)) ((pl.drop 1).map tx) leaf).bind (setUp ll (tx nm)) by
        rw [hrest, if_neg]
        intro h2
        simp only [Bool.and_eq_true, decide_eq_true_eq, Bool.not_eq_true'] at h2
        rw [h h2.1] at h2; cases h2.2)
      have HNOL := Lib.hid (fun (h : pl.length = 1) (h2 : leafOk l (getE ll (tx nm)) = false) => show R = none by rw [hrest, h, h2]; rfl)
      clear hrest
      rw [hfo, Option.getD_some, Option.isSome_some] at hRD
      generalize (getT l p).getD ⟨#[]⟩ = TT at *
      generalize (getT l p).isSome = okg at *
      have HRD := Lib.hid hRD
      clear hRD hfirst HREST hFT hSome htz hHG hfo
      go_enter Tryz.func124, Tryz.ntmps124
      go_wp2_with (go_at_call 60; refine (HGP.out _ (HS.out.alloc _)).mono ?_; rintro e w' ⟨rfl, rfl⟩)
      refine (HRD.out _).mono ?_
      rintro e wA ⟨v, rfl, hown, hb⟩
      have HB := Lib.hid (Below_of_alloc hb)
      have hcA := Below_cells HB.out _ _ _ hc0
      obtain ⟨LA, lc, rfl, hle4, hs4, hA4⟩ := hown.sl
      have HLC := Lib.hid hown.cz
      have HLL := Lib.hid hs4
      have HLE := Lib.hid hle4
      have HLA := Lib.hid (show LA = none ∨ ∃ b o, LA = some ⟨b, o, none⟩ by
        rcases hA4 with ⟨_, rfl⟩ | ⟨g, rfl, _⟩
        · exact .inl rfl
        · exact .inr ⟨_, _, rfl⟩)
      clear hown hb hs4 hle4 hA4
      have hlv := HLV.out
      have hl3 := entsV_len hlv
      have hso := entsV_sorted hlv
      go_wp2_with fail
      go_loopw [16, 17] (fun vc vi wr => ∃ (k : Nat), k ≤ ll.length ∧ vc = .int .i64 (chE ll (tx nm) k) ∧ vi = .int .i64 k ∧ Hid (Below wA.heap.size wA wr)) (fun _ vi _ => ll.length - (intOf vi).toNat)
      case atStart => exact ⟨0, Nat.zero_le _, rfl, rfl, Below.refl _ _⟩
      case round =>
        obtain ⟨k, hk, rfl, rfl, HBJ⟩ := hrel
        have HBX := Lib.hid (Below_then HB.out HBJ.out (Nat.le_refl _))
        have HLX := Lib.hid (HLL.out.below HBJ.out)
        have hd := Below_cells HBJ.out _ _ _ hcA
        have hpl1 : (0 : Int) < (pl.length : Int) := by omega
        by_cases hlt : k < ll.length
        · obtain ⟨b2, o2, hLA, hy0, hy1⟩ := HLX.out.getE hlt
          first | subst hLA | (injection hLA with e; injection e with e1 e2 e3; subst e1; subst e2)
          have hlt' : (k : Int) < (ll.length : Int) := by omega
          cases heq : (ll[k].1.toList == nm.toList)
          · have HN := Lib.hid (chE_no (n := tx nm) hlt (by rw [eq_tlx] at heq; exact beq_eq_false_iff_ne.1 heq))
            generalize chE ll (tx nm) k = C0 at *
            generalize ll[k] = y at *
            obtain ⟨t, p2⟩ := y
            simp only at *
            go_wp2_with fail
            go_quiet (fail)
            all_goals
              go_wp2
              go_roundw
              case rel => exact ⟨k + 1, by omega, by rw [HN.out], by go_num, Below_drewN HBJ.out _⟩
              case measure => simp [intOf]; omega
          · have HN := Lib.hid (chE_yes (n := tx nm) hlt (by rw [eq_tlx] at heq; exact beq_iff_eq.1 heq))
            generalize chE ll (tx nm) k = C0 at *
            generalize ll[k] = y at *
            obtain ⟨t, p2⟩ := y
            simp only at *
            go_wp2_with fail
            go_quiet (fail)
            all_goals
              have hy1' := hy1
              go_wp2
              go_roundw
              case rel => exact ⟨k + 1, by omega, by rw [HN.out], by go_num, Below_drewN HBJ.out _⟩
              case measure => simp [intOf]; omega
        · have hlt' : ¬ (k : Int) < (ll.length : Int) := by omega
          rw [chE_all (n := tx nm) hso (k := k) (by omega)]
          have hge0 := @getE_pos ll (tx nm)
          have hG4 := fun p w h => sl4Get_any A c l p w h hlen
          cases hge : getE ll (tx nm) with
          | none =>
            rw [hge] at HGO
            have hgo := HGO.out (fun _ => rfl)
            have hg4 := hG4 (-1)
            generalize (getT l (-1)).getD ⟨#[]⟩ = T4 at *
            generalize (getT l (-1)).isSome = B4 at *
            have HG4 := Lib.hid hg4
            clear hg4
            clear hG4 hge0 HGO HNOL
            simp only [Option.getD_none]
            by_cases h1 : pl.length = 1
            · have h1' : ((pl.length : Int) == 1) = true := by rw [beq_iff_eq]; omega
              by_cases hroom : pc = 1
              · obtain rfl := hroom
                have hREC : ∀ w, Sl w encP 2 A l → Sl w encS 1 (some ⟨b, o, none⟩) pl → Calls Tryz.prog 124 #[.slice A l.length c, .int .i64 (-1), .slice (some ⟨b, o, none⟩) 0 0, .int .i64 leaf] w (SetRes (setP l (none) ((pl.drop 1).map tx) leaf) w) := fun w h1 h2 => by
                  have h := IH.out (none) (some ⟨b, o, none⟩) 0 w (fun q h => by cases h) h1 (Sl.gone (by rw [List.length_drop]; omega)) (by rw [List.length_drop]; omega) (fun x hx => HSZ.out x (List.mem_of_mem_drop hx))
                  rw [List.length_drop] at h
                  rw [show pl.length - 1 = 0 by omega] at h
                  exact h
                have HS0 := Lib.hid (fun x h => @setP_valid l (none) ((pl.drop 1).map tx) leaf x HV.out h)
                have HR := Lib.hid (show R = (setP l (none) ((pl.drop 1).map tx) leaf).bind (setUp ll (tx nm)) from hgo)
                clear hgo
                generalize setP l (none) ((pl.drop 1).map tx) leaf = S at *
                have HREC := Lib.hid hREC
                clear hREC h1
                go_wp2_with (go_at_call 60; refine (HG4.out _ (HS.out.below HBX.out)).mono ?_; rintro e w' ⟨rfl, rfl⟩)
                refine (HREC.out _ (HS.out.below HBX.out) (HPS.out.below HBX.out)).mono ?_
                rintro e w5 ⟨v5, m5, rfl, hb5, hres⟩
                replace HBX := Lib.hid (Below_then HBX.out hb5 (Nat.le_refl _))
                replace HLX := Lib.hid (HLX.out.below hb5)
                have HCELL := Lib.hid (Below_cells hb5 _ _ _ hd)
                clear hb5 hd
                cases S with
                | none =>
                  have HRN := Lib.hid (show R = none from HR.out)
                  clear HR
                  simp only [Option.isSome_none]
                  go_wp2
                  go_ret3
                  exact SetRes.no HRN.out HBX.out
                | some x =>
                  obtain ⟨rfl, B, d, rfl, hsB, hczB, hleB⟩ := hres x rfl
                  have HSB := Lib.hid hsB
                  have HVX := Lib.hid (HS0.out x rfl)
                  have HRX := Lib.hid (show R = if (putE ll (nm, x.2)).2 then (if (putT x.1 (mk (foldT (putE ll (nm, x.2)).1))).2.2 then some ((putT x.1 (mk (foldT (putE ll (nm, x.2)).1))).1, prOf (foldT (putE ll (nm, x.2)).1)) else none) else none by
                    have h := HR.out
                    rw [Option.bind_some] at h
                    unfold setUp at h
                    rw [mk_tx] at h; exact h)
                  clear HR hres hsB
                  have hlx := storeV_len HVX.out
                  have hPE := fun W h => sPutEntry_any LA lc ll (nm, x.2) W h HLC.out HLA.out HLE.out HLV.out HNM.out
                  have hok := @putE_ok ll (nm, x.2)
                  unfold EnRes at hPE
                  have hcell := HCELL.out
                  simp only [Option.isSome_some]
                  generalize putE ll (nm, x.2) = PE at *
                  obtain ⟨pl2, ok2⟩ := PE
                  obtain ⟨xs, xp⟩ := x
                  simp only at hPE hok HSB HVX HRX hlx hczB hleB
                  have HPE := Lib.hid hPE
                  clear hPE
                  go_wp2_with fail
                  refine (HPE.out _ HLX.out).mono ?_
                  rintro e w6 ⟨v6, rfl, hown6, hb6⟩
                  have HB6 := Lib.hid (Below_then HBX.out hb6 (Nat.le_refl _))
                  have HSB6 := Lib.hid (HSB.out.below hb6)
                  obtain ⟨X, dx, rfl, hlex, hsx, _⟩ := hown6.sl
                  have HX6 := Lib.hid hsx
                  clear hb6 hown6 hsx
                  cases ok2
                  · have HRN := Lib.hid (show R = none from HRX.out)
                    clear HRX hok
                    go_wp2
                    go_ret3
                    exact SetRes.no HRN.out HB6.out
                  · have HRY := Lib.hid (show R = if (putT xs (mk (foldT pl2))).2.2 then some ((putT xs (mk (foldT pl2))).1, prOf (tx (mk (foldT pl2)))) else none from HRX.out)
                    have hv2 := (hok rfl).2.1
                    have hp3 := entsV_len hv2
                    have hFT := fun w h => sFolderText_any X dx pl2 w h (by omega) (fitE_valid hv2)
                    have hfl := foldT_len pl2
                    have hPT := fun w h => sPutText_any B d xs (mk (foldT pl2)) w h hczB hleB (by omega) (fit_store HVX.out) (by rw [mk_size]; omega)
                    unfold PutRes at hPT
                    have hSP := fun w1 w2 v => @SetRes.put R xs (mk (foldT pl2)) w w1 w2 v HRY.out
                    clear HRY HRX hok hv2 hfl
                    generalize mk (foldT pl2) = FT at *
                    generalize putT xs FT = PT at *
                    obtain ⟨P1, P2, P3⟩ := PT
                    simp only at hPT hSP
                    have HSP := Lib.hid hSP
                    have HFT := Lib.hid hFT
                    have HPT := Lib.hid hPT
                    clear hFT hPT hSP
                    go_wp2_with fail
                    refine (HFT.out _ HX6.out).mono ?_
                    rintro e w7 ⟨rfl, hb7⟩
                    replace HB6 := Lib.hid (Below_then HB6.out hb7 (Nat.le_refl _))
                    replace HSB6 := Lib.hid (HSB6.out.below hb7)
                    clear hb7
                    go_wp2_with fail
                    refine (HPT.out _ HSB6.out).mono ?_
                    rintro e w8 ⟨v8, rfl, hown8, hb8⟩
                    have HO8 := Lib.hid hown8
                    have HB8 := Lib.hid hb8
                    clear hown8 hb8
                    go_wp2
                    go_ret3
                    exact HSP.out _ _ _ HO8.out HB6.out HB8.out
              · have hpc1 : ¬ pc = 1 := hroom
                have hREC : ∀ w, Sl w encP 2 A l → Sl w encS 1 (some ⟨b, o, none⟩) pl → Calls Tryz.prog 124 #[.slice A l.length c, .int .i64 (-1), .slice (some ⟨b, o + 1, none⟩) (pl.length - 1) (pc - 1), .int .i64 leaf] w (SetRes (setP l (none) ((pl.drop 1).map tx) leaf) w) := fun w h1 h2 => by
                  have h := IH.out (none) (some ⟨b, o + 1, none⟩) (pc - 1) w (fun q h => by cases h) h1 (h2.dropS) (by rw [List.length_drop]; omega) (fun x hx => HSZ.out x (List.mem_of_mem_drop hx))
                  rw [List.length_drop] at h
                  exact h
                have HS0 := Lib.hid (fun x h => @setP_valid l (none) ((pl.drop 1).map tx) leaf x HV.out h)
                have HR := Lib.hid (show R = (setP l (none) ((pl.drop 1).map tx) leaf).bind (setUp ll (tx nm)) from hgo)
                clear hgo
                generalize setP l (none) ((pl.drop 1).map tx) leaf = S at *
                have HREC := Lib.hid hREC
                clear hREC h1
                go_wp2_with (go_at_call 60; refine (HG4.out _ (HS.out.below HBX.out)).mono ?_; rintro e w' ⟨rfl, rfl⟩)
                refine (HREC.out _ (HS.out.below HBX.out) (HPS.out.below HBX.out)).mono ?_
                rintro e w5 ⟨v5, m5, rfl, hb5, hres⟩
                replace HBX := Lib.hid (Below_then HBX.out hb5 (Nat.le_refl _))
                replace HLX := Lib.hid (HLX.out.below hb5)
                have HCELL := Lib.hid (Below_cells hb5 _ _ _ hd)
                clear hb5 hd
                cases S with
                | none =>
                  have HRN := Lib.hid (show R = none from HR.out)
                  clear HR
                  simp only [Option.isSome_none]
                  go_wp2
                  go_ret3
                  exact SetRes.no HRN.out HBX.out
                | some x =>
                  obtain ⟨rfl, B, d, rfl, hsB, hczB, hleB⟩ := hres x rfl
                  have HSB := Lib.hid hsB
                  have HVX := Lib.hid (HS0.out x rfl)
                  have HRX := Lib.hid (show R = if (putE ll (nm, x.2)).2 then (if (putT x.1 (mk (foldT (putE ll (nm, x.2)).1))).2.2 then some ((putT x.1 (mk (foldT (putE ll (nm, x.2)).1))).1, prOf (foldT (putE ll (nm, x.2)).1)) else none) else none by
                    have h := HR.out
                    rw [Option.bind_some] at h
                    unfold setUp at h
                    rw [mk_tx] at h; exact h)
                  clear HR hres hsB
                  have hlx := storeV_len HVX.out
                  have hPE := fun W h => sPutEntry_any LA lc ll (nm, x.2) W h HLC.out HLA.out HLE.out HLV.out HNM.out
                  have hok := @putE_ok ll (nm, x.2)
                  unfold EnRes at hPE
                  have hcell := HCELL.out
                  simp only [Option.isSome_some]
                  generalize putE ll (nm, x.2) = PE at *
                  obtain ⟨pl2, ok2⟩ := PE
                  obtain ⟨xs, xp⟩ := x
                  simp only at hPE hok HSB HVX HRX hlx hczB hleB
                  have HPE := Lib.hid hPE
                  clear hPE
                  go_wp2_with fail
                  refine (HPE.out _ HLX.out).mono ?_
                  rintro e w6 ⟨v6, rfl, hown6, hb6⟩
                  have HB6 := Lib.hid (Below_then HBX.out hb6 (Nat.le_refl _))
                  have HSB6 := Lib.hid (HSB.out.below hb6)
                  obtain ⟨X, dx, rfl, hlex, hsx, _⟩ := hown6.sl
                  have HX6 := Lib.hid hsx
                  clear hb6 hown6 hsx
                  cases ok2
                  · have HRN := Lib.hid (show R = none from HRX.out)
                    clear HRX hok
                    go_wp2
                    go_ret3
                    exact SetRes.no HRN.out HB6.out
                  · have HRY := Lib.hid (show R = if (putT xs (mk (foldT pl2))).2.2 then some ((putT xs (mk (foldT pl2))).1, prOf (tx (mk (foldT pl2)))) else none from HRX.out)
                    have hv2 := (hok rfl).2.1
                    have hp3 := entsV_len hv2
                    have hFT := fun w h => sFolderText_any X dx pl2 w h (by omega) (fitE_valid hv2)
                    have hfl := foldT_len pl2
                    have hPT := fun w h => sPutText_any B d xs (mk (foldT pl2)) w h hczB hleB (by omega) (fit_store HVX.out) (by rw [mk_size]; omega)
                    unfold PutRes at hPT
                    have hSP := fun w1 w2 v => @SetRes.put R xs (mk (foldT pl2)) w w1 w2 v HRY.out
                    clear HRY HRX hok hv2 hfl
                    generalize mk (foldT pl2) = FT at *
                    generalize putT xs FT = PT at *
                    obtain ⟨P1, P2, P3⟩ := PT
                    simp only at hPT hSP
                    have HSP := Lib.hid hSP
                    have HFT := Lib.hid hFT
                    have HPT := Lib.hid hPT
                    clear hFT hPT hSP
                    go_wp2_with fail
                    refine (HFT.out _ HX6.out).mono ?_
                    rintro e w7 ⟨rfl, hb7⟩
                    replace HB6 := Lib.hid (Below_then HB6.out hb7 (Nat.le_refl _))
                    replace HSB6 := Lib.hid (HSB6.out.below hb7)
                    clear hb7
                    go_wp2_with fail
                    refine (HPT.out _ HSB6.out).mono ?_
                    rintro e w8 ⟨v8, rfl, hown8, hb8⟩
                    have HO8 := Lib.hid hown8
                    have HB8 := Lib.hid hb8
                    clear hown8 hb8
                    go_wp2
                    go_ret3
                    exact HSP.out _ _ _ HO8.out HB6.out HB8.out
            · have h1' : ((pl.length : Int) == 1) = false := by rw [beq_eq_false_iff_ne]; omega
              have hpc1 : ¬ pc = 1 := by omega
              have hREC : ∀ w, Sl w encP 2 A l → Sl w encS 1 (some ⟨b, o, none⟩) pl → Calls Tryz.prog 124 #[.slice A l.length c, .int .i64 (-1), .slice (some ⟨b, o + 1, none⟩) (pl.length - 1) (pc - 1), .int .i64 leaf] w (SetRes (setP l (none) ((pl.drop 1).map tx) leaf) w) := fun w h1 h2 => by
                have h := IH.out (none) (some ⟨b, o + 1, none⟩) (pc - 1) w (fun q h => by cases h) h1 (h2.dropS) (by rw [List.length_drop]; omega) (fun x hx => HSZ.out x (List.mem_of_mem_drop hx))
                rw [List.length_drop] at h
                exact h
              have HS0 := Lib.hid (fun x h => @setP_valid l (none) ((pl.drop 1).map tx) leaf x HV.out h)
              have HR := Lib.hid (show R = (setP l (none) ((pl.drop 1).map tx) leaf).bind (setUp ll (tx nm)) from hgo)
              clear hgo
              generalize setP l (none) ((pl.drop 1).map tx) leaf = S at *
              have HREC := Lib.hid hREC
              clear hREC h1
              go_wp2_with (go_at_call 60; refine (HG4.out _ (HS.out.below HBX.out)).mono ?_; rintro e w' ⟨rfl, rfl⟩)
              refine (HREC.out _ (HS.out.below HBX.out) (HPS.out.below HBX.out)).mono ?_
              rintro e w5 ⟨v5, m5, rfl, hb5, hres⟩
              replace HBX := Lib.hid (Below_then HBX.out hb5 (Nat.le_refl _))
              replace HLX := Lib.hid (HLX.out.below hb5)
              have HCELL := Lib.hid (Below_cells hb5 _ _ _ hd)
              clear hb5 hd
              cases S with
              | none =>
                have HRN := Lib.hid (show R = none from HR.out)
                clear HR
                simp only [Option.isSome_none]
                go_wp2
                go_ret3
                exact SetRes.no HRN.out HBX.out
              | some x =>
                obtain ⟨rfl, B, d, rfl, hsB, hczB, hleB⟩ := hres x rfl
                have HSB := Lib.hid hsB
                have HVX := Lib.hid (HS0.out x rfl)
                have HRX := Lib.hid (show R = if (putE ll (nm, x.2)).2 then (if (putT x.1 (mk (foldT (putE ll (nm, x.2)).1))).2.2 then some ((putT x.1 (mk (foldT (putE ll (nm, x.2)).1))).1, prOf (foldT (putE ll (nm, x.2)).1)) else none) else none by
                  have h := HR.out
                  rw [Option.bind_some] at h
                  unfold setUp at h
                  rw [mk_tx] at h; exact h)
                clear HR hres hsB
                have hlx := storeV_len HVX.out
                have hPE := fun W h => sPutEntry_any LA lc ll (nm, x.2) W h HLC.out HLA.out HLE.out HLV.out HNM.out
                have hok := @putE_ok ll (nm, x.2)
                unfold EnRes at hPE
                have hcell := HCELL.out
                simp only [Option.isSome_some]
                generalize putE ll (nm, x.2) = PE at *
                obtain ⟨pl2, ok2⟩ := PE
                obtain ⟨xs, xp⟩ := x
                simp only at hPE hok HSB HVX HRX hlx hczB hleB
                have HPE := Lib.hid hPE
                clear hPE
                go_wp2_with fail
                refine (HPE.out _ HLX.out).mono ?_
                rintro e w6 ⟨v6, rfl, hown6, hb6⟩
                have HB6 := Lib.hid (Below_then HBX.out hb6 (Nat.le_refl _))
                have HSB6 := Lib.hid (HSB.out.below hb6)
                obtain ⟨X, dx, rfl, hlex, hsx, _⟩ := hown6.sl
                have HX6 := Lib.hid hsx
                clear hb6 hown6 hsx
                cases ok2
                · have HRN := Lib.hid (show R = none from HRX.out)
                  clear HRX hok
                  go_wp2
                  go_ret3
                  exact SetRes.no HRN.out HB6.out
                · have HRY := Lib.hid (show R = if (putT xs (mk (foldT pl2))).2.2 then some ((putT xs (mk (foldT pl2))).1, prOf (tx (mk (foldT pl2)))) else none from HRX.out)
                  have hv2 := (hok rfl).2.1
                  have hp3 := entsV_len hv2
                  have hFT := fun w h => sFolderText_any X dx pl2 w h (by omega) (fitE_valid hv2)
                  have hfl := foldT_len pl2
                  have hPT := fun w h => sPutText_any B d xs (mk (foldT pl2)) w h hczB hleB (by omega) (fit_store HVX.out) (by rw [mk_size]; omega)
                  unfold PutRes at hPT
                  have hSP := fun w1 w2 v => @SetRes.put R xs (mk (foldT pl2)) w w1 w2 v HRY.out
                  clear HRY HRX hok hv2 hfl
                  generalize mk (foldT pl2) = FT at *
                  generalize putT xs FT = PT at *
                  obtain ⟨P1, P2, P3⟩ := PT
                  simp only at hPT hSP
                  have HSP := Lib.hid hSP
                  have HFT := Lib.hid hFT
                  have HPT := Lib.hid hPT
                  clear hFT hPT hSP
                  go_wp2_with fail
                  refine (HFT.out _ HX6.out).mono ?_
                  rintro e w7 ⟨rfl, hb7⟩
                  replace HB6 := Lib.hid (Below_then HB6.out hb7 (Nat.le_refl _))
                  replace HSB6 := Lib.hid (HSB6.out.below hb7)
                  clear hb7
                  go_wp2_with fail
                  refine (HPT.out _ HSB6.out).mono ?_
                  rintro e w8 ⟨v8, rfl, hown8, hb8⟩
                  have HO8 := Lib.hid hown8
                  have HB8 := Lib.hid hb8
                  clear hown8 hb8
                  go_wp2
                  go_ret3
                  exact HSP.out _ _ _ HO8.out HB6.out HB8.out
          | some q =>
            have hq0 : 0 ≤ q := hge0 hlv hge
            rw [hge] at HGO HNOL
            simp only [Option.getD_some]
            by_cases h1 : pl.length = 1
            · cases hfq : fileOf l q with
              | none =>
                have HRN := Lib.hid (HNOL.out h1 (by show (fileOf l q).isSome = false; rw [hfq]; rfl))
                have h1' : ((pl.length : Int) == 1) = true := by rw [beq_iff_eq]; omega
                have hgq := hG4 q
                have htz := getT_size HV.out (p := q)
                cases hgt : getT l q with
                | none =>
                  rw [hgt] at hgq
                  simp only [Option.getD_none, Option.isSome_none] at hgq
                  have HG4 := Lib.hid hgq
                  clear hgq hG4 hge0 HGO HNOL hfq
                  go_wp2_with (go_at_call 60; refine (HG4.out _ (HS.out.below HBX.out)).mono ?_; rintro e w' ⟨rfl, rfl⟩)
                  go_ret3
                  exact SetRes.no HRN.out HBX.out
                | some t =>
                  have hk1 : ¬ textK (bs t) = 1 := by
                    have h := hfq
                    unfold fileOf at h
                    rw [hgt, Option.bind_some] at h
                    rw [textK_one, show bs t = tx t from rfl, h]; simp
                  rw [hgt] at hgq htz
                  simp only [Option.getD_some, Option.isSome_some] at hgq htz
                  have hTK := fun w => sTextKind_any t w htz
                  generalize textK (bs t) = TK at *
                  have HTK := Lib.hid hTK
                  have HG4 := Lib.hid hgq
                  clear hgq hG4 hge0 HGO HNOL hfq hTK
                  go_wp2_with (go_at_call 60; refine (HG4.out _ (HS.out.below HBX.out)).mono ?_; rintro e w' ⟨rfl, rfl⟩)
                  refine (HTK.out _).mono ?_
                  rintro e w5 ⟨rfl, hb5⟩
                  replace HBX := Lib.hid (Below_then HBX.out hb5 (Nat.le_refl _))
                  clear hb5
                  go_wp2
                  go_ret3
                  exact SetRes.no HRN.out HBX.out
              | some fc =>
                have hgo := HGO.out (fun _ => by show (fileOf l q).isSome = true; rw [hfq]; rfl)
                have h1' : ((pl.length : Int) == 1) = true := by rw [beq_iff_eq]; omega
                have hgq := hG4 q
                have htz := getT_size HV.out (p := q)
                obtain ⟨t, hgt, hrt⟩ := Option.bind_eq_some_iff.1 (show (getT l q).bind (fun t => readFi (tx t)) = some fc from hfq)
                have hk1 : textK (bs t) = 1 := by rw [textK_one, show bs t = tx t from rfl, hrt]; rfl
                rw [hgt] at hgq htz
                simp only [Option.getD_some, Option.isSome_some] at hgq htz
                have hTK := fun w => sTextKind_any t w htz
                rw [hk1] at hTK
                have HTK := Lib.hid hTK
                have HG4 := Lib.hid hgq
                have HH1 := Lib.hid h1
                clear hgq hG4 hge0 HGO HNOL hfq hTK hk1 h1
                go_wp2_with (go_at_call 60; refine (HG4.out _ (HS.out.below HBX.out)).mono ?_; rintro e w' ⟨rfl, rfl⟩)
                refine (HTK.out _).mono ?_
                rintro e w5 ⟨rfl, hb5⟩
                replace HBX := Lib.hid (Below_then HBX.out hb5 (Nat.le_refl _))
                replace HLX := Lib.hid (HLX.out.below hb5)
                replace hd := Below_cells hb5 _ _ _ hd
                have h1 := HH1.out
                clear hb5 h1'
                by_cases hroom : pc = 1
                · obtain rfl := hroom
                  have hREC : ∀ w, Sl w encP 2 A l → Sl w encS 1 (some ⟨b, o, none⟩) pl → Calls Tryz.prog 124 #[.slice A l.length c, .int .i64 q, .slice (some ⟨b, o, none⟩) 0 0, .int .i64 leaf] w (SetRes (setP l (some q) ((pl.drop 1).map tx) leaf) w) := fun w h1 h2 => by
                    have h := IH.out (some q) (some ⟨b, o, none⟩) 0 w (fun q2 h => by injection h with h; omega) h1 (Sl.gone (by rw [List.length_drop]; omega)) (by rw [List.length_drop]; omega) (fun x hx => HSZ.out x (List.mem_of_mem_drop hx))
                    rw [List.length_drop] at h
                    rw [show pl.length - 1 = 0 by omega] at h
                    exact h
                  have HS0 := Lib.hid (fun x h => @setP_valid l (some q) ((pl.drop 1).map tx) leaf x HV.out h)
                  have HR := Lib.hid (show R = (setP l (some q) ((pl.drop 1).map tx) leaf).bind (setUp ll (tx nm)) from hgo)
                  clear hgo
                  generalize setP l (some q) ((pl.drop 1).map tx) leaf = S at *
                  have HREC := Lib.hid hREC
                  clear hREC h1
                  go_wp2_with fail
                  refine (HREC.out _ (HS.out.below HBX.out) (HPS.out.below HBX.out)).mono ?_
                  rintro e w5 ⟨v5, m5, rfl, hb5, hres⟩
                  replace HBX := Lib.hid (Below_then HBX.out hb5 (Nat.le_refl _))
                  replace HLX := Lib.hid (HLX.out.below hb5)
                  have HCELL := Lib.hid (Below_cells hb5 _ _ _ hd)
                  clear hb5 hd
                  cases S with
                  | none =>
                    have HRN := Lib.hid (show R = none from HR.out)
                    clear HR
                    simp only [Option.isSome_none]
                    go_wp2
                    go_ret3
                    exact SetRes.no HRN.out HBX.out
                  | some x =>
                    obtain ⟨rfl, B, d, rfl, hsB, hczB, hleB⟩ := hres x rfl
                    have HSB := Lib.hid hsB
                    have HVX := Lib.hid (HS0.out x rfl)
                    have HRX := Lib.hid (show R = if (putE ll (nm, x.2)).2 then (if (putT x.1 (mk (foldT (putE ll (nm, x.2)).1))).2.2 then some ((putT x.1 (mk (foldT (putE ll (nm, x.2)).1))).1, prOf (foldT (putE ll (nm, x.2)).1)) else none) else none by
                      have h := HR.out
                      rw [Option.bind_some] at h
                      unfold setUp at h
                      rw [mk_tx] at h; exact h)
                    clear HR hres hsB
                    have hlx := storeV_len HVX.out
                    have hPE := fun W h => sPutEntry_any LA lc ll (nm, x.2) W h HLC.out HLA.out HLE.out HLV.out HNM.out
                    have hok := @putE_ok ll (nm, x.2)
                    unfold EnRes at hPE
                    have hcell := HCELL.out
                    simp only [Option.isSome_some]
                    generalize putE ll (nm, x.2) = PE at *
                    obtain ⟨pl2, ok2⟩ := PE
                    obtain ⟨xs, xp⟩ := x
                    simp only at hPE hok HSB HVX HRX hlx hczB hleB
                    have HPE := Lib.hid hPE
                    clear hPE
                    go_wp2_with fail
                    refine (HPE.out _ HLX.out).mono ?_
                    rintro e w6 ⟨v6, rfl, hown6, hb6⟩
                    have HB6 := Lib.hid (Below_then HBX.out hb6 (Nat.le_refl _))
                    have HSB6 := Lib.hid (HSB.out.below hb6)
                    obtain ⟨X, dx, rfl, hlex, hsx, _⟩ := hown6.sl
                    have HX6 := Lib.hid hsx
                    clear hb6 hown6 hsx
                    cases ok2
                    · have HRN := Lib.hid (show R = none from HRX.out)
                      clear HRX hok
                      go_wp2
                      go_ret3
                      exact SetRes.no HRN.out HB6.out
                    · have HRY := Lib.hid (show R = if (putT xs (mk (foldT pl2))).2.2 then some ((putT xs (mk (foldT pl2))).1, prOf (tx (mk (foldT pl2)))) else none from HRX.out)
                      have hv2 := (hok rfl).2.1
                      have hp3 := entsV_len hv2
                      have hFT := fun w h => sFolderText_any X dx pl2 w h (by omega) (fitE_valid hv2)
                      have hfl := foldT_len pl2
                      have hPT := fun w h => sPutText_any B d xs (mk (foldT pl2)) w h hczB hleB (by omega) (fit_store HVX.out) (by rw [mk_size]; omega)
                      unfold PutRes at hPT
                      have hSP := fun w1 w2 v => @SetRes.put R xs (mk (foldT pl2)) w w1 w2 v HRY.out
                      clear HRY HRX hok hv2 hfl
                      generalize mk (foldT pl2) = FT at *
                      generalize putT xs FT = PT at *
                      obtain ⟨P1, P2, P3⟩ := PT
                      simp only at hPT hSP
                      have HSP := Lib.hid hSP
                      have HFT := Lib.hid hFT
                      have HPT := Lib.hid hPT
                      clear hFT hPT hSP
                      go_wp2_with fail
                      refine (HFT.out _ HX6.out).mono ?_
                      rintro e w7 ⟨rfl, hb7⟩
                      replace HB6 := Lib.hid (Below_then HB6.out hb7 (Nat.le_refl _))
                      replace HSB6 := Lib.hid (HSB6.out.below hb7)
                      clear hb7
                      go_wp2_with fail
                      refine (HPT.out _ HSB6.out).mono ?_
                      rintro e w8 ⟨v8, rfl, hown8, hb8⟩
                      have HO8 := Lib.hid hown8
                      have HB8 := Lib.hid hb8
                      clear hown8 hb8
                      go_wp2
                      go_ret3
                      exact HSP.out _ _ _ HO8.out HB6.out HB8.out
                · have hpc1 : ¬ pc = 1 := hroom
                  have hREC : ∀ w, Sl w encP 2 A l → Sl w encS 1 (some ⟨b, o, none⟩) pl → Calls Tryz.prog 124 #[.slice A l.length c, .int .i64 q, .slice (some ⟨b, o + 1, none⟩) (pl.length - 1) (pc - 1), .int .i64 leaf] w (SetRes (setP l (some q) ((pl.drop 1).map tx) leaf) w) := fun w h1 h2 => by
                    have h := IH.out (some q) (some ⟨b, o + 1, none⟩) (pc - 1) w (fun q2 h => by injection h with h; omega) h1 (h2.dropS) (by rw [List.length_drop]; omega) (fun x hx => HSZ.out x (List.mem_of_mem_drop hx))
                    rw [List.length_drop] at h
                    exact h
                  have HS0 := Lib.hid (fun x h => @setP_valid l (some q) ((pl.drop 1).map tx) leaf x HV.out h)
                  have HR := Lib.hid (show R = (setP l (some q) ((pl.drop 1).map tx) leaf).bind (setUp ll (tx nm)) from hgo)
                  clear hgo
                  generalize setP l (some q) ((pl.drop 1).map tx) leaf = S at *
                  have HREC := Lib.hid hREC
                  clear hREC h1
                  go_wp2_with fail
                  refine (HREC.out _ (HS.out.below HBX.out) (HPS.out.below HBX.out)).mono ?_
                  rintro e w5 ⟨v5, m5, rfl, hb5, hres⟩
                  replace HBX := Lib.hid (Below_then HBX.out hb5 (Nat.le_refl _))
                  replace HLX := Lib.hid (HLX.out.below hb5)
                  have HCELL := Lib.hid (Below_cells hb5 _ _ _ hd)
                  clear hb5 hd
                  cases S with
                  | none =>
                    have HRN := Lib.hid (show R = none from HR.out)
                    clear HR
                    simp only [Option.isSome_none]
                    go_wp2
                    go_ret3
                    exact SetRes.no HRN.out HBX.out
                  | some x =>
                    obtain ⟨rfl, B, d, rfl, hsB, hczB, hleB⟩ := hres x rfl
                    have HSB := Lib.hid hsB
                    have HVX := Lib.hid (HS0.out x rfl)
                    have HRX := Lib.hid (show R = if (putE ll (nm, x.2)).2 then (if (putT x.1 (mk (foldT (putE ll (nm, x.2)).1))).2.2 then some ((putT x.1 (mk (foldT (putE ll (nm, x.2)).1))).1, prOf (foldT (putE ll (nm, x.2)).1)) else none) else none by
                      have h := HR.out
                      rw [Option.bind_some] at h
                      unfold setUp at h
                      rw [mk_tx] at h; exact h)
                    clear HR hres hsB
                    have hlx := storeV_len HVX.out
                    have hPE := fun W h => sPutEntry_any LA lc ll (nm, x.2) W h HLC.out HLA.out HLE.out HLV.out HNM.out
                    have hok := @putE_ok ll (nm, x.2)
                    unfold EnRes at hPE
                    have hcell := HCELL.out
                    simp only [Option.isSome_some]
                    generalize putE ll (nm, x.2) = PE at *
                    obtain ⟨pl2, ok2⟩ := PE
                    obtain ⟨xs, xp⟩ := x
                    simp only at hPE hok HSB HVX HRX hlx hczB hleB
                    have HPE := Lib.hid hPE
                    clear hPE
                    go_wp2_with fail
                    refine (HPE.out _ HLX.out).mono ?_
                    rintro e w6 ⟨v6, rfl, hown6, hb6⟩
                    have HB6 := Lib.hid (Below_then HBX.out hb6 (Nat.le_refl _))
                    have HSB6 := Lib.hid (HSB.out.below hb6)
                    obtain ⟨X, dx, rfl, hlex, hsx, _⟩ := hown6.sl
                    have HX6 := Lib.hid hsx
                    clear hb6 hown6 hsx
                    cases ok2
                    · have HRN := Lib.hid (show R = none from HRX.out)
                      clear HRX hok
                      go_wp2
                      go_ret3
                      exact SetRes.no HRN.out HB6.out
                    · have HRY := Lib.hid (show R = if (putT xs (mk (foldT pl2))).2.2 then some ((putT xs (mk (foldT pl2))).1, prOf (tx (mk (foldT pl2)))) else none from HRX.out)
                      have hv2 := (hok rfl).2.1
                      have hp3 := entsV_len hv2
                      have hFT := fun w h => sFolderText_any X dx pl2 w h (by omega) (fitE_valid hv2)
                      have hfl := foldT_len pl2
                      have hPT := fun w h => sPutText_any B d xs (mk (foldT pl2)) w h hczB hleB (by omega) (fit_store HVX.out) (by rw [mk_size]; omega)
                      unfold PutRes at hPT
                      have hSP := fun w1 w2 v => @SetRes.put R xs (mk (foldT pl2)) w w1 w2 v HRY.out
                      clear HRY HRX hok hv2 hfl
                      generalize mk (foldT pl2) = FT at *
                      generalize putT xs FT = PT at *
                      obtain ⟨P1, P2, P3⟩ := PT
                      simp only at hPT hSP
                      have HSP := Lib.hid hSP
                      have HFT := Lib.hid hFT
                      have HPT := Lib.hid hPT
                      clear hFT hPT hSP
                      go_wp2_with fail
                      refine (HFT.out _ HX6.out).mono ?_
                      rintro e w7 ⟨rfl, hb7⟩
                      replace HB6 := Lib.hid (Below_then HB6.out hb7 (Nat.le_refl _))
                      replace HSB6 := Lib.hid (HSB6.out.below hb7)
                      clear hb7
                      go_wp2_with fail
                      refine (HPT.out _ HSB6.out).mono ?_
                      rintro e w8 ⟨v8, rfl, hown8, hb8⟩
                      have HO8 := Lib.hid hown8
                      have HB8 := Lib.hid hb8
                      clear hown8 hb8
                      go_wp2
                      go_ret3
                      exact HSP.out _ _ _ HO8.out HB6.out HB8.out
            · have hgo := HGO.out (fun h => absurd h h1)
              have h1' : ((pl.length : Int) == 1) = false := by rw [beq_eq_false_iff_ne]; omega
              have hg4 := hG4 q
              generalize (getT l q).getD ⟨#[]⟩ = T4 at *
              generalize (getT l q).isSome = B4 at *
              have HG4 := Lib.hid hg4
              clear hg4
              clear hG4 hge0 HGO HNOL
              have hpc1 : ¬ pc = 1 := by omega
              have hREC : ∀ w, Sl w encP 2 A l → Sl w encS 1 (some ⟨b, o, none⟩) pl → Calls Tryz.prog 124 #[.slice A l.length c, .int .i64 q, .slice (some ⟨b, o + 1, none⟩) (pl.length - 1) (pc - 1), .int .i64 leaf] w (SetRes (setP l (some q) ((pl.drop 1).map tx) leaf) w) := fun w h1 h2 => by
                have h := IH.out (some q) (some ⟨b, o + 1, none⟩) (pc - 1) w (fun q2 h => by injection h with h; omega) h1 (h2.dropS) (by rw [List.length_drop]; omega) (fun x hx => HSZ.out x (List.mem_of_mem_drop hx))
                rw [List.length_drop] at h
                exact h
              have HS0 := Lib.hid (fun x h => @setP_valid l (some q) ((pl.drop 1).map tx) leaf x HV.out h)
              have HR := Lib.hid (show R = (setP l (some q) ((pl.drop 1).map tx) leaf).bind (setUp ll (tx nm)) from hgo)
              clear hgo
              generalize setP l (some q) ((pl.drop 1).map tx) leaf = S at *
              have HREC := Lib.hid hREC
              clear hREC h1
              go_wp2_with (go_at_call 60; refine (HG4.out _ (HS.out.below HBX.out)).mono ?_; rintro e w' ⟨rfl, rfl⟩)
              refine (HREC.out _ (HS.out.below HBX.out) (HPS.out.below HBX.out)).mono ?_
              rintro e w5 ⟨v5, m5, rfl, hb5, hres⟩
              replace HBX := Lib.hid (Below_then HBX.out hb5 (Nat.le_refl _))
              replace HLX := Lib.hid (HLX.out.below hb5)
              have HCELL := Lib.hid (Below_cells hb5 _ _ _ hd)
              clear hb5 hd
              cases S with
              | none =>
                have HRN := Lib.hid (show R = none from HR.out)
                clear HR
                simp only [Option.isSome_none]
                go_wp2
                go_ret3
                exact SetRes.no HRN.out HBX.out
              | some x =>
                obtain ⟨rfl, B, d, rfl, hsB, hczB, hleB⟩ := hres x rfl
                have HSB := Lib.hid hsB
                have HVX := Lib.hid (HS0.out x rfl)
                have HRX := Lib.hid (show R = if (putE ll (nm, x.2)).2 then (if (putT x.1 (mk (foldT (putE ll (nm, x.2)).1))).2.2 then some ((putT x.1 (mk (foldT (putE ll (nm, x.2)).1))).1, prOf (foldT (putE ll (nm, x.2)).1)) else none) else none by
                  have h := HR.out
                  rw [Option.bind_some] at h
                  unfold setUp at h
                  rw [mk_tx] at h; exact h)
                clear HR hres hsB
                have hlx := storeV_len HVX.out
                have hPE := fun W h => sPutEntry_any LA lc ll (nm, x.2) W h HLC.out HLA.out HLE.out HLV.out HNM.out
                have hok := @putE_ok ll (nm, x.2)
                unfold EnRes at hPE
                have hcell := HCELL.out
                simp only [Option.isSome_some]
                generalize putE ll (nm, x.2) = PE at *
                obtain ⟨pl2, ok2⟩ := PE
                obtain ⟨xs, xp⟩ := x
                simp only at hPE hok HSB HVX HRX hlx hczB hleB
                have HPE := Lib.hid hPE
                clear hPE
                go_wp2_with fail
                refine (HPE.out _ HLX.out).mono ?_
                rintro e w6 ⟨v6, rfl, hown6, hb6⟩
                have HB6 := Lib.hid (Below_then HBX.out hb6 (Nat.le_refl _))
                have HSB6 := Lib.hid (HSB.out.below hb6)
                obtain ⟨X, dx, rfl, hlex, hsx, _⟩ := hown6.sl
                have HX6 := Lib.hid hsx
                clear hb6 hown6 hsx
                cases ok2
                · have HRN := Lib.hid (show R = none from HRX.out)
                  clear HRX hok
                  go_wp2
                  go_ret3
                  exact SetRes.no HRN.out HB6.out
                · have HRY := Lib.hid (show R = if (putT xs (mk (foldT pl2))).2.2 then some ((putT xs (mk (foldT pl2))).1, prOf (tx (mk (foldT pl2)))) else none from HRX.out)
                  have hv2 := (hok rfl).2.1
                  have hp3 := entsV_len hv2
                  have hFT := fun w h => sFolderText_any X dx pl2 w h (by omega) (fitE_valid hv2)
                  have hfl := foldT_len pl2
                  have hPT := fun w h => sPutText_any B d xs (mk (foldT pl2)) w h hczB hleB (by omega) (fit_store HVX.out) (by rw [mk_size]; omega)
                  unfold PutRes at hPT
                  have hSP := fun w1 w2 v => @SetRes.put R xs (mk (foldT pl2)) w w1 w2 v HRY.out
                  clear HRY HRX hok hv2 hfl
                  generalize mk (foldT pl2) = FT at *
                  generalize putT xs FT = PT at *
                  obtain ⟨P1, P2, P3⟩ := PT
                  simp only at hPT hSP
                  have HSP := Lib.hid hSP
                  have HFT := Lib.hid hFT
                  have HPT := Lib.hid hPT
                  clear hFT hPT hSP
                  go_wp2_with fail
                  refine (HFT.out _ HX6.out).mono ?_
                  rintro e w7 ⟨rfl, hb7⟩
                  replace HB6 := Lib.hid (Below_then HB6.out hb7 (Nat.le_refl _))
                  replace HSB6 := Lib.hid (HSB6.out.below hb7)
                  clear hb7
                  go_wp2_with fail
                  refine (HPT.out _ HSB6.out).mono ?_
                  rintro e w8 ⟨v8, rfl, hown8, hb8⟩
                  have HO8 := Lib.hid hown8
                  have HB8 := Lib.hid hb8
                  clear hown8 hb8
                  go_wp2
                  go_ret3
                  exact HSP.out _ _ _ HO8.out HB6.out HB8.out
end Go.Proofs.YtokelopllbaikaaGreatDoor
