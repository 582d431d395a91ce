/- All files below a folder, the program's: filesBelow, AllFiles. -/
import Derived.Test.YtedcgbmdfmgcgaaGreatDoorWk1
import Derived.Test.YtedcgbmdfmgcgaaGreatDoorRj
set_option linter.unusedVariables false
namespace Go.Proofs.YtedcgbmdfmgcgaaGreatDoor
open Go.RowKit
set_option maxHeartbeats 2000000 in
set_option maxRecDepth 100000 in
theorem CloneS_any (A : Option Addr) (c : Nat) (l : List ByteArray) (w : World) (hs : Sl w encS 1 A l) (hcz : A = none → c = 0) (hl : l.length ≤ 16777216) :
    Calls Tryz.prog 80 #[.slice A l.length c] w (OwnRes 9 1 encS l w) := by
  have HS := Lib.hid hs
  have HC := Lib.hid hcz
  clear hs hcz
  have hnil := fun (W : World) (A : Option Addr) (n c : Nat) => Lib.run_eql_slice_nil (P := Tryz.prog) W 33 9 A n c 0 0 Tryz.underlying33
  cases A with
  | none =>
    have hm : l = [] := by
      cases l with
      | nil => rfl
      | cons y r => obtain ⟨b, o, e, _⟩ := HS.out (by simp); cases e
    subst hm
    go_enter Tryz.func80, Tryz.ntmps80
    go_wp2
    go_ret
    exact ⟨_, rfl, Own.nil, Below.refl _ _⟩
  | some ad =>
    go_enter Tryz.func80, Tryz.ntmps80
    go_wp2_with (at_builtin; refine app_strN rfl rfl (Own.made (Nat.le_refl _)) ((Below.refl _ _).alloc (Nat.le_refl _) _) (by simp; omega) (HS.out.alloc _) HC.out (by rfl) (by rfl) ?_; intro v1 w2 hown2 hb2 hg2; have HW2 := Lib.hid hown2; have HB2 := Lib.hid hb2; clear hown2 hb2 hg2)
    go_ret
    exact ⟨_, rfl, by have h := HW2.out; rwa [List.nil_append] at h, HB2.out⟩
def RowE (w : World) (g : Nat) (y : En) : Prop := w.cell? ⟨g, 0, none⟩ = some (.string y.1) ∧ w.cell? ⟨g, 1, none⟩ = some (.int .i64 y.2)
theorem RowE.new (w : World) (y : En) : RowE (w.alloc (rowE y)) w.heap.size y := ⟨new_cell rfl, new_cell rfl⟩
theorem RowE.below {w w' : World} {g : Nat} {y : En} (h : RowE w g y) (hb : Below w.heap.size w w') : RowE w' g y := ⟨Below_cells hb _ _ _ h.1, Below_cells hb _ _ _ h.2⟩
theorem StrAt.below {w w' : World} {g : Nat} {y : ByteArray} (h : StrAt w g y) (hb : Below w.heap.size w w') : StrAt w' g y := Below_cells hb _ _ _ h
theorem entOk_size {e : En} (h : entOk e = true) : e.1.size ≤ 8 := by
  have := (entOk_iff.1 h).1
  unfold wordV at this
  rw [Bool.and_eq_true, Bool.and_eq_true, decide_eq_true_eq] at this
  exact this.1.1.2
set_option maxHeartbeats 8000000 in
set_option maxRecDepth 100000 in
theorem ifilesBelow_any (A : Option Addr) (c : Nat) (l : List Pc) (hv : storeV l = true) : ∀ (f : Nat) (p : Int) (PA : Option Addr) (pc : Nat) (pl : List ByteArray) (w : World), Sl w encP 2 A l → Sl w encS 1 PA pl → (PA = none → pc = 0) → pl.length ≤ pc → pl.length + f = 3 → (∀ x ∈ pl, x.size ≤ 8) → TzL w → MaxL w →
    Calls Tryz.prog 41 #[.slice A l.length c, .int .i64 p, .slice PA pl.length pc] w (OwnRes 9 1 encS ((filesP l f p (pl.map tx)).map mk) w) := by
  intro f
  induction f with
  | zero =>
    intro p PA pc pl w _ _ _ _ hf _ _ _
    have h3 : (pl.length : Int) = 3 := by omega
    rw [show (filesP l 0 p (pl.map tx)).map mk = [] from rfl]
    go_enter Tryz.func41, Tryz.ntmps41
    go_wp2
    go_ret
    exact ⟨_, rfl, Own.nil, Below.refl _ _⟩
  | succ f ih =>
    intro p PA pc pl w hs hps hcz hple hf hsz ht hm
    have h3 : ¬ (pl.length : Int) = 3 := by omega
    have HS := Lib.hid hs
    have HPS := Lib.hid hps
    have HCZ := Lib.hid hcz
    have HSZ := Lib.hid hsz
    have HT := Lib.hid ht
    have HM := Lib.hid hm
    have HV := Lib.hid hv
    have HIH := Lib.hid ih
    have HFO := Lib.hid (fun w h h2 h3 => ifolderOf_any A c l p w h hv h2 h3)
    have hen3 : ((folderOf l p).getD []).length ≤ 3 := folder_len
    have HOK := Lib.hid (show ∀ e ∈ (folderOf l p).getD [], entOk e = true by
      cases hfo : folderOf l p with
      | none => intro e he; cases he
      | some en => intro e he; exact entsV_ok (folder_valid hfo) he)
    rw [filesP_succ]
    clear hs hps hcz hsz ht hm hv ih
    unfold RfRes at HFO
    generalize (folderOf l p).getD [] = en at *
    generalize (folderOf l p).isSome = okf at *
    have HFA := Lib.hid (show 3 ^ f * 3 ≤ 27 by
      have : f ≤ 2 := by omega
      have h := Nat.pow_le_pow_right (n := 3) (by omega) this
      omega)
    have HLA := Lib.hid (fun k => accF_len (s := l) (f := f) (ps := pl.map tx) (l := en) (k := k) hen3)
    have HLS := Lib.hid (fun e => stepF_len l f (pl.map tx) e)
    go_enter Tryz.func41, Tryz.ntmps41
    go_wp2_with fail
    refine (HFO.out _ HS.out HT.out HM.out).mono ?_
    rintro e w1 ⟨v1, rfl, hown1, hb1⟩
    obtain ⟨EA, ec, rfl, _, hes, _⟩ := hown1.sl
    have HES := Lib.hid hes
    have HB1 := Lib.hid hb1
    clear hes hown1 hb1
    go_wp2_with fail
    go_loopw [9, 26] (fun v i wr => ∃ (k : Nat), k ≤ en.length ∧ i = .int .i64 k ∧ Own wr w1.heap.size 9 1 encS v (accF l f (pl.map tx) en k) ∧ Hid (Below w1.heap.size w1 wr)) (fun _ i _ => en.length - (intOf i).toNat)
    case atStart => exact ⟨0, Nat.zero_le _, rfl, Own.nil, Below.refl _ _⟩
    case round =>
      obtain ⟨k, hk, rfl, hown, HBW⟩ := hrel
      have HBA := Lib.hid (Below_then HB1.out HBW.out (Nat.le_refl _))
      by_cases hlt : k < en.length
      · obtain ⟨b, o, rfl, hc0, hc1⟩ := (HES.out.below HBW.out).getE hlt
        have hN := accF_next (s := l) (f := f) (ps := pl.map tx) hlt
        have hok := HOK.out _ (List.getElem_mem hlt)
        have hst := HLS.out en[k]
        have hla := HLA.out k
        have hfa := HFA.out
        generalize en[k] = y at *
        have HW0 := Lib.hid hown
        have HBOX := Lib.hid (RowE.new wr y)
        have HW5 := Lib.hid (hown.alloc (rowE y))
        have HB5 := Lib.hid (HBA.out.alloc HBA.out.size (rowE y))
        have hysz := entOk_size hok
        clear hown
        obtain ⟨t, a⟩ := y
        simp only at hc0 hc1 hysz
        have HB15 := Lib.hid (HBW.out.alloc HBW.out.size (rowE (t, a)))
        have HLEN := Lib.hid (show (pl ++ [t]).length = pl.length + 1 by simp)
        have HMAP := Lib.hid (show (pl ++ [t]).map bs = pl.map tx ++ [tx t] by simp)
        have HSZ2 := Lib.hid (show ∀ x ∈ pl ++ [t], x.size ≤ 8 from fun x hx => by
          rw [List.mem_append, List.mem_singleton] at hx
          rcases hx with hx | rfl
          · exact HSZ.out x hx
          · exact hysz)
        have HL := Lib.hid (show pl.length ≤ 16777216 by omega)
        have HCL := Lib.hid (fun w h => CloneS_any PA pc pl w h HCZ.out HL.out)
        have HFI := Lib.hid (fun w h => ifileOf_any A c l a w h HV.out)
        go_wp2_with fail
        revert HBOX HW5 HB5 HB15
        generalize wr.alloc (rowE (t, a)) = w5
        intro HBOX HW5 HB5 HB15
        have HD := Lib.hid (Below.refl w5.heap.size w5).drew
        have HDa := Lib.hid (((Below.refl w5.heap.size w5).alloc (Nat.le_refl _) (rowS t)).drew)
        have HPd := Lib.hid ((HPS.out.below HB5.out).drew)
        have HPa := Lib.hid (((HPS.out.below HB5.out).alloc (rowS t)).drew)
        have HRa := Lib.hid (show StrAt (w5.alloc (rowS t)).drew w5.heap.size t from StrAt.new w5 t)
        go_region_held3 (fun w' => w'.cell? ⟨wr.heap.size, 0, none⟩ = some (.string t) ∧ w'.cell? ⟨wr.heap.size, 1, none⟩ = some (.int .i64 a))
          (first | assumption | exact HBOX.out | exact HBOX.out.below HB3.out | exact HBOX.out.below HBR.out | exact HBOX.out.below HB2.out | exact HBOX.out.below HDa.out | exact HBOX.out.below HD.out)
          ((first
            | (go_at_call 80; refine (HCL.out _ HPd.out).mono ?_; rintro e w2 ⟨v2, rfl, hown2, hb2⟩; have HW2 := Lib.hid ((hown2.mono HD.out.size).alloc (rowS t)); have HB2 := Lib.hid (Below_then HD.out hb2 (Nat.le_refl _)); have HBR := Lib.hid (HB2.out.alloc HB2.out.size (rowS t)); have HRR := Lib.hid (StrAt.new w2 t); clear hown2 hb2)
            | (go_at_call 80; refine (HCL.out _ HPa.out).mono ?_; rintro e w2 ⟨v2, rfl, hown2, hb2⟩; have HB2 := Lib.hid (Below_then HDa.out hb2 (Nat.le_refl _)); have HW2 := Lib.hid (hown2.mono HDa.out.size); have HBR := HB2; have HRR := Lib.hid (HRa.out.below hb2); clear hown2 hb2)
            | (refine step_str_d HW2.out HBR.out HRR.out HL.out (by rfl) rfl (by rfl) (by rfl) ?_; intro v3 w3 hown3 hb3; have HW3 := Lib.hid hown3; have HB3 := Lib.hid hb3; clear hown3 hb3)))
        all_goals
          obtain ⟨X, d, ev, hle3, hs3, _⟩ := HW3.out.sl
          rw [HLEN.out] at ev hle3
          subst ev
          have HX3 := Lib.hid hs3
          have HCW := Lib.hid HW3.out.cz
          have HB03 := Lib.hid (Below_then HB5.out HB3.out (Nat.le_refl _))
          have HB13 := Lib.hid (Below_then HB15.out HB3.out (Nat.le_refl _))
          have HS3 := Lib.hid (HS.out.below HB03.out)
          have HWA := Lib.hid (HW5.out.below HB3.out)
          have hk3 := HBOX.out.below HB3.out
          have hk0 := hk3.1
          have hk1 := hk3.2
          clear hs3 hk3
          have hFI := HFI.out w3 HS3.out
          unfold FoRes at hFI
          cases hfi : (fileOf l a).isSome
          · rw [hfi] at hFI
            have HN := Lib.hid (show accF l f (pl.map tx) en (k + 1) = accF l f (pl.map tx) en k ++ (filesP l f a ((pl ++ [t]).map tx)).map mk by
              rw [hN]; unfold stepF; rw [hfi, if_neg (by simp)]; rw [show (pl ++ [t]).map tx = pl.map tx ++ [tx t] from HMAP.out])
            have hfl : ((filesP l f a ((pl ++ [t]).map tx)).map mk).length ≤ 3 ^ f := by rw [List.length_map]; exact filesP_len l f a ((pl ++ [t]).map tx)
            have HFI3 := Lib.hid hFI
            have hIH := fun w h h2 h3 h4 => HIH.out a X d (pl ++ [t]) w h h2 HCW.out (by rw [HLEN.out]; exact hle3) (by rw [HLEN.out]; omega) HSZ2.out h3 h4
            rw [HLEN.out] at hIH
            generalize (filesP l f a ((pl ++ [t]).map tx)).map mk = FM at *
            have HI3 := Lib.hid hIH
            clear hFI hIH hN hfi
            generalize mk ((fileOf l a).getD []) = CT at *
            go_wp2_with fail
            refine HFI3.out.mono ?_
            rintro e w4 ⟨rfl, hb4⟩
            have HB04 := Lib.hid (Below_then HB03.out hb4 (Nat.le_refl _))
            have HB14 := Lib.hid (Below_then HB13.out hb4 (Nat.le_refl _))
            have HS4 := Lib.hid (HS.out.below HB04.out)
            have HX4 := Lib.hid (HX3.out.below hb4)
            have HWA4 := Lib.hid (HWA.out.below hb4)
            have hm1 := Below_cells hb4 _ _ _ hk1
            clear hb4 hk0 hk1
            go_wp2_with fail
            refine (HI3.out _ HS4.out HX4.out (HT.out.below HB04.out) (HM.out.below HB04.out)).mono ?_
            rintro e w5' ⟨v5, rfl, hown5, hb5⟩
            obtain ⟨X5, d5, rfl, hle5, hs5, _⟩ := hown5.sl
            have HC5 := Lib.hid hown5.cz
            have HX5 := Lib.hid hs5
            have HB05 := Lib.hid (Below_then HB04.out hb5 (Nat.le_refl _))
            have HB15 := Lib.hid (Below_then HB14.out hb5 (Nat.le_refl _))
            have HWA5 := Lib.hid (HWA4.out.below hb5)
            have hbound : (accF l f (pl.map tx) en k).length + FM.length ≤ 33554432 := by
              have : 3 ^ f ≤ 27 := by omega
              omega
            have HBD := Lib.hid hbound
            clear hown5 hs5 hb5 hm1
            go_wp2_with (at_builtin; refine app_strN (w0 := w1) rfl rfl HWA5.out HB15.out HBD.out HX5.out HC5.out (by rfl) (by rfl) ?_; intro v6 w6 hown6 hb6 hg6; have HW6 := Lib.hid hown6; have HB6 := Lib.hid hb6; clear hown6 hb6 hg6)
            go_roundw
            case rel => exact ⟨k + 1, by omega, by go_num, by rw [HN.out]; exact HW6.out, HB6.out⟩
            case measure => simp [intOf]; omega
          · rw [hfi] at hFI
            have HN := Lib.hid (show accF l f (pl.map tx) en (k + 1) = accF l f (pl.map tx) en k ++ [mk (joinP ((pl ++ [t]).map bs))] by
              rw [hN]; unfold stepF; rw [hfi, if_pos rfl, HMAP.out]; rfl)
            have HFI3 := Lib.hid hFI
            have hJ := fun w h => iJoinPath_any X d (pl ++ [t]) w h (by rw [HLEN.out]; exact hle3) (by rw [HLEN.out]; omega) (fun x hx => Nat.le_trans (HSZ2.out x hx) (by omega))
            rw [HLEN.out] at hJ
            generalize mk (joinP ((pl ++ [t]).map bs)) = JP at *
            have HJ := Lib.hid hJ
            have HBD := Lib.hid (show (accF l f (pl.map tx) en k).length ≤ 16777216 by omega)
            clear hFI hJ hN hfi
            generalize mk ((fileOf l a).getD []) = CT at *
            go_wp2_with fail
            refine HFI3.out.mono ?_
            rintro e w4 ⟨rfl, hb4⟩
            have HB04 := Lib.hid (Below_then HB03.out hb4 (Nat.le_refl _))
            have HB14 := Lib.hid (Below_then HB13.out hb4 (Nat.le_refl _))
            have HX4 := Lib.hid (HX3.out.below hb4)
            have HWA4 := Lib.hid (HWA.out.below hb4)
            clear hb4 hk0 hk1
            go_wp2_with fail
            refine (HJ.out _ HX4.out).mono ?_
            rintro e w5' ⟨rfl, hb5⟩
            have HB05 := Lib.hid (Below_then HB04.out hb5 (Nat.le_refl _))
            have HB15 := Lib.hid (Below_then HB14.out hb5 (Nat.le_refl _))
            have HWA5 := Lib.hid (HWA4.out.below hb5)
            clear hb5
            go_wp2_with (at_builtin; refine app_str (w0 := w1) rfl rfl rfl rfl HWA5.out HB15.out HBD.out ?_; intro v6 w6 hown6 hb6; have HW6 := Lib.hid hown6; have HB6 := Lib.hid hb6; clear hown6 hb6)
            go_roundw
            case rel => exact ⟨k + 1, by omega, by go_num, by rw [HN.out]; exact HW6.out, HB6.out⟩
            case measure => simp [intOf]; omega
      · have HE := Lib.hid (accF_all (s := l) (f := f) (ps := pl.map tx) (l := en) (k := k) (by omega))
        go_wp2
        go_ret
        exact ⟨_, rfl, HE.out ▸ hown.mono HB1.out.size, HBA.out⟩
set_option maxHeartbeats 2000000 in
set_option maxRecDepth 100000 in
theorem iAllFiles_any (A : Option Addr) (c : Nat) (l : List Pc) (root : Int) (w : World) (hs : Sl w encP 2 A l) (hl : l.length ≤ 16777216) (hf : FitP l) (ht : TzL w) (hm : MaxL w) :
    Calls Tryz.prog 14 #[.slice A l.length c, .int .i64 root] w (OwnRes 9 1 encS ((allF l root).map mk) w) := by
  have HS := Lib.hid hs
  have HT := Lib.hid ht
  have HM := Lib.hid hm
  have hSV := fun w h => iStoreValid_any A c l w h hl hf
  clear hs ht hm
  unfold allF
  cases hv : storeV l
  · rw [hv] at hSV
    rw [if_neg (by simp)]
    have HSV := Lib.hid hSV
    clear hSV hv
    go_enter Tryz.func14, Tryz.ntmps14
    go_wp2_with fail
    refine (HSV.out _ HS.out).mono ?_
    rintro e w1 ⟨rfl, hb⟩
    have HB := Lib.hid hb
    clear hb
    go_wp2
    go_ret
    exact ⟨_, rfl, Own.nil, HB.out⟩
  · have hFB := fun w h h2 h3 => ifilesBelow_any A c l hv 3 root none 0 [] w h Sl.none_ (fun _ => rfl) (Nat.le_refl _) rfl (by intro x hx; cases hx) h2 h3
    rw [if_pos rfl]
    rw [hv] at hSV
    rw [show ([] : List ByteArray).map tx = [] from rfl] at hFB
    generalize (filesP l 3 root []).map mk = FM at *
    have HSV := Lib.hid hSV
    have HFB := Lib.hid hFB
    clear hSV hv hFB
    go_enter Tryz.func14, Tryz.ntmps14
    go_wp2_with fail
    refine (HSV.out _ HS.out).mono ?_
    rintro e w1 ⟨rfl, hb⟩
    have HB := Lib.hid hb
    have HS1 := Lib.hid (HS.out.below hb)
    have HT1 := Lib.hid (HT.out.below hb)
    have HM1 := Lib.hid (HM.out.below hb)
    clear hb
    go_wp2_with fail
    refine (HFB.out _ HS1.out HT1.out HM1.out).mono ?_
    rintro e w2 ⟨v2, rfl, hown2, hb2⟩
    have HW2 := Lib.hid (hown2.mono HB.out.size)
    have HB2 := Lib.hid (Below_then HB.out hb2 (Nat.le_refl _))
    clear hown2 hb2
    go_wp2
    go_ret
    exact ⟨_, rfl, HW2.out, HB2.out⟩
end Go.Proofs.YtedcgbmdfmgcgaaGreatDoor
