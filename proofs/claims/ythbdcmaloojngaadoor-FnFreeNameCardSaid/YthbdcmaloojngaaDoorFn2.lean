/- Free names: the reference's. Written by gen_fn2.py. -/
import Derived.Test.YthbdcmaloojngaaDoorFn1
import Derived.Test.YthbdcmaloojngaaDoorInv
import Derived.Test.YthbdcmaloojngaaDoorDr4
import Derived.Test.YthbdcmaloojngaaDoorAp2
import Derived.Test.YthbdcmaloojngaaDoorAp3
set_option linter.unusedVariables false
namespace Go.Proofs.YthbdcmaloojngaaDoor
open Go.RowKit
attribute [local go_sem] mk_toList

theorem dg_digit {k : Nat} (h : k < 8) : digitC (dg k) = true := by
  have : ∀ k : Fin 8, digitC (dg k.1) = true := by decide
  exact this ⟨k, h⟩
theorem conv_at (W : World) (b : Nat) (c : Int) (h0 : 0 ≤ c) (h1 : c < 256) (h : W.cell? ⟨b, 0, none⟩ = some (.int .u8 c)) :
    (convert 30 9 (.slice (some ⟨b, 0, none⟩) 1 1)).run Tryd.prog W = .ok (.string (mk [UInt8.ofNat c.toNat])) W := by
  have h := run_convert_bytes_back (P := Tryd.prog) W 30 9 5 ⟨b, 0, none⟩ 1 [UInt8.ofNat c.toNat] Tryd.underlying30 Tryd.underlying5 Tryd.underlying9 (by
    intro j hj
    have : j = 0 := by simpa using hj
    subst this
    rw [show (⟨b, 0, none⟩ : Addr).add 0 = ⟨b, 0, none⟩ from rfl, h]
    simp; omega)
  exact h
structure FnJ (s cut : ByteArray) (m : Int) (D : UInt8) (w1 : World) (d : Nat → Bool) (u41 u42 u43 u44 u45 u46 u47 u48 u49 u7 : Value) (W : World) : Prop where
  b : Below w1.heap.size w1 W
  ci : cut = s.extract 0 (min s.size 7)
  c0 : d 0 = true → u41 = .string s
  c1 : d 1 = true → u42 = .string s
  c2 : d 2 = true → u43 = .int .i64 (s.size : Int)
  c3 : d 3 = true → u44 = .int .i64 ((min s.size 7 : Nat) : Int)
  c4 : d 4 = true → u45 = .string cut
  c5 : d 5 = true → u46 = .int .u8 m
  c6 : d 6 = true → ∃ b, u47 = .slice (some ⟨b, 0, none⟩) 1 1 ∧ W.cell? ⟨b, 0, none⟩ = some (.int .u8 m)
  c7 : d 7 = true → u48 = .string (mk [D])
  c8 : d 8 = true → u49 = .string (cut ++ mk [D])
  c9 : d 9 = true → u7 = .string (cut ++ mk [D])
set_option maxHeartbeats 8000000 in
set_option maxRecDepth 100000 in
theorem sFreeName_any (A : Option Addr) (c : Nat) (ss : List ByteArray) (s : ByteArray) (w : World) (hs : Sl w encS 1 A ss) (hcz : A = none → c = 0) (hl : ss.length ≤ 16777215) (hf : ∀ s ∈ ss, s.size ≤ 16777216) (hss : s.size ≤ 16777216) :
    Calls Tryd.prog 15 #[.slice A ss.length c, .string s] w (StrBelow (mk (freeOf ss (bs s))) w) := by
  have HS := Lib.hid hs
  have HCZ := Lib.hid hcz
  have HF := Lib.hid hf
  have hl2 : ss.length ≤ 16777216 := by omega
  have HCL := Lib.hid (fun w h => sClashOf_any A c ss w h hl2 hf)
  have HFN := Lib.hid (fun w => sFoldName_any s w hss)
  have hlo := clashOf_lo ss
  unfold StrBelow
  clear hs hf hcz
  cases he : (foldName (bs s)).isEmpty
  case true =>
    have E := Lib.hid (freeOf_bad (s := bs s) (names := ss) (by rw [he]; simp))
    generalize foldName (bs s) = q at *
    go_enter Tryd.func15, Tryd.ntmps15
    go_wp2_with (go_at_call 34; refine (HFN.out _).mono ?_; rintro e w1 ⟨rfl, hb1⟩; have HB1 := Lib.hid hb1; clear hb1)
    go_ret
    exact ⟨by rw [E.out]; rfl, HB1.out⟩
  case false =>
    have HE := Lib.hid he
    by_cases hc : 0 ≤ clashOf ss
    case pos =>
      have E := Lib.hid (freeOf_bad (s := bs s) (names := ss) (by
        have : ¬ clashOf ss = -1 := by omega
        simp [this]))
      generalize clashOf ss = C at *
      generalize foldName (bs s) = q at *
      go_enter Tryd.func15, Tryd.ntmps15
      go_wp2_with (first
        | (go_at_call 34; refine (HFN.out _).mono ?_; rintro e w1 ⟨rfl, hb1⟩; have HB1 := Lib.hid hb1; have HS1 := Lib.hid (HS.out.below hb1); clear hb1)
        | (go_at_call 35; refine (HCL.out _ HS1.out).mono ?_; rintro e w2 ⟨rfl, hb2⟩; have HB2 := Lib.hid (Below_then HB1.out hb2 (Nat.le_refl _)); clear hb2))
      go_ret
      exact ⟨by rw [E.out]; rfl, HB2.out⟩
    case neg =>
      have hcm : clashOf ss = -1 := by omega
      have HC := Lib.hid hcm
      rw [hcm] at HCL
      clear hc hcm hlo
      have hlen : (ss ++ [s]).length = ss.length + 1 := by simp
      generalize hq : foldName (bs s) = q at *
      have HQ := Lib.hid hq
      clear hq
      go_enter Tryd.func15, Tryd.ntmps15
      go_wp2_with (first
        | (go_at_call 34; refine (HFN.out _).mono ?_; rintro e w1 ⟨rfl, hb1⟩; have HB1 := Lib.hid hb1; have HS1 := Lib.hid (HS.out.below hb1); clear hb1)
        | (go_at_call 35; refine (HCL.out _ HS1.out).mono ?_; rintro e w2 ⟨rfl, hb2⟩; have HB2 := Lib.hid (Below_then HB1.out hb2 (Nat.le_refl _)); clear hb2))
      clear HCL HFN he
      go_loopw [5] (fun i wr => ∃ k : Nat, k ≤ ss.length ∧ i = .int .i64 k ∧ Hid ((ss.take k).all (fun s => !(foldName (bs s)).isEmpty) = true) ∧ Hid (Below w.heap.size w wr)) (fun i _ => ss.length - (intOf i).toNat)
      case atStart => exact ⟨0, Nat.zero_le _, rfl, rfl, HB2.out⟩
      case round =>
        obtain ⟨k, hk, rfl, hall, HBW⟩ := hrel
        by_cases hlt : k < ss.length
        · obtain ⟨b, o, rfl, hc⟩ := (HS.out.below HBW.out).getS hlt
          have hfk := HF.out ss[k] (by simp)
          have hfn := fun w => sFoldName_any ss[k] w hfk
          cases he : (foldName (bs ss[k])).isEmpty
          · have HAL := Lib.hid (show (ss.take (k + 1)).all (fun s => !(foldName (bs s)).isEmpty) = true by rw [List.take_succ_eq_append_getElem hlt, List.all_append, hall.out]; simp [he])
            generalize foldName (bs ss[k]) = z at *
            generalize ss[k] = x at *
            have HFX := Lib.hid hfn
            clear hfn hall
            go_wp2_with (go_at_call 34; refine (HFX.out _).mono ?_; rintro e w3 ⟨rfl, hb3⟩; have HB3 := Lib.hid (Below_then HBW.out hb3 (Nat.le_refl _)); clear hb3)
            go_roundw
            case rel => exact ⟨k + 1, by omega, by go_num, HAL.out, HB3.out⟩
            case measure => simp [intOf]; omega
          · have E := Lib.hid (freeOf_bad (s := bs s) (names := ss) (by
              have : allFold ss = false := by
                unfold allFold; rw [List.all_eq_false]; exact ⟨ss[k], by simp, by rw [he]; simp⟩
              rw [this]; rfl))
            generalize foldName (bs ss[k]) = z at *
            generalize ss[k] = x at *
            have HFX := Lib.hid hfn
            clear hfn hall
            go_wp2_with (go_at_call 34; refine (HFX.out _).mono ?_; rintro e w3 ⟨rfl, hb3⟩; have HB3 := Lib.hid (Below_then HBW.out hb3 (Nat.le_refl _)); clear hb3)
            go_ret
            exact ⟨by rw [E.out]; rfl, HB3.out⟩
        · have HA := Lib.hid (show allFold ss = true by
            have := hall.out; rwa [List.take_of_length_le (by omega)] at this)
          have hm := clashOf_more (x := s) HA.out HC.out (by rw [HQ.out]; exact HE.out)
          rw [HQ.out] at hm
          have hcl := fun X d w h => sClashOf_any X d (ss ++ [s]) w h (by simp; omega) (by
            intro t ht
            rw [List.mem_append, List.mem_singleton] at ht
            rcases ht with ht | rfl
            · exact HF.out t ht
            · exact hss)
          have HLEN := Lib.hid hlen
          have HSW := Lib.hid (HS.out.below HBW.out)
          have hln : ss.length ≤ 16777216 := by omega
          rw [hm, hlen] at hcl
          clear hm hlen hall
          cases hh : hasS (folds ss) (mk q)
          · have E := Lib.hid (freeOf_own (s := bs s) HA.out HC.out (by rw [HQ.out]; exact HE.out) (by rw [HQ.out]; exact hh))
            have HME := Lib.hid (show mk (bs s) = s from mk_bs s)
            rw [hh] at hcl
            have HCL2 := Lib.hid hcl
            clear hcl hh
            go_wp2_with (first
              | (at_builtin; refine app_strN (w0 := wr) (l := []) rfl rfl (Own.made (Nat.le_refl _)) ((Below.refl _ _).alloc (Nat.le_refl _) _) (by simp; omega) (HSW.out.alloc _) HCZ.out (by rfl) (by rfl) ?_; intro v5 w5 hown5 hb5 hg5; rw [List.nil_append] at hown5; have HW5 := Lib.hid hown5; have HB5 := Lib.hid hb5; clear hown5 hb5 hg5)
              | (at_builtin; refine app_str (w0 := wr) (y := s) rfl rfl rfl rfl HW5.out HB5.out hln ?_; intro v6 w6 hown6 hb6; obtain ⟨X6, d6, ev6, _, hs6, _⟩ := hown6.sl; rw [HLEN.out] at ev6; subst ev6; have HS6 := Lib.hid hs6; have HB6 := Lib.hid hb6; clear hown6 hb6 hs6)
              | (go_at_call 35; refine (HCL2.out X6 d6 _ HS6.out).mono ?_; rintro e w7 ⟨rfl, hb7⟩; have HB7 := Lib.hid (Below_then HBW.out (Below_then HB6.out hb7 (Nat.le_refl _)) (Nat.le_refl _)); clear hb7))
            go_ret
            exact ⟨ret_str (by rw [E.out, HME.out]), HB7.out⟩
          · have HN := Lib.hid (fun k (h : NoDg (dgFree ss (bs s)) k) hk => freeOf_no (s := bs s) HA.out HC.out (by rw [HQ.out]; exact HE.out) (by rw [HQ.out]; exact hh) (h.none hk))
            have HG := Lib.hid (fun k (h : NoDg (dgFree ss (bs s)) k) hk hp => freeOf_dg (s := bs s) HA.out HC.out (by rw [HQ.out]; exact HE.out) (by rw [HQ.out]; exact hh) (h.hit hk hp))
            rw [hh] at hcl
            have HCL2 := Lib.hid hcl
            have hz0 : ¬ ((ss.length : Int) < 0) := by omega
            clear hcl hh
            go_wp2_with (first
              | (at_builtin; refine app_strN (w0 := wr) (l := []) rfl rfl (Own.made (Nat.le_refl _)) ((Below.refl _ _).alloc (Nat.le_refl _) _) (by simp; omega) (HSW.out.alloc _) HCZ.out (by rfl) (by rfl) ?_; intro v5 w5 hown5 hb5 hg5; rw [List.nil_append] at hown5; have HW5 := Lib.hid hown5; have HB5 := Lib.hid hb5; clear hown5 hb5 hg5)
              | (at_builtin; refine app_str (w0 := wr) (y := s) rfl rfl rfl rfl HW5.out HB5.out hln ?_; intro v6 w6 hown6 hb6; obtain ⟨X6, d6, ev6, _, hs6, _⟩ := hown6.sl; rw [HLEN.out] at ev6; subst ev6; have HS6 := Lib.hid hs6; have HB6 := Lib.hid hb6; clear hown6 hb6 hs6)
              | (go_at_call 35; refine (HCL2.out X6 d6 _ HS6.out).mono ?_; rintro e w7 ⟨rfl, hb7⟩; have HB7 := Lib.hid (Below_then HBW.out (Below_then HB6.out hb7 (Nat.le_refl _)) (Nat.le_refl _)); clear hb7))
            have HBX := HB7
            clear HLEN
            obtain ⟨w4, hw4⟩ : ∃ x, x = wr := ⟨_, rfl⟩
            subst hw4
            clear HB7 HB6 HB5 HW5 HS6
            go_loopw [6] (fun i wr => ∃ k : Nat, k ≤ 8 ∧ i = .int .u8 ((50 + k : Nat) : Int) ∧ NoDg (dgFree ss (bs s)) k ∧ Hid (Below w.heap.size w wr)) (fun i _ => 58 - (intOf i).toNat)
            case atStart => exact ⟨0, by omega, rfl, (by intro x hx; simp at hx), HBX.out⟩
            case round =>
              obtain ⟨j, hj, rfl, hn, HBY⟩ := hrel
              have HNN := Lib.hid hn
              clear hn
              by_cases hjl : j < 8
              · have hcd := cut_bs (s := s) (cut := s.extract 0 (min s.size 7)) (d := dg j) (cut_bs_ext s rfl)
                have hm0 : ((50 + j : Nat) : Int) ≤ 57 := by omega
                have hm1 : (50 : Int) ≤ ((50 + j : Nat) : Int) := by omega
                have hdg : UInt8.ofNat ((50 + j : Nat) : Int).toNat = dg j := by unfold dg; congr 1
                have hz1 : (s.extract 0 (min s.size 7)).size ≤ 7 := by simp; omega
                obtain ⟨cut, hcut⟩ : ∃ x, x = s.extract 0 (min s.size 7) := ⟨_, rfl⟩
                rw [← hcut] at hcd hz1
                have HCUT := Lib.hid hcut
                have HCD := Lib.hid hcd
                generalize hm : ((50 + j : Nat) : Int) = m at *
                have HDG := Lib.hid hdg
                have HMJ := Lib.hid hm
                clear hcut hcd hdg
                go_wp2_with fail
                refine wp_region_inv (by kernel_rfl) (by kernel_rfl) (fun a0 d a W => ∃ u41 u42 u43 u44 u45 u46 u47 u48 u49 u7 : Value, a = ⟨#[.slice A ss.length c, .string s, undef, undef, u4, .int .i64 (k : Int), .int .u8 m, u7, .string s, .string (mk q), .bool false, .bool false, .slice A ss.length c, .int .i64 (-1), .bool false, .bool false, .int .i64 (k : Int), .slice A ss.length c, .int .i64 (ss.length : Int), .bool false, u20, u21, u22, u23, u24, u25, u26, u27, .slice (some ⟨w4.heap.size, 0, none⟩) 0 0, .slice A ss.length c, v5, .string s, .slice (some ⟨w5.heap.size, 0, none⟩) 1 1, .slice X6 (ss.length + 1) d6, .int .i64 (ss.length : Int), .bool (decide ((ss.length : Int) < 0)), undef, .int .u8 m, .bool true, u39, u40, u41, u42, u43, u44, u45, u46, u47, u48, u49, u50, u51, u52, u53, u54, u55, u56, u57, u58], []⟩ ∧ FnJ s cut m (dg j) wr d u41 u42 u43 u44 u45 u46 u47 u48 u49 u7 W) ?_ ?_ ?_
                · exact ⟨_, _, _, _, _, _, _, _, _, _, rfl, Below_drewN (Below.refl _ _) 1, HCUT.out, nofun, nofun, nofun, nofun, nofun, nofun, nofun, nofun, nofun, nofun⟩
                · refine ⟨?_, ?_, ?_, ?_, ?_, ?_, ?_, ?_, ?_, ?_, trivial⟩
                  all_goals
                    intro d a W K hd hdep hJ hK
                    obtain ⟨u41, u42, u43, u44, u45, u46, u47, u48, u49, u7, rfl, hj⟩ := hJ
                    have HJ := Lib.hid hj
                    have HK := Lib.hid hK
                    have HDEP := Lib.hid hdep
                    clear hj hK hd hdep
                  · go_simp
                    exact HK.out _ _ ⟨_, _, _, _, _, _, _, _, _, _, rfl, { HJ.out with c0 := fun _ => rfl }⟩
                  · go_simp
                    exact HK.out _ _ ⟨_, _, _, _, _, _, _, _, _, _, rfl, { HJ.out with c1 := fun _ => rfl }⟩
                  · obtain rfl := HJ.out.c1 (HDEP.out { on := 1, ground := Ground.data } (by simp) rfl)
                    go_simp
                    exact HK.out _ _ ⟨_, _, _, _, _, _, _, _, _, _, rfl, { HJ.out with c2 := fun _ => rfl }⟩
                  · obtain rfl := HJ.out.c2 (HDEP.out { on := 2, ground := Ground.data } (by simp) rfl)
                    by_cases h7 : 7 < s.size
                    · have e7 : min s.size 7 = 7 := by omega
                      have H7 := Lib.hid e7
                      have h7i : (7 : Int) < (s.size : Int) := by omega
                      clear e7 h7
                      go_simp
                      exact HK.out _ _ ⟨_, _, _, _, _, _, _, _, _, _, rfl, { HJ.out with c3 := fun _ => by rw [H7.out]; rfl }⟩
                    · have e7 : min s.size 7 = s.size := by omega
                      have H7 := Lib.hid e7
                      have h7i : ¬ (7 : Int) < (s.size : Int) := by omega
                      clear e7 h7
                      go_simp
                      exact HK.out _ _ ⟨_, _, _, _, _, _, _, _, _, _, rfl, { HJ.out with c3 := fun _ => by rw [H7.out] }⟩
                  · obtain rfl := HJ.out.c0 (HDEP.out { on := 0, ground := Ground.data } (by simp) rfl)
                    obtain rfl := HJ.out.c3 (HDEP.out { on := 3, ground := Ground.data } (by simp) rfl)
                    have hci := HJ.out.ci
                    have hM : min s.size 7 ≤ s.size := by omega
                    generalize min s.size 7 = M at *
                    have HCI := Lib.hid hci
                    clear hci
                    go_simp
                    exact HK.out _ _ ⟨_, _, _, _, _, _, _, _, _, _, rfl, { HJ.out with c4 := fun _ => by rw [HCI.out] }⟩
                  · go_simp
                    exact HK.out _ _ ⟨_, _, _, _, _, _, _, _, _, _, rfl, { HJ.out with c5 := fun _ => rfl }⟩
                  · obtain rfl := HJ.out.c5 (HDEP.out { on := 5, ground := Ground.data } (by simp) rfl)
                    go_simp
                    refine HK.out _ _ ⟨_, _, _, _, _, _, _, _, _, _, rfl, ?_⟩
                    exact { HJ.out with b := HJ.out.b.alloc HJ.out.b.size _, c6 := fun _ => ⟨_, rfl, new_cell rfl⟩ }
                  · obtain ⟨b, rfl, hc⟩ := HJ.out.c6 (HDEP.out { on := 6, ground := Ground.data } (by simp) rfl)
                    have hcv := conv_at W b m (by omega) (by omega) hc
                    rw [HDG.out] at hcv
                    go_simp
                    exact HK.out _ _ ⟨_, _, _, _, _, _, _, _, _, _, rfl, { HJ.out with c7 := fun _ => rfl }⟩
                  · obtain rfl := HJ.out.c4 (HDEP.out { on := 4, ground := Ground.data } (by simp) rfl)
                    obtain rfl := HJ.out.c7 (HDEP.out { on := 7, ground := Ground.data } (by simp) rfl)
                    have z2 : (mk [dg j]).size ≤ 1 := by rw [mk_size]; simp
                    have hz : ¬ 9223372036854775807 < cut.size + (mk [dg j]).size := by omega
                    go_simp
                    exact HK.out _ _ ⟨_, _, _, _, _, _, _, _, _, _, rfl, { HJ.out with c8 := fun _ => rfl }⟩
                  · obtain rfl := HJ.out.c8 (HDEP.out { on := 8, ground := Ground.data } (by simp) rfl)
                    go_simp
                    exact HK.out _ _ ⟨_, _, _, _, _, _, _, _, _, _, rfl, { HJ.out with c9 := fun _ => rfl }⟩
                · intro d a W hd hJ
                  obtain ⟨u41, u42, u43, u44, u45, u46, u47, u48, u49, u7, rfl, hj⟩ := hJ
                  obtain rfl := hj.c9 (hd 9 (by decide))
                  have HBW2 := Lib.hid (Below_then HBY.out hj.b (Nat.le_refl _))
                  clear hj hd
                  have z2 : (mk [dg j]).size ≤ 1 := by rw [mk_size]; simp
                  have hfd := foldName_cut (s := bs s) (d := dg j) (by rw [HQ.out]; exact HE.out) (dg_digit hjl)
                  have hm2 := clashOf_more (x := cut ++ mk [dg j]) HA.out HC.out (by rw [HCD.out]; exact hfd)
                  rw [HCD.out] at hm2
                  have hcl := fun X d w h => sClashOf_any X d (ss ++ [cut ++ mk [dg j]]) w h (by simp; omega) (by
                    intro t ht
                    rw [List.mem_append, List.mem_singleton] at ht
                    rcases ht with ht | rfl
                    · exact HF.out t ht
                    · rw [ByteArray.size_append]; omega)
                  have hlen3 : (ss ++ [cut ++ mk [dg j]]).length = ss.length + 1 := by simp
                  have HLEN := Lib.hid hlen3
                  have HSV := Lib.hid (HS.out.below HBW2.out)
                  have HME2 := Lib.hid (show mk (cutName (bs s) (dg j)) = cut ++ mk [dg j] by rw [← HCD.out]; exact mk_bs _)
                  rw [hm2, hlen3] at hcl
                  clear hm2 hlen3 hfd
                  cases hp : dgFree ss (bs s) (dg j)
                  · have hh2 : hasS (folds ss) (mk (foldName (cutName (bs s) (dg j)))) = true := by unfold dgFree at hp; simpa using hp
                    rw [hh2] at hcl
                    have HCL3 := Lib.hid hcl
                    have HP := Lib.hid hp
                    clear hh2 hcl hp
                    generalize cut ++ mk [dg j] = nm at *
                    go_wp2_with (first
                      | (at_builtin; refine app_strN (w0 := W) (l := []) rfl rfl (Own.made (Nat.le_refl _)) ((Below.refl _ _).alloc (Nat.le_refl _) _) (by simp; omega) (HSV.out.alloc _) HCZ.out (by rfl) (by rfl) ?_; intro v5 w5 hown5 hb5 hg5; rw [List.nil_append] at hown5; have HW5 := Lib.hid hown5; have HB5 := Lib.hid hb5; clear hown5 hb5 hg5)
                      | (at_builtin; refine app_str (w0 := W) (y := nm) rfl rfl rfl rfl HW5.out HB5.out hln ?_; intro v6 w6 hown6 hb6; obtain ⟨X6, d6, ev6, _, hs6, _⟩ := hown6.sl; rw [HLEN.out] at ev6; subst ev6; have HS6 := Lib.hid hs6; have HB6 := Lib.hid hb6; clear hown6 hb6 hs6)
                      | (go_at_call 35; refine (HCL3.out X6 d6 _ HS6.out).mono ?_; rintro e w7 ⟨rfl, hb7⟩; have HB7 := Lib.hid (Below_then HBW2.out (Below_then HB6.out hb7 (Nat.le_refl _)) (Nat.le_refl _)); clear hb7))
                    go_roundw
                    case rel => exact ⟨j + 1, by omega, by rw [← HMJ.out]; go_num, HNN.out.succ hjl HP.out, HB7.out⟩
                    case measure => simp [intOf]; omega
                  · have hh2 : hasS (folds ss) (mk (foldName (cutName (bs s) (dg j)))) = false := by unfold dgFree at hp; simpa using hp
                    rw [hh2] at hcl
                    have HCL3 := Lib.hid hcl
                    have HP := Lib.hid (HG.out j HNN.out hjl hp)
                    clear hh2 hcl hp
                    generalize cut ++ mk [dg j] = nm at *
                    go_wp2_with (first
                      | (at_builtin; refine app_strN (w0 := W) (l := []) rfl rfl (Own.made (Nat.le_refl _)) ((Below.refl _ _).alloc (Nat.le_refl _) _) (by simp; omega) (HSV.out.alloc _) HCZ.out (by rfl) (by rfl) ?_; intro v5 w5 hown5 hb5 hg5; rw [List.nil_append] at hown5; have HW5 := Lib.hid hown5; have HB5 := Lib.hid hb5; clear hown5 hb5 hg5)
                      | (at_builtin; refine app_str (w0 := W) (y := nm) rfl rfl rfl rfl HW5.out HB5.out hln ?_; intro v6 w6 hown6 hb6; obtain ⟨X6, d6, ev6, _, hs6, _⟩ := hown6.sl; rw [HLEN.out] at ev6; subst ev6; have HS6 := Lib.hid hs6; have HB6 := Lib.hid hb6; clear hown6 hb6 hs6)
                      | (go_at_call 35; refine (HCL3.out X6 d6 _ HS6.out).mono ?_; rintro e w7 ⟨rfl, hb7⟩; have HB7 := Lib.hid (Below_then HBW2.out (Below_then HB6.out hb7 (Nat.le_refl _)) (Nat.le_refl _)); clear hb7))
                    go_ret
                    exact ⟨ret_str (by rw [HP.out, HME2.out]), HB7.out⟩
              · have hm9 : (57 : Int) < ((50 + j : Nat) : Int) := by omega
                generalize hm : ((50 + j : Nat) : Int) = m at *
                go_wp2
                go_ret
                exact ⟨by rw [HN.out j HNN.out hjl]; rfl, HBY.out⟩
end Go.Proofs.YthbdcmaloojngaaDoor
