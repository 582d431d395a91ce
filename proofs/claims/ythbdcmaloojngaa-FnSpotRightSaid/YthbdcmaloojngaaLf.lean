/- The laws of spots, walked. -/
import Derived.Test.YthbdcmaloojngaaDs
import Derived.Test.YthbdcmaloojngaaTq
import Derived.Test.YthbdcmaloojngaaL2
import Derived.Test.YthbdcmaloojngaaRw
set_option linter.unusedVariables false
namespace Go.Proofs.Ythbdcmaloojngaa
open Go.RowKit

/-! ### plain -/
theorem spotRoot_bd (ss : List ByteArray) : -1 ≤ spotRoot ss ∧ spotRoot ss ≤ 16777212 := treeRoot_bd _
theorem prints_at {ss : List ByteArray} {k : Nat} (h : k < ss.length) : (prints ss).getD k 0 = prOf (bs ss[k]) := by
  unfold prints
  rw [List.getD_eq_getElem?_getD, List.getElem?_map, List.getElem?_eq_getElem h]; rfl
theorem spot_len {ss : List ByteArray} (h : leavesV (prints ss) = true) : 1 ≤ ss.length ∧ ss.length ≤ 16 := by
  obtain ⟨h1, h2, _⟩ := leavesV_iff.1 h
  rw [prints_len] at h1 h2; exact ⟨h1, h2⟩
theorem spot_text {ss : List ByteArray} (h : leavesV (prints ss) = true) {k : Nat} (hk : k < ss.length) : textV (bs ss[k]) = true := by
  obtain ⟨_, _, h3⟩ := leavesV_iff.1 h
  have h4 := List.all_eq_true.1 h3 (prOf (bs ss[k])) (by unfold prints; exact List.mem_map.2 ⟨ss[k], by simp, rfl⟩)
  cases ht : textV (bs ss[k])
  · rw [prOf_bad ht] at h4; exact absurd h4 (by decide)
  · rfl
theorem spotOf_in {seed many : Int} (h : pv seed = true) (h1 : 1 ≤ many) (h2 : many ≤ 16) : 0 ≤ spotOf seed many ∧ spotOf seed many < many := by
  have hv : (pv seed && inI many 1 16) = true := by rw [h, inI_true ⟨h1, h2⟩]; rfl
  have e : spotOf seed many = prPair seed 17 % many := by unfold spotOf; rw [if_pos hv]
  have := Int.emod_nonneg (prPair seed 17) (show many ≠ 0 by omega)
  have := Int.emod_lt_of_pos (prPair seed 17) (show 0 < many by omega)
  omega
theorem ans_right {ss : List ByteArray} (h : leavesV (prints ss) = true) {k : Nat} (hk : k < ss.length) : ansOk ss k = true ∧ ansT ss k = ss[k] ∧ ansP ss k = treeProof (prints ss) k ∧ proofRoot (prOf (bs ss[k])) k ss.length (treeProof (prints ss) k) = spotRoot ss := by
  have hok : ansOk ss k = true := ansOk_iff.2 ⟨h, by omega, by omega⟩
  refine ⟨hok, ansT_at hok hk, by unfold ansP; rw [if_pos hok], ?_⟩
  have hp := proofRoot_tree h (n := (k : Int)) (by omega) (by rw [prints_len]; omega)
  rw [Int.toNat_natCast, prints_at hk, prints_len] at hp
  exact hp
theorem spot_always {ss : List ByteArray} {seed : Int} (h : leavesV (prints ss) = true) (hs : pv seed = true) :
    ansOk ss (spotOf seed ss.length) = true ∧ spotR (spotRoot ss) ss.length seed (ansT ss (spotOf seed ss.length)) (ansP ss (spotOf seed ss.length)) = true := by
  have hl := spot_len h
  obtain ⟨h0, h1⟩ := spotOf_in hs (many := (ss.length : Int)) (by omega) (by omega)
  have hr := pv_iff.1 (treeRoot_pv h)
  unfold spotR
  rw [decide_eq_true h0]
  generalize spotOf seed ss.length = m at *
  obtain ⟨k, rfl⟩ := Int.eq_ofNat_of_zero_le h0
  have hk : k < ss.length := by omega
  obtain ⟨a1, a2, a3, a4⟩ := ans_right h hk
  refine ⟨a1, ?_⟩
  rw [a2, a3, a4, spot_text h hk, decide_eq_true (show 0 ≤ spotRoot ss from hr.1)]
  simp
theorem spotR_next {root many seed : Int} {t : ByteArray} {l : List Int} (h : spotR root many seed t l = true) : spotR (root + 1) many seed t l = false := by
  unfold spotR at *
  simp only [Bool.and_eq_true, beq_iff_eq] at h
  have e : (proofRoot (prOf (bs t)) (spotOf seed many) many l == root + 1) = false := by rw [beq_eq_false_iff_ne]; omega
  rw [e]; simp
theorem otherT_pv : pv (prOf (bs otherT)) = true := prOf_pv (by decide +kernel)
theorem spotRoot_last {ss : List ByteArray} (h : leavesV (prints ss) = true) (hne : ∀ s ∈ ss, prOf (bs s) ≠ prOf (bs otherT)) : spotRoot (ss.set (ss.length - 1) otherT) ≠ spotRoot ss := by
  have hl := spot_len h
  have hnil : ss ≠ [] := by rintro rfl; simp at hl
  have e := List.dropLast_concat_getLast hnil
  have hx := hne (ss.getLast hnil) (List.getLast_mem hnil)
  generalize ss.dropLast = a at *
  generalize ss.getLast hnil = x at *
  subst e
  have e1 : (a ++ [x]).set ((a ++ [x]).length - 1) otherT = a ++ [otherT] := by
    have : (a ++ [x]).length - 1 = a.length := by simp
    rw [this, List.set_append_right _ _ (Nat.le_refl _), Nat.sub_self]; rfl
  rw [e1]
  have e2 : ∀ y, prints (a ++ [y]) = prints a ++ [prOf (bs y)] := fun y => by unfold prints; rw [List.map_append]; rfl
  unfold spotRoot
  rw [e2 x] at h ⊢
  rw [e2 otherT]
  exact treeRoot_last h otherT_pv hx

/-! ### walks -/
set_option maxHeartbeats 4000000 in
set_option maxRecDepth 100000 in
theorem wFnSpotRoot (A : Option Addr) (n c : Nat) (w : World) (hb : BytesIn w A n c) : Calls Try.prog 5 #[.slice A n c] w (LawOk w) := by
  by_cases h : n ≤ 1048576
  case neg =>
    go_enter Try.func5, Try.ntmps5
    go_wp2
    go_ret
    exact ⟨rfl, Below.refl _ _⟩
  have HBI := Lib.hid hb
  clear hb
  go_enter Try.func5, Try.ntmps5
  go_wp2_with fail
  refine (DrawSpotRoot_any _ _ _ _ HBI.out).mono ?_
  rintro e w1 ⟨v1, ss, rfl, hown1, hf1, hb1⟩
  obtain ⟨A1, c1, rfl, hle1, hs1, _⟩ := hown1.sl
  have HC1 := Lib.hid hown1.cz
  have HS1 := Lib.hid hs1
  have HB1 := Lib.hid hb1
  have hl1 := hf1.1
  have HF1 := Lib.hid (show Fit ss from fun s hs => Nat.le_trans (hf1.2.1 s hs) (by omega))
  have HNE := Lib.hid hf1.2.2
  clear hown1 hs1 hb1 hf1
  have hI := fun w h => iSpotRoot_any A1 c1 ss w h (by omega) HF1.out
  have hS := fun w h => sSpotRoot_any A1 c1 ss w h (by omega) HF1.out
  have hbd := spotRoot_bd ss
  by_cases hneg : spotRoot ss < 0
  · have e1 : spotRoot ss = -1 := by omega
    rw [e1] at hI hS
    have HI := Lib.hid hI
    have HS := Lib.hid hS
    clear hI hS hbd hneg e1
    go_wp2_with fail
    refine (HI.out _ HS1.out).mono ?_
    rintro e w2 ⟨rfl, hb2⟩
    have HB2 := Lib.hid (Below_then HB1.out hb2 (Nat.le_refl _))
    have HS2 := Lib.hid (HS1.out.below hb2)
    clear hb2
    go_wp2_with fail
    refine (HS.out _ HS2.out).mono ?_
    rintro e w3 ⟨rfl, hb3⟩
    have HB3 := Lib.hid (Below_then HB2.out hb3 (Nat.le_refl _))
    clear hb3
    go_wp2_with (go_at_call 12; refine (alive_any _).mono ?_; rintro e w' ⟨rfl, rfl⟩)
    go_ret
    exact ⟨rfl, HB3.out⟩
  · have hleaf : leavesV (prints ss) = true := treeRoot_nonneg hneg
    have hlen := spot_len hleaf
    have hlast := spotRoot_last hleaf (HNE.out hleaf)
    have hml : (ss.set (ss.length - 1) otherT).length = ss.length := List.length_set ..
    have hM := fun A c w h => iSpotRoot_any A c (ss.set (ss.length - 1) otherT) w h (by omega) (fun s hs => by
      rcases List.mem_or_eq_of_mem_set hs with h | rfl
      · exact HF1.out s h
      · decide)
    rw [hml] at hM
    generalize hmm : ss.set (ss.length - 1) otherT = m at *
    have HMM := Lib.hid hmm
    generalize spotRoot ss = r at *
    generalize spotRoot m = r2 at *
    have hr0 : 0 ≤ r := by omega
    have hr1 : r ≤ 16777212 := hbd.2
    have hq : (r2 == r) = false := beq_eq_false_iff_ne.2 hlast
    have hq2 : (r2 != r) = true := by simp [hlast]
    have hp1 : (1 : Int) ≤ (ss.length : Int) := by omega
    have hp2 : 0 < ss.length := by omega
    have HI := Lib.hid hI
    have HS := Lib.hid hS
    have HM := Lib.hid hM
    clear hI hS hM hmm hml hlast hleaf hlen hbd hneg
    go_wp2_with fail
    refine (HI.out _ HS1.out).mono ?_
    rintro e w2 ⟨rfl, hb2⟩
    have HB2 := Lib.hid (Below_then HB1.out hb2 (Nat.le_refl _))
    have HS2 := Lib.hid (HS1.out.below hb2)
    clear hb2
    go_wp2_with fail
    refine (HS.out _ HS2.out).mono ?_
    rintro e w3 ⟨rfl, hb3⟩
    have HB3 := Lib.hid (Below_then HB2.out hb3 (Nat.le_refl _))
    have HS3 := Lib.hid (HS2.out.below hb3)
    clear hb3
    have HZ := Lib.hid (show ss.length ≤ 16777216 by omega)
    go_wp2_with ((at_builtin; refine app_strN (w0 := w3) (l := []) rfl rfl (Own.made (Nat.le_refl _)) ((Below.refl _ _).alloc (Nat.le_refl _) _) (by simp; omega) (HS3.out.alloc _) HC1.out (by rfl) (by rfl) ?_; intro v5 w5 hown5 hb5 hg5; rw [List.nil_append] at hown5; obtain ⟨g, cap, rfl, hg, hcap, hmax, hfill⟩ := hown5.row hp2; obtain ⟨u, hu⟩ := hfill.cell (j := ss.length - 1) (by omega); have hfr := hfill.free (ss.length - 1); have HW5 := Lib.hid hown5; have HB5 := Lib.hid hb5; have HG := Lib.hid hg; have HCAP := Lib.hid hcap; clear hown5 hb5 hg5 hfill hmax))
    have hset := HW5.out.setEl (fun _ => rfl) (by omega) (i := ss.length - 1) (by omega) otherT
    rw [HMM.out] at hset
    have hse : setAll w5 g ((ss.length - 1) * 1) (encS otherT) = w5.setCell ⟨g, ss.length - 1, none⟩ (.string otherT) := by
      rw [Nat.mul_one]; rfl
    rw [hse] at hset
    have HSM := Lib.hid (hset.sl')
    have HBM := Lib.hid ((Below_then HB3.out HB5.out (Nat.le_refl _)).setCell (p := ⟨g, ss.length - 1, none⟩) (Nat.le_trans HB3.out.size HG.out) (.string otherT))
    clear hset hse
    refine (HM.out _ _ _ HSM.out).mono ?_
    rintro e w6 ⟨rfl, hb6⟩
    have HB6 := Lib.hid (Below_then HBM.out hb6 (Nat.le_refl _))
    clear hb6
    go_wp2_with fail
    go_ret
    exact ⟨rfl, HB6.out⟩
set_option maxHeartbeats 4000000 in
set_option maxRecDepth 100000 in
theorem wFnSpotAlways (A : Option Addr) (n c : Nat) (w : World) (hb : BytesIn w A n c) : Calls Try.prog 4 #[.slice A n c] w (LawOk w) := by
  by_cases h : n ≤ 1048576
  case neg =>
    go_enter Try.func4, Try.ntmps4
    go_wp2
    go_ret
    exact ⟨rfl, Below.refl _ _⟩
  have HBI := Lib.hid hb
  clear hb
  go_enter Try.func4, Try.ntmps4
  go_wp2_with fail
  refine (DrawSpotRoot_any _ _ _ _ HBI.out).mono ?_
  rintro e w1 ⟨v1, ss, rfl, hown1, hf1, hb1⟩
  obtain ⟨A1, c1, rfl, hle1, hs1, _⟩ := hown1.sl
  have HS1 := Lib.hid hs1
  have HB1 := Lib.hid hb1
  have hl1 := hf1.1
  have HF1 := Lib.hid (show Fit ss from fun s hs => Nat.le_trans (hf1.2.1 s hs) (by omega))
  have HSZ := Lib.hid hf1.2.1
  clear hown1 hs1 hb1 hf1
  have hI := fun w h => iSpotRoot_any A1 c1 ss w h (by omega) HF1.out
  have hbd := spotRoot_bd ss
  by_cases hneg : spotRoot ss < 0
  · have e1 : spotRoot ss = -1 := by omega
    rw [e1] at hI
    have HI := Lib.hid hI
    clear hI hbd hneg e1
    go_wp2_with fail
    refine (HI.out _ HS1.out).mono ?_
    rintro e w2 ⟨rfl, hb2⟩
    have HB2 := Lib.hid (Below_then HB1.out hb2 (Nat.le_refl _))
    clear hb2
    go_wp2_with fail
    go_loopw [5] (fun i wr => i = .int .i64 0 ∧ w2 = wr) (fun _ _ => 0)
    case atStart => exact ⟨rfl, rfl⟩
    case round =>
      obtain ⟨rfl, rfl⟩ := hrel
      go_wp2_with (go_at_call 12; refine (alive_any _).mono ?_; rintro e w' ⟨rfl, rfl⟩)
      go_ret
      exact ⟨rfl, HB2.out⟩
  · have hleaf : leavesV (prints ss) = true := treeRoot_nonneg hneg
    have hr0 : 0 ≤ spotRoot ss := by omega
    have HALW := Lib.hid (fun seed hs => spot_always (seed := seed) hleaf hs)
    have HANS := Lib.hid (fun m w h => iSpotAnswer_any A1 c1 ss m w h (by omega) HF1.out)
    have HPL := Lib.hid (fun m => ansP_len ss m)
    have HTS := Lib.hid (show ∀ m, (ansT ss m).size ≤ 60 from fun m => by
      unfold ansT; split
      · rename_i hh
        obtain ⟨_, h0, h1⟩ := ansOk_iff.1 hh
        have hk : m.toNat < ss.length := by omega
        rw [List.getD_eq_getElem?_getD, List.getElem?_eq_getElem hk]
        exact HSZ.out _ (by simp)
      · decide)
    generalize spotRoot ss = r at *
    have HI := Lib.hid hI
    clear hI hbd hneg hleaf
    go_wp2_with fail
    refine (HI.out _ HS1.out).mono ?_
    rintro e w2 ⟨rfl, hb2⟩
    have HB2 := Lib.hid (Below_then HB1.out hb2 (Nat.le_refl _))
    have HS2 := Lib.hid (HS1.out.below hb2)
    clear hb2
    go_wp2_with fail
    go_loopw [5] (fun i wr => ∃ k : Nat, k ≤ 20 ∧ i = .int .i64 k ∧ Hid (Below w2.heap.size w2 wr)) (fun i _ => 20 - (intOf i).toNat)
    case atStart => exact ⟨0, by omega, rfl, Below.refl _ _⟩
    case round =>
      obtain ⟨k, hk, rfl, HBW⟩ := hrel
      by_cases hlt : k < 20
      · obtain ⟨hok, hright⟩ := HALW.out (k : Int) (pv_iff.2 (by omega))
        have HSP := Lib.hid (fun w => iSpotOf_any (k : Int) (ss.length : Int) w)
        generalize spotOf (k : Int) (ss.length : Int) = m at *
        have ha := HANS.out m
        unfold AnsR at ha
        rw [hok] at ha
        have hpl := HPL.out m
        have hts := HTS.out m
        generalize ansT ss m = tt at *
        generalize ansP ss m = pp at *
        have HA := Lib.hid ha
        have hR := fun X d w h => iSpotRight_any r (ss.length : Int) (k : Int) tt X d pp w h (by omega) (by omega)
        rw [hright] at hR
        have HR := Lib.hid hR
        clear ha hR hok hright
        go_wp2_with fail
        refine (HSP.out _).mono ?_
        rintro e w' ⟨rfl, rfl⟩
        go_wp2_with fail
        refine (HA.out _ (HS2.out.below HBW.out)).mono ?_
        rintro e w4 ⟨v4, rfl, hown4, hb4⟩
        obtain ⟨X, d, rfl, _, hs4, _⟩ := hown4.sl
        have HS4 := Lib.hid hs4
        have HB4 := Lib.hid (Below_then HBW.out hb4 (Nat.le_refl _))
        clear hown4 hs4 hb4
        go_wp2_with (go_at_call 17; refine (HR.out _ _ _ HS4.out).mono ?_; rintro e w' ⟨rfl, rfl⟩)
        go_roundw
        case rel => exact ⟨k + 1, by omega, by go_num, HB4.out⟩
        case measure => simp [intOf]; omega
      · have HBB := Lib.hid (Below_then HB2.out HBW.out (Nat.le_refl _))
        go_wp2_with (go_at_call 12; refine (alive_any _).mono ?_; rintro e w' ⟨rfl, rfl⟩)
        go_ret
        exact ⟨rfl, HBB.out⟩
set_option maxHeartbeats 8000000 in
set_option maxRecDepth 100000 in
theorem wFnSpotAnswer (A : Option Addr) (n c : Nat) (w : World) (hb : BytesIn w A n c) : Calls Try.prog 7 #[.slice A n c] w (LawOk w) := by
  by_cases h : n ≤ 1048576
  case neg =>
    go_enter Try.func7, Try.ntmps7
    go_wp2
    go_ret
    exact ⟨rfl, Below.refl _ _⟩
  have HBI := Lib.hid hb
  clear hb
  go_enter Try.func7, Try.ntmps7
  go_wp2_with fail
  refine (DrawSpotAnswer_any _ _ _ _ HBI.out).mono ?_
  rintro e w1 ⟨v1, ss, m, rfl, hown1, hf1, hm0, hm1, hb1⟩
  obtain ⟨A1, c1, rfl, hle1, hs1, _⟩ := hown1.sl
  have HS1 := Lib.hid hs1
  have HB1 := Lib.hid hb1
  have hl1 := hf1.1
  have HF1 := Lib.hid (show Fit ss from fun s hs => Nat.le_trans (hf1.2.1 s hs) (by omega))
  have HSZ := Lib.hid hf1.2.1
  clear hown1 hs1 hb1 hf1
  have hI := fun w h => iSpotAnswer_any A1 c1 ss m w h (by omega) HF1.out
  have hS := fun w h => sSpotAnswer_any A1 c1 ss m w h (by omega) HF1.out
  unfold AnsR at hI hS
  cases hok : ansOk ss m
  · have e1 : ansT ss m = ⟨#[]⟩ := by unfold ansT; rw [hok]; rfl
    have e2 : ansP ss m = [] := by unfold ansP; rw [hok]; rfl
    rw [e1, e2, hok] at hI hS
    have HI := Lib.hid hI
    have HS := Lib.hid hS
    clear hI hS hok e1 e2
    go_wp2_with fail
    refine (HI.out _ HS1.out).mono ?_
    rintro e w2 ⟨v2, rfl, hown2, hb2⟩
    obtain ⟨X2, d2, rfl, _, hsx2, _⟩ := hown2.sl
    have HX2 := Lib.hid hsx2
    have HB2 := Lib.hid (Below_then HB1.out hb2 (Nat.le_refl _))
    have HS2 := Lib.hid (HS1.out.below hb2)
    clear hb2 hown2 hsx2
    go_wp2_with fail
    refine (HS.out _ HS2.out).mono ?_
    rintro e w3 ⟨v3, rfl, hown3, hb3⟩
    obtain ⟨X3, d3, rfl, _, hsx3, _⟩ := hown3.sl
    have HX3 := Lib.hid hsx3
    have HX2' := Lib.hid (HX2.out.below hb3)
    have HB3 := Lib.hid (Below_then HB2.out hb3 (Nat.le_refl _))
    clear hb3 hown3 hsx3
    go_wp2_with fail
    refine (l_sameInts_same X2 X3 d2 d3 [] _ HX2'.out HX3.out (by simp)).mono ?_
    rintro e w4 ⟨rfl, hd4⟩
    have HB4 := Lib.hid (Below_then HB3.out hd4.below (Nat.le_refl _))
    clear hd4
    go_wp2_with (go_at_call 12; refine (alive_any _).mono ?_; rintro e w' ⟨rfl, rfl⟩)
    go_ret
    exact ⟨rfl, HB4.out⟩
  · obtain ⟨hleaf, h0, h1⟩ := ansOk_iff.1 hok
    obtain ⟨k, rfl⟩ := Int.eq_ofNat_of_zero_le h0
    have hk : k < ss.length := by omega
    obtain ⟨_, a2, a3, a4⟩ := ans_right hleaf hk
    rw [a2, a3, hok] at hI hS
    have hpl := treeProof_len (prints ss) k
    have hsz := HSZ.out _ (List.getElem_mem hk)
    obtain ⟨b, o, e, hc⟩ := HS1.out.getS hk
    have HG := Lib.hid (fun w (h : Sl w encS 1 A1 ss) => h.getS hk)
    have HPO := Lib.hid (fun w => iPrintOf_any ss[k] w (by omega))
    have hPR := fun X d w h => iProofRoot_any X d (treeProof (prints ss) k) (prOf (bs ss[k])) (k : Int) (ss.length : Int) w h (by omega)
    rw [a4] at hPR
    have HSR := Lib.hid (fun w h => iSpotRoot_any A1 c1 ss w h (by omega) HF1.out)
    have HSAME := Lib.hid (fun X Y d d' w h1 h2 => l_sameInts_same X Y d d' (treeProof (prints ss) k) w h1 h2 (by omega))
    generalize treeProof (prints ss) k = pp at *
    generalize prOf (bs ss[k]) = q at *
    generalize ss[k] = x at *
    generalize spotRoot ss = r at *
    have HI := Lib.hid hI
    have HS := Lib.hid hS
    have HPR := Lib.hid hPR
    subst e
    clear hI hS hPR a2 a3 a4 hleaf hok hc
    go_wp2_with fail
    refine (HI.out _ HS1.out).mono ?_
    rintro e w2 ⟨v2, rfl, hown2, hb2⟩
    obtain ⟨X2, d2, rfl, _, hsx2, _⟩ := hown2.sl
    have HX2 := Lib.hid hsx2
    have HB2 := Lib.hid (Below_then HB1.out hb2 (Nat.le_refl _))
    have HS2 := Lib.hid (HS1.out.below hb2)
    clear hb2 hown2 hsx2
    go_wp2_with fail
    refine (HS.out _ HS2.out).mono ?_
    rintro e w3 ⟨v3, rfl, hown3, hb3⟩
    obtain ⟨X3, d3, rfl, _, hsx3, _⟩ := hown3.sl
    have HX3 := Lib.hid hsx3
    have HX2' := Lib.hid (HX2.out.below hb3)
    have HS3 := Lib.hid (HS2.out.below hb3)
    have HB3 := Lib.hid (Below_then HB2.out hb3 (Nat.le_refl _))
    clear hb3 hown3 hsx3
    go_wp2_with fail
    refine (HSAME.out X2 X3 d2 d3 _ HX2'.out HX3.out).mono ?_
    rintro e w4 ⟨rfl, hd4⟩
    have HB4 := Lib.hid (Below_then HB3.out hd4.below (Nat.le_refl _))
    have HS4 := Lib.hid (HS3.out.below hd4.below)
    have HX4 := Lib.hid (HX2'.out.below hd4.below)
    obtain ⟨b', o', e', hc⟩ := HG.out w4 HS4.out
    injection e' with e'
    injection e' with e1 e2
    subst e1 e2
    clear hd4
    go_wp2_with (first | (go_at_call 25; refine (HPO.out _).mono ?_; rintro e w' ⟨rfl, rfl⟩) | (go_at_call 24; refine (HPR.out _ _ _ HX4.out).mono ?_; rintro e w' ⟨rfl, rfl⟩) | (go_at_call 14; refine (HSR.out _ HS4.out).mono ?_; rintro e w5 ⟨rfl, hb5⟩; have HB5 := Lib.hid (Below_then HB4.out hb5 (Nat.le_refl _)); clear hb5))
    go_ret
    exact ⟨rfl, HB5.out⟩
end Go.Proofs.Ythbdcmaloojngaa
