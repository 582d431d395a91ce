/- CutPrefix at a byte; ReadFolder of the program, walked. -/
import Derived.Test.YtedcgbmdfmgcgaaGreatDoorGa1
import Derived.Test.YtedcgbmdfmgcgaaGreatDoorRh
import Derived.Test.YtedcgbmdfmgcgaaGreatDoorFt
set_option linter.unusedVariables false
namespace Go.Proofs.YtedcgbmdfmgcgaaGreatDoor
open Go.RowKit
theorem bs_ne_nil {s : ByteArray} (h : 0 < s.size) : bs s ≠ [] := fun e => by have := size_bs s; rw [e] at this; simp at this; omega
theorem drop1_ext (s : ByteArray) : s.extract 1 s.size = mk ((bs s).tail) := by
  apply ByteArray.ext
  apply Array.ext'
  rw [Lib.extract_data]
  show ((bs s).drop 1).take _ = (bs s).tail
  rw [List.drop_one]
  exact List.take_of_length_le (by rw [List.length_tail]; exact Nat.le_refl _)
theorem take1_ext (s : ByteArray) (h : 0 < s.size) : s.extract 0 1 = mk [s[0]] := by
  apply ByteArray.ext
  apply Array.ext'
  rw [Lib.extract_data]
  show ((bs s).drop 0).take (1 - 0) = [s[0]]
  rw [List.drop_zero, Nat.sub_zero]
  have hp : 0 < (bs s).length := h
  cases hb : bs s with
  | nil => rw [hb] at hp; simp at hp
  | cons x r =>
    have : (bs s)[0] = s[0] := rfl
    simp only [hb, List.getElem_cons_zero] at this
    rw [this]; rfl
def prefV (c : UInt8) (s : ByteArray) : Value := if 0 < s.size ∧ (bs s).headD 0 = c then .tuple #[.string (mk ((bs s).tail)), .bool true] else .tuple #[.string s, .bool false]
theorem head_bs0 {s : ByteArray} (h : 0 < s.size) : (bs s).headD 0 = s[0] := by
  have hp : 0 < (bs s).length := h
  have e : (bs s)[0] = s[0] := rfl
  rw [← e, List.headD_eq_head?_getD, List.head?_eq_getElem?, List.getElem?_eq_getElem hp]; rfl
set_option maxHeartbeats 1000000 in
set_option maxRecDepth 100000 in
theorem hasPre_any (s : ByteArray) (c : UInt8) (w : World) (hs : s.size ≤ 16777216) : Calls Tryz.prog 135 #[.string s, .string ⟨#[c]⟩] w fun e w' => e = .returned (.bool (decide (0 < s.size ∧ (bs s).headD 0 = c))) ∧ w = w' := by
  have h1 : (⟨#[c]⟩ : ByteArray).size = 1 := rfl
  by_cases h0 : 0 < s.size
  · have hz : 1 ≤ s.size := h0
    have hx := take1_ext s h0
    have hb := head_bs0 h0
    by_cases he : s[0] = c
    · have E := Lib.hid (show decide (0 < s.size ∧ (bs s).headD 0 = c) = true from decide_eq_true ⟨h0, hb.trans he⟩)
      have heq : ((s.extract 0 1).toList == [c]) = true := by rw [ByteArray.toList_eq, hx, he]; exact beq_self_eq_true _
      clear hx hb he
      rw [E.out]
      go_enter Tryz.func135, Tryz.ntmps135
      go_wp2
      go_ret
      exact ⟨rfl, rfl⟩
    · have E := Lib.hid (show decide (0 < s.size ∧ (bs s).headD 0 = c) = false from decide_eq_false (fun h => he (hb.symm.trans h.2)))
      have heq : ((s.extract 0 1).toList == [c]) = false := by
        rw [ByteArray.toList_eq, hx, beq_eq_false_iff_ne]; intro e
        have e' : [s[0]] = [c] := e
        injection e' with e' _; exact he e'
      clear hx hb he
      rw [E.out]
      go_enter Tryz.func135, Tryz.ntmps135
      go_wp2
      go_ret
      exact ⟨rfl, rfl⟩
  · have E := Lib.hid (show decide (0 < s.size ∧ (bs s).headD 0 = c) = false from decide_eq_false (fun h => h0 h.1))
    have hz : ¬ 1 ≤ s.size := by omega
    rw [E.out]
    go_enter Tryz.func135, Tryz.ntmps135
    go_wp2
    go_ret
    exact ⟨rfl, rfl⟩
set_option maxHeartbeats 1000000 in
set_option maxRecDepth 100000 in
theorem cutPre_any (s : ByteArray) (c : UInt8) (w : World) (hs : s.size ≤ 16777216) : Calls Tryz.prog 113 #[.string s, .string ⟨#[c]⟩] w fun e w' => e = .returned (prefV c s) ∧ w = w' := by
  have hH := fun w => hasPre_any s c w hs
  have h1 : (⟨#[c]⟩ : ByteArray).size = 1 := rfl
  by_cases h0 : 0 < s.size ∧ (bs s).headD 0 = c
  · have E := Lib.hid (show prefV c s = .tuple #[.string (mk ((bs s).tail)), .bool true] by unfold prefV; rw [if_pos h0])
    rw [decide_eq_true h0] at hH
    have HH := Lib.hid hH
    have hx := drop1_ext s
    have hz : 1 ≤ s.size := h0.1
    clear hH h0
    rw [E.out]
    go_enter Tryz.func113, Tryz.ntmps113
    go_wp2_with (go_at_call 135; refine (HH.out _).mono ?_; rintro e w' ⟨rfl, rfl⟩)
    go_ret2
    exact ⟨rfl, rfl⟩
  · have E := Lib.hid (show prefV c s = .tuple #[.string s, .bool false] by unfold prefV; rw [if_neg h0])
    rw [decide_eq_false h0] at hH
    have HH := Lib.hid hH
    clear hH h0
    rw [E.out]
    go_enter Tryz.func113, Tryz.ntmps113
    go_wp2_with (go_at_call 135; refine (HH.out _).mono ?_; rintro e w' ⟨rfl, rfl⟩)
    go_ret2
    exact ⟨rfl, rfl⟩
set_option maxHeartbeats 1000000 in
set_option maxRecDepth 100000 in
theorem CutPrefix_any (s : ByteArray) (c : UInt8) (w : World) (hs : s.size ≤ 16777216) : Calls Tryz.prog 85 #[.string s, .string ⟨#[c]⟩] w fun e w' => e = .returned (prefV c s) ∧ w = w' := by
  have hH := fun w => cutPre_any s c w hs
  unfold prefV at *
  by_cases h0 : 0 < s.size ∧ (bs s).headD 0 = c
  · simp only [if_pos h0] at hH ⊢
    have HH := Lib.hid hH
    clear hH h0
    go_enter Tryz.func85, Tryz.ntmps85
    go_wp2_with (go_at_call 113; refine (HH.out _).mono ?_; rintro e w' ⟨rfl, rfl⟩)
    go_ret2
    exact ⟨rfl, rfl⟩
  · simp only [if_neg h0] at hH ⊢
    have HH := Lib.hid hH
    clear hH h0
    go_enter Tryz.func85, Tryz.ntmps85
    go_wp2_with (go_at_call 113; refine (HH.out _).mono ?_; rintro e w' ⟨rfl, rfl⟩)
    go_ret2
    exact ⟨rfl, rfl⟩
theorem fitE_nil' : FitE [] := fun p hp => absurd hp List.not_mem_nil
def RfRes (r : Option (List En)) (w : World) (e : Ending) (w' : World) : Prop := ∃ v, e = .returned (.tuple #[v, .bool r.isSome]) ∧ Own w' w.heap.size 100 2 encE v (r.getD []) ∧ Below w.heap.size w w'
theorem RfRes.no {r : Option (List En)} (h : r = none) {w w' : World} (hb : Below w.heap.size w w') : RfRes r w (.returned (.tuple #[.slice none 0 0, .bool false])) w' := by
  subst h; exact ⟨_, rfl, Own.nil, hb⟩
theorem RfRes.yes {r : Option (List En)} {l : List En} (h : r = some l) {w w' : World} {v : Value} (ho : Own w' w.heap.size 100 2 encE v l) (hb : Below w.heap.size w w') : RfRes r w (.returned (.tuple #[v, .bool true])) w' := by
  subst h; exact ⟨_, rfl, ho, hb⟩
theorem readF_head {s : ByteArray} (h : ¬ (0 < s.size ∧ (bs s).headD 0 = 100)) : readF (bs s) = none := readF_none fun l _ e => by
  apply h
  have h2 := size_bs s
  rw [← e] at h2 ⊢
  unfold foldB at h2 ⊢
  rw [List.length_cons] at h2
  exact ⟨by omega, rfl⟩
set_option maxHeartbeats 2000000 in
set_option maxRecDepth 100000 in
theorem iReadFolder_any (s : ByteArray) (w : World) (hs : s.size ≤ 1048576) (ht : TzL w) (hm : MaxL w) :
    Calls Tryz.prog 79 #[.string s] w (RfRes (readF (bs s)) w) := by
  have HT := Lib.hid ht
  have HM := Lib.hid hm
  have hCP := fun w => CutPrefix_any s 100 w (by omega)
  unfold prefV at hCP
  clear ht hm
  by_cases h0 : 0 < s.size ∧ (bs s).headD 0 = 100
  case neg =>
    have E := Lib.hid (readF_head h0)
    simp only [if_neg h0] at hCP
    have HCP := Lib.hid hCP
    clear hCP h0
    go_enter Tryz.func79, Tryz.ntmps79
    go_wp2_with (go_at_call 85; refine (HCP.out _).mono ?_; rintro e w' ⟨rfl, rfl⟩)
    go_ret2
    exact RfRes.no E.out (Below.refl _ _)
  simp only [if_pos h0] at hCP
  have HCP := Lib.hid hCP
  have hne := bs_ne_nil h0.1
  have HC0 := Lib.hid (show FC (bs s) [] (bs s).tail by rw [← List.drop_one]; exact FC.start (bs s))
  have hr0 : ((bs s).tail).length ≤ s.size := by rw [List.length_tail, size_bs]; omega
  have HDN := Lib.hid (fun acc (h : FC (bs s) acc []) => h.done hne)
  clear hCP h0 hne
  generalize hS : bs s = S at *
  generalize S.tail = R0 at *
  have HS := Lib.hid hS
  clear hS
  go_enter Tryz.func79, Tryz.ntmps79
  go_wp2_with (go_at_call 85; refine (HCP.out _).mono ?_; rintro e w' ⟨rfl, rfl⟩)
  go_loopw [4, 6] (fun r v wr => ∃ (rb : ByteArray) (acc : List En), r = .string rb ∧ rb.size ≤ s.size ∧ acc.length ≤ 3 ∧ Hid (FitE acc) ∧ Hid (FC S acc (bs rb)) ∧ Own wr w.heap.size 100 2 encE v acc ∧ Below w.heap.size w wr) (fun r _ _ => match r with | .string x => x.size | _ => 0)
  case atStart => exact ⟨mk R0, [], rfl, by rw [mk_size]; exact hr0, Nat.zero_le _, fitE_nil', HC0.out, Own.nil, Below.refl _ _⟩
  case round =>
    obtain ⟨rb, acc, rfl, hrl, ha3, HF, HC, hown, hb⟩ := hrel
    obtain ⟨X, d, rfl, hle, hsX, _⟩ := hown.sl
    have HW := Lib.hid hown
    have HSX := Lib.hid hsX
    have HB := Lib.hid hb
    clear hown hsX hb
    by_cases hre : rb.size = 0
    · have hnil := nil_tl hre
      have hdn := HDN.out acc (by have := HC.out; rwa [show bs rb = [] from List.eq_nil_of_length_eq_zero hre] at this)
      have HFT := Lib.hid (fun w h h2 => iFolderText_any X d acc w h (by omega) HF.out h2)
      clear hre
      by_cases he : foldT acc = S
      · rw [if_pos he] at hdn
        have HE := Lib.hid hdn
        have heq : ((mk (foldT acc)).toList == s.toList) = true := by rw [eq_tlx, HS.out]; exact beq_iff_eq.2 he
        clear hdn he
        go_wp2_with fail
        refine (HFT.out _ HSX.out (HT.out.below HB.out)).mono ?_
        rintro e w1 ⟨rfl, hb1⟩
        have HW1 := Lib.hid (HW.out.below hb1)
        have HB1 := Lib.hid (Below_then HB.out hb1 (Nat.le_refl _))
        clear hb1
        go_wp2
        go_ret2
        exact RfRes.yes HE.out HW1.out HB1.out
      · rw [if_neg he] at hdn
        have HE := Lib.hid hdn
        have heq : ((mk (foldT acc)).toList == s.toList) = false := by rw [eq_tlx, HS.out]; exact beq_eq_false_iff_ne.2 he
        clear hdn he
        go_wp2_with fail
        refine (HFT.out _ HSX.out (HT.out.below HB.out)).mono ?_
        rintro e w1 ⟨rfl, hb1⟩
        have HB1 := Lib.hid (Below_then HB.out hb1 (Nat.le_refl _))
        clear hb1
        go_wp2
        go_ret2
        exact RfRes.no HE.out HB1.out
    · have hpos : 0 < rb.size := by omega
      obtain ⟨hne, hne2⟩ := ne_tl (s := rb) hpos
      have hnb := bs_ne_nil hpos
      have hct := fun w h => Cut_any rb 59 w (by omega) h
      unfold cutV at hct
      clear hre
      cases hcu : cutC 59 (bs rb) with
      | none =>
        have HE := Lib.hid (HC.out.fail1 hnb hcu)
        simp only [hcu] at hct
        have HCT := Lib.hid hct
        have hc2 := fun w h => Cut_any rb 61 w (by omega) h
        unfold cutV at hc2
        clear hct hcu hnb
        cases hcv : cutC 61 (bs rb) with
        | none =>
          simp only [hcv] at hc2
          have HC2 := Lib.hid hc2
          clear hc2 hcv
          go_wp2_with fail
          refine (HCT.out _ (HM.out.below HB.out)).mono ?_
          rintro e w1 ⟨rfl, hb1⟩
          have HB1 := Lib.hid (Below_then HB.out hb1 (Nat.le_refl _))
          clear hb1
          go_wp2_with fail
          refine (HC2.out _ (HM.out.below HB1.out)).mono ?_
          rintro e w2 ⟨rfl, hb2⟩
          have HB2 := Lib.hid (Below_then HB1.out hb2 (Nat.le_refl _))
          clear hb2
          go_wp2
          go_ret2
          exact RfRes.no HE.out HB2.out
        | some x =>
          simp only [hcv] at hc2
          have HC2 := Lib.hid hc2
          clear hc2 hcv
          go_wp2_with fail
          refine (HCT.out _ (HM.out.below HB.out)).mono ?_
          rintro e w1 ⟨rfl, hb1⟩
          have HB1 := Lib.hid (Below_then HB.out hb1 (Nat.le_refl _))
          clear hb1
          go_wp2_with fail
          refine (HC2.out _ (HM.out.below HB1.out)).mono ?_
          rintro e w2 ⟨rfl, hb2⟩
          have HB2 := Lib.hid (Below_then HB1.out hb2 (Nat.le_refl _))
          clear hb2
          go_wp2
          go_ret2
          exact RfRes.no HE.out HB2.out
      | some x =>
        obtain ⟨pp, aa⟩ := x
        have hlen := cutC_len hcu
        have hpz : (mk pp).size ≤ 16777216 := by rw [mk_size]; omega
        have haz : (mk aa).size < rb.size := by rw [mk_size]; omega
        simp only [hcu] at hct
        have HCT := Lib.hid hct
        have hc2 := fun w h => Cut_any (mk pp) 61 w hpz h
        unfold cutV at hc2
        rw [show bs (mk pp) = pp from rfl] at hc2
        have HF2 := Lib.hid (fun h => HC.out.fail2 hnb hcu h)
        have HF3 := Lib.hid (fun h => HC.out.fail3 hnb h)
        have HST := Lib.hid (fun n dg h => HC.out.step (n := n) (d := dg) hnb hcu h)
        clear hct hcu
        cases hcv : cutC 61 pp with
        | none =>
          have HE := Lib.hid (HF2.out hcv)
          simp only [hcv] at hc2
          have HC2 := Lib.hid hc2
          clear hc2 hcv hnb hlen HF2 HF3 HST
          generalize mk pp = PP at *
          generalize mk aa = AA at *
          go_wp2_with fail
          refine (HCT.out _ (HM.out.below HB.out)).mono ?_
          rintro e w1 ⟨rfl, hb1⟩
          have HB1 := Lib.hid (Below_then HB.out hb1 (Nat.le_refl _))
          clear hb1
          go_wp2_with fail
          refine (HC2.out _ (HM.out.below HB1.out)).mono ?_
          rintro e w2 ⟨rfl, hb2⟩
          have HB2 := Lib.hid (Below_then HB1.out hb2 (Nat.le_refl _))
          clear hb2
          go_wp2
          go_ret2
          exact RfRes.no HE.out HB2.out
        | some y =>
          obtain ⟨nn, dg⟩ := y
          have hlen2 := cutC_len (s := mk pp) hcv
          rw [mk_size] at hlen2
          have hnz : (mk nn).size ≤ 16777216 := by rw [mk_size]; omega
          have hdz : (mk dg).size ≤ 16777216 := by rw [mk_size]; omega
          simp only [hcv] at hc2
          have HC2 := Lib.hid hc2
          have HRH := Lib.hid (fun w h => iReadHex_any (mk dg) w hdz h)
          rw [show bs (mk dg) = dg from rfl] at HRH
          have HN := Lib.hid (show FC S (acc ++ [(mk nn, readH dg)]) (bs (mk aa)) from HST.out nn dg hcv)
          have HFN := Lib.hid (show FitE (acc ++ [(mk nn, readH dg)]) from fun q hq => by
            rcases List.mem_append.1 hq with h | h
            · exact HF.out q h
            · rw [List.mem_singleton.1 h]; exact hnz)
          clear hc2 hcv hnb hlen hlen2 HF2 HST
          generalize readH dg = hx at *
          generalize mk pp = PP at *
          generalize mk aa = AA at *
          generalize mk dg = DG at *
          generalize mk nn = NN at *
          by_cases h3 : acc.length = 3
          · have HE := Lib.hid (HF3.out (by omega))
            have h3' : (acc.length : Int) = 3 := by omega
            clear HN HFN
            go_wp2_with fail
            refine (HCT.out _ (HM.out.below HB.out)).mono ?_
            rintro e w1 ⟨rfl, hb1⟩
            have HB1 := Lib.hid (Below_then HB.out hb1 (Nat.le_refl _))
            clear hb1
            go_wp2_with fail
            refine (HC2.out _ (HM.out.below HB1.out)).mono ?_
            rintro e w2 ⟨rfl, hb2⟩
            have HB2 := Lib.hid (Below_then HB1.out hb2 (Nat.le_refl _))
            clear hb2
            go_wp2
            go_ret2
            exact RfRes.no HE.out HB2.out
          · have h3' : ¬ (acc.length : Int) = 3 := by omega
            go_wp2_with fail
            refine (HCT.out _ (HM.out.below HB.out)).mono ?_
            rintro e w1 ⟨rfl, hb1⟩
            have HW1 := Lib.hid (HW.out.below hb1)
            have HB1 := Lib.hid (Below_then HB.out hb1 (Nat.le_refl _))
            clear hb1
            go_wp2_with fail
            refine (HC2.out _ (HM.out.below HB1.out)).mono ?_
            rintro e w2 ⟨rfl, hb2⟩
            have HW2 := Lib.hid (HW1.out.below hb2)
            have HB2 := Lib.hid (Below_then HB1.out hb2 (Nat.le_refl _))
            clear hb2
            go_wp2_with fail
            refine (HRH.out _ (HT.out.below HB2.out)).mono ?_
            rintro e w3 ⟨rfl, hb3⟩
            have HW3 := Lib.hid (HW2.out.below hb3)
            have HB3 := Lib.hid (Below_then HB2.out hb3 (Nat.le_refl _))
            clear hb3
            go_wp2_with (at_builtin; refine app_en (w0 := w) (y := (NN, hx)) rfl rfl rfl rfl HW3.out HB3.out (Nat.le_refl _) HB3.out.size (by omega) ?_; intro v4 w4 hown4 hb4; have HW4 := Lib.hid hown4; have HB4 := Lib.hid hb4; clear hown4 hb4)
            go_roundw
            case rel => exact ⟨AA, _, rfl, by omega, by simp; omega, HFN.out, HN.out, HW4.out, HB4.out⟩
            case measure => simpa using haz
end Go.Proofs.YtedcgbmdfmgcgaaGreatDoor
