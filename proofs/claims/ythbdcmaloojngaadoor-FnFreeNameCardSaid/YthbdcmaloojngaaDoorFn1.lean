/- Free names: the program's. -/
import Derived.Test.YthbdcmaloojngaaDoorNm
import Derived.Test.YthbdcmaloojngaaDoorNm2
import Derived.Test.YthbdcmaloojngaaDoorNp
import Derived.Test.YthbdcmaloojngaaDoorL1
import Derived.Lib.Strings
set_option linter.unusedVariables false
namespace Go.Proofs.YthbdcmaloojngaaDoor
open Go.RowKit

/-! ### plain -/
def dg (k : Nat) : UInt8 := UInt8.ofNat (50 + k)
theorem dg_at {k : Nat} (h : k < 8) : digits29[k]'(by simp [digits29]; exact h) = dg k := by
  have : ∀ k : Fin 8, digits29[k.1]'(by simp [digits29]) = dg k.1 := by decide
  exact this ⟨k, h⟩
theorem dg_len : digits29.length = 8 := rfl
/-- No digit before the k-th will do. -/
def NoDg (P : UInt8 → Bool) (k : Nat) : Prop := ∀ x ∈ digits29.take k, P x = false
theorem NoDg.succ {P : UInt8 → Bool} {k : Nat} (h : NoDg P k) (hk : k < 8) (hp : P (dg k) = false) : NoDg P (k + 1) := by
  intro x hx
  rw [List.take_succ_eq_append_getElem (by rw [dg_len]; exact hk), List.mem_append, List.mem_singleton] at hx
  rcases hx with hx | rfl
  · exact h x hx
  · rw [dg_at hk]; exact hp
theorem NoDg.hit {P : UInt8 → Bool} {k : Nat} (h : NoDg P k) (hk : k < 8) (hp : P (dg k) = true) : digits29.find? P = some (dg k) := by
  have e : digits29 = digits29.take k ++ dg k :: digits29.drop (k + 1) := by
    have : dg k :: digits29.drop (k + 1) = digits29.drop k := by rw [← dg_at hk]; exact (List.drop_eq_getElem_cons (by rw [dg_len]; exact hk)).symm
    rw [this, List.take_append_drop]
  rw [e, List.find?_append, List.find?_eq_none.2 (fun x hx => by rw [h x hx]; simp), List.find?_cons, hp]; rfl
theorem NoDg.none {P : UInt8 → Bool} {k : Nat} (h : NoDg P k) (hk : ¬ k < 8) : digits29.find? P = none := by
  rw [List.find?_eq_none]; intro x hx
  rw [h x (by rw [List.take_of_length_le (by rw [dg_len]; omega)]; exact hx)]; simp
def dgFree (names : List ByteArray) (s : Bs) (d : UInt8) : Bool := !hasS (folds names) (mk (foldName (cutName s d)))
theorem freeOf_bad {names : List ByteArray} {s : Bs} (h : (allFold names && (decide (clashOf names = -1) && !(foldName s).isEmpty)) = false) : freeOf names s = [] := by
  unfold freeOf; rw [h]; rfl
theorem freeOf_own {names : List ByteArray} {s : Bs} (ha : allFold names = true) (hc : clashOf names = -1) (hs : (foldName s).isEmpty = false) (hh : hasS (folds names) (mk (foldName s)) = false) : freeOf names s = s := by
  unfold freeOf; rw [ha, hs, hh, if_pos (by simp [hc])]; rfl
theorem freeOf_dg {names : List ByteArray} {s : Bs} {d : UInt8} (ha : allFold names = true) (hc : clashOf names = -1) (hs : (foldName s).isEmpty = false) (hh : hasS (folds names) (mk (foldName s)) = true) (hd : digits29.find? (dgFree names s) = some d) : freeOf names s = cutName s d := by
  unfold freeOf; rw [ha, hs, hh, if_pos (by simp [hc]), if_pos rfl]
  show (match digits29.find? (dgFree names s) with | some d => cutName s d | none => []) = _
  rw [hd]
theorem freeOf_no {names : List ByteArray} {s : Bs} (ha : allFold names = true) (hc : clashOf names = -1) (hs : (foldName s).isEmpty = false) (hh : hasS (folds names) (mk (foldName s)) = true) (hd : digits29.find? (dgFree names s) = none) : freeOf names s = [] := by
  unfold freeOf; rw [ha, hs, hh, if_pos (by simp [hc]), if_pos rfl]
  show (match digits29.find? (dgFree names s) with | some d => cutName s d | none => []) = _
  rw [hd]
theorem cut_bs {s cut : ByteArray} {d : UInt8} (h : bs cut = (bs s).take 7) : bs (cut ++ mk [d]) = cutName (bs s) d := by
  have e : bs (cut ++ mk [d]) = bs cut ++ [d] := by
    show (cut ++ mk [d]).data.toList = _
    rw [ByteArray.data_append, Array.toList_append]; rfl
  rw [e, h]; rfl
theorem cut_bs_ext (s : ByteArray) {m : Nat} (h : min s.size 7 = m) : bs (s.extract 0 m) = (bs s).take 7 := by
  show (s.extract 0 m).data.toList = _
  rw [Lib.extract_data]
  have e : s.data.toList = bs s := rfl
  have hsz := size_bs s
  rw [e, List.drop_zero, Nat.sub_zero]
  by_cases h7 : s.size ≤ 7
  · have : m = s.size := by omega
    rw [this, List.take_of_length_le (by omega), List.take_of_length_le (by omega)]
  · have : m = 7 := by omega
    rw [this]
set_option maxHeartbeats 2000000 in
set_option maxRecDepth 100000 in
theorem small_any (k : Nat) (w : World) (hk : k < 8) : Calls Tryd.prog 58 #[.int .i64 ((2 + k : Nat) : Int)] w fun e w' => e = .returned (.string (mk [dg k])) ∧ w = w' := by
  have h8 : k = 0 ∨ k = 1 ∨ k = 2 ∨ k = 3 ∨ k = 4 ∨ k = 5 ∨ k = 6 ∨ k = 7 := by omega
  rcases h8 with rfl | rfl | rfl | rfl | rfl | rfl | rfl | rfl
  all_goals
    go_enter Tryd.func58, Tryd.ntmps58
    go_wp2
    go_ret
    exact ⟨by rfl, rfl⟩
set_option maxHeartbeats 2000000 in
set_option maxRecDepth 100000 in
theorem FormatInt_any (k : Nat) (w : World) (hk : k < 8) : Calls Tryd.prog 53 #[.int .i64 ((2 + k : Nat) : Int), .int .i64 10] w fun e w' => e = .returned (.string (mk [dg k])) ∧ w = w' := by
  have HS := Lib.hid (fun w => small_any k w hk)
  have h0 : (0 : Int) ≤ ((2 + k : Nat) : Int) := by omega
  have h1 : ((2 + k : Nat) : Int) < 100 := by omega
  generalize ((2 + k : Nat) : Int) = m at *
  go_enter Tryd.func53, Tryd.ntmps53
  go_wp2_with (go_at_call 58; refine (HS.out _).mono ?_; rintro e w1 ⟨rfl, rfl⟩)
  go_ret
  exact ⟨rfl, rfl⟩
set_option maxHeartbeats 2000000 in
set_option maxRecDepth 100000 in
theorem ItoaI_any (k : Nat) (w : World) (hk : k < 8) : Calls Tryd.prog 47 #[.int .i64 ((2 + k : Nat) : Int)] w fun e w' => e = .returned (.string (mk [dg k])) ∧ w = w' := by
  have HS := Lib.hid (fun w => FormatInt_any k w hk)
  generalize ((2 + k : Nat) : Int) = m at *
  go_enter Tryd.func47, Tryd.ntmps47
  go_wp2_with (go_at_call 53; refine (HS.out _).mono ?_; rintro e w1 ⟨rfl, rfl⟩)
  go_ret
  exact ⟨rfl, rfl⟩
set_option maxHeartbeats 2000000 in
set_option maxRecDepth 100000 in
theorem Itoa_any (k : Nat) (w : World) (hk : k < 8) : Calls Tryd.prog 37 #[.int .i64 ((2 + k : Nat) : Int)] w fun e w' => e = .returned (.string (mk [dg k])) ∧ w = w' := by
  have HS := Lib.hid (fun w => ItoaI_any k w hk)
  generalize ((2 + k : Nat) : Int) = m at *
  go_enter Tryd.func37, Tryd.ntmps37
  go_wp2_with (go_at_call 47; refine (HS.out _).mono ?_; rintro e w1 ⟨rfl, rfl⟩)
  go_ret
  exact ⟨rfl, rfl⟩
attribute [local go_sem] mk_toList
def StrBelow (s : ByteArray) (w : World) (e : Ending) (w' : World) : Prop := e = .returned (.string s) ∧ Below w.heap.size w w'
set_option maxHeartbeats 4000000 in
set_option maxRecDepth 100000 in
theorem iFreeName_any (A : Option Addr) (c : Nat) (ss : List ByteArray) (s : ByteArray) (w : World) (hs : Sl w encS 1 A ss) (hl : ss.length ≤ 16777216) (hf : ∀ s ∈ ss, s.size ≤ 16777216) (hss : s.size ≤ 16777216) :
    Calls Tryd.prog 17 #[.slice A ss.length c, .string s] w (StrBelow (mk (freeOf ss (bs s))) w) := by
  have HS := Lib.hid hs
  have hfo := fun w h => foldsOf_any A c ss w h hl hf
  have HCL := Lib.hid (fun w h => iClashOf_any A c ss w h hl hf)
  have hFN := fun w => iFoldName_any s w hss
  unfold FoldsR at hfo
  unfold StrBelow
  clear hs hf
  cases ha : allFold ss
  case false =>
    have E := Lib.hid (freeOf_bad (s := bs s) (names := ss) (by rw [ha]; rfl))
    rw [ha] at hfo
    have HFO := Lib.hid hfo
    clear hfo ha hFN HCL
    go_enter Tryd.func17, Tryd.ntmps17
    go_wp2_with fail
    refine (HFO.out _ HS.out).mono ?_
    rintro e w1 ⟨v, rfl, hown, hb⟩
    have HB := Lib.hid hb
    clear hb hown
    go_wp2
    go_ret
    exact ⟨by rw [E.out]; rfl, HB.out⟩
  case true =>
    rw [ha, if_pos rfl] at hfo
    have HFO := Lib.hid hfo
    have HA := Lib.hid ha
    clear hfo ha
    go_enter Tryd.func17, Tryd.ntmps17
    go_wp2_with fail
    refine (HFO.out _ HS.out).mono ?_
    rintro e w1 ⟨v, rfl, hown, hb⟩
    obtain ⟨Y, d, rfl, _, hsY, _⟩ := hown.sl
    have HB1 := Lib.hid hb
    have HS1 := Lib.hid (HS.out.below hb)
    have HY1 := Lib.hid hsY
    clear hb hown hsY
    by_cases hc : clashOf ss = -1
    case neg =>
      have E := Lib.hid (freeOf_bad (s := bs s) (names := ss) (by rw [HA.out]; simp [hc]))
      have hcn : (clashOf ss != -1) = true := by simpa using hc
      clear hc hFN
      generalize clashOf ss = C at *
      go_wp2_with (go_at_call 27; refine (HCL.out _ HS1.out).mono ?_; rintro e w2 ⟨rfl, hb2⟩; have HB2 := Lib.hid (Below_then HB1.out hb2 (Nat.le_refl _)); clear hb2)
      go_ret
      exact ⟨by rw [E.out]; rfl, HB2.out⟩
    case pos =>
      have HC := Lib.hid hc
      rw [hc] at HCL
      clear hc
      cases he : (foldName (bs s)).isEmpty
      case true =>
        have E := Lib.hid (freeOf_bad (s := bs s) (names := ss) (by rw [HA.out, HC.out, he]; rfl))
        generalize foldName (bs s) = q at *
        have HFN := Lib.hid hFN
        clear hFN
        go_wp2_with (first
          | (go_at_call 27; refine (HCL.out _ HS1.out).mono ?_; rintro e w2 ⟨rfl, hb2⟩; have HB2 := Lib.hid (Below_then HB1.out hb2 (Nat.le_refl _)); clear hb2)
          | (go_at_call 26; refine (HFN.out _).mono ?_; rintro e w' ⟨rfl, rfl⟩))
        go_ret
        exact ⟨by rw [E.out]; rfl, HB2.out⟩
      case false =>
        have hcn := fun w h => ContainsS_any Y d (folds ss) (mk (foldName (bs s))) w h (by rw [folds_len]; exact hl)
        have HE := Lib.hid he
        cases hh : hasS (folds ss) (mk (foldName (bs s)))
        case false =>
          have E := Lib.hid (freeOf_own HA.out HC.out he hh)
          rw [hh] at hcn
          have hq : mk (bs s) = s := mk_bs s
          have HQ := Lib.hid hq
          clear hh HE hq
          generalize foldName (bs s) = q at *
          have HFN := Lib.hid hFN
          have HCN := Lib.hid hcn
          clear hFN hcn
          go_wp2_with (first
            | (go_at_call 27; refine (HCL.out _ HS1.out).mono ?_; rintro e w2 ⟨rfl, hb2⟩; have HB2 := Lib.hid (Below_then HB1.out hb2 (Nat.le_refl _)); have HY2 := Lib.hid (HY1.out.below hb2); clear hb2)
            | (go_at_call 26; refine (HFN.out _).mono ?_; rintro e w' ⟨rfl, rfl⟩)
            | (go_at_call 32; refine (HCN.out _ HY2.out).mono ?_; rintro e w' ⟨rfl, rfl⟩))
          go_ret
          exact ⟨ret_str (by rw [E.out, HQ.out]), HB2.out⟩
        case true =>
          rw [hh] at hcn
          have HN := Lib.hid (fun k (h : NoDg (dgFree ss (bs s)) k) hk => freeOf_no (s := bs s) HA.out HC.out HE.out hh (h.none hk))
          have HG := Lib.hid (fun k (h : NoDg (dgFree ss (bs s)) k) hk hp => freeOf_dg (s := bs s) HA.out HC.out HE.out hh (h.hit hk hp))
          have HFN := Lib.hid hFN
          have HCN := Lib.hid hcn
          clear hh HE hFN hcn
          go_wp2_with (first
            | (go_at_call 27; refine (HCL.out _ HS1.out).mono ?_; rintro e w2 ⟨rfl, hb2⟩; have HB2 := Lib.hid (Below_then HB1.out hb2 (Nat.le_refl _)); have HY2 := Lib.hid (HY1.out.below hb2); clear hb2)
            | (go_at_call 26; refine (HFN.out _).mono ?_; rintro e w' ⟨rfl, rfl⟩)
            | (go_at_call 32; refine (HCN.out _ HY2.out).mono ?_; rintro e w' ⟨rfl, rfl⟩))
          case inl =>
            have HXQ := Lib.hid (show bs (s.extract 0 7) = (bs s).take 7 from cut_bs_ext s (m := 7) (by omega))
            have hz1 : (s.extract 0 7).size ≤ 7 := by simp; omega
            generalize s.extract 0 7 = cut at *
            clear h HFN HCN
            go_loop [8] (fun i => ∃ k : Nat, k ≤ 8 ∧ i = .int .i64 ((2 + k : Nat) : Int) ∧ NoDg (dgFree ss (bs s)) k) (fun i => 10 - (intOf i).toNat)
            case atStart => exact ⟨0, by omega, rfl, by intro x hx; simp at hx⟩
            case round =>
              obtain ⟨k, hk, rfl, hn⟩ := hrel
              have HNN := Lib.hid hn
              clear hn
              by_cases hlt : k < 8
              · have hcb := cut_bs (d := dg k) HXQ.out
                have z2 : (mk [dg k]).size ≤ 1 := by rw [mk_size]; simp
                have hfn := fun w => iFoldName_any (cut ++ mk [dg k]) w (by rw [ByteArray.size_append]; omega)
                rw [hcb] at hfn
                have hme : mk (cutName (bs s) (dg k)) = cut ++ mk [dg k] := by rw [← hcb]; exact mk_bs _
                have hcn := fun w h => ContainsS_any Y d (folds ss) (mk (foldName (cutName (bs s) (dg k)))) w h (by rw [folds_len]; exact hl)
                have HIT := Lib.hid (fun w => Itoa_any k w hlt)
                have HFN2 := Lib.hid hfn
                have HME := Lib.hid hme
                clear hcb hfn hme
                cases hp : dgFree ss (bs s) (dg k)
                · have hh2 : hasS (folds ss) (mk (foldName (cutName (bs s) (dg k)))) = true := by unfold dgFree at hp; simpa using hp
                  rw [hh2] at hcn
                  have HCN2 := Lib.hid hcn
                  have HP := Lib.hid hp
                  clear hh2 hcn hp
                  have hm2 : (2 : Int) ≤ ((2 + k : Nat) : Int) := by omega
                  have hm9 : ((2 + k : Nat) : Int) ≤ 9 := by omega
                  generalize hm : ((2 + k : Nat) : Int) = m at *
                  generalize mk (foldName (cutName (bs s) (dg k))) = q at *
                  generalize mk [dg k] = dd at *
                  go_wp2_with (first
                    | (go_at_call 37; refine (HIT.out _).mono ?_; rintro e w' ⟨rfl, rfl⟩)
                    | (go_at_call 26; refine (HFN2.out _).mono ?_; rintro e w' ⟨rfl, rfl⟩)
                    | (go_at_call 32; refine (HCN2.out _ HY2.out).mono ?_; rintro e w' ⟨rfl, rfl⟩))
                  go_round
                  case rel => exact ⟨k + 1, by omega, by go_num, HNN.out.succ hlt HP.out⟩
                  case measure => simp [intOf]; omega
                · have hh2 : hasS (folds ss) (mk (foldName (cutName (bs s) (dg k)))) = false := by unfold dgFree at hp; simpa using hp
                  rw [hh2] at hcn
                  have HCN2 := Lib.hid hcn
                  have HP := Lib.hid (HG.out k HNN.out hlt hp)
                  clear hh2 hcn hp
                  have hm2 : (2 : Int) ≤ ((2 + k : Nat) : Int) := by omega
                  have hm9 : ((2 + k : Nat) : Int) ≤ 9 := by omega
                  generalize hm : ((2 + k : Nat) : Int) = m at *
                  generalize mk (foldName (cutName (bs s) (dg k))) = q at *
                  generalize mk [dg k] = dd at *
                  go_wp2_with (first
                    | (go_at_call 37; refine (HIT.out _).mono ?_; rintro e w' ⟨rfl, rfl⟩)
                    | (go_at_call 26; refine (HFN2.out _).mono ?_; rintro e w' ⟨rfl, rfl⟩)
                    | (go_at_call 32; refine (HCN2.out _ HY2.out).mono ?_; rintro e w' ⟨rfl, rfl⟩))
                  go_ret
                  exact ⟨ret_str (by rw [HP.out, HME.out]), HB2.out⟩
              · have hm9 : (9 : Int) < ((2 + k : Nat) : Int) := by omega
                generalize hm : ((2 + k : Nat) : Int) = m at *
                go_wp2
                go_ret
                exact ⟨by rw [HN.out k HNN.out hlt]; rfl, HB2.out⟩
          case inr =>
            have HXQ := Lib.hid (show bs s = (bs s).take 7 from (List.take_of_length_le (by have := size_bs s; omega)).symm)
            have hz1 : s.size ≤ 7 := by omega
            clear h HFN HCN
            go_loop [8] (fun i => ∃ k : Nat, k ≤ 8 ∧ i = .int .i64 ((2 + k : Nat) : Int) ∧ NoDg (dgFree ss (bs s)) k) (fun i => 10 - (intOf i).toNat)
            case atStart => exact ⟨0, by omega, rfl, by intro x hx; simp at hx⟩
            case round =>
              obtain ⟨k, hk, rfl, hn⟩ := hrel
              have HNN := Lib.hid hn
              clear hn
              by_cases hlt : k < 8
              · have hcb := cut_bs (d := dg k) HXQ.out
                have z2 : (mk [dg k]).size ≤ 1 := by rw [mk_size]; simp
                have hfn := fun w => iFoldName_any (s ++ mk [dg k]) w (by rw [ByteArray.size_append]; omega)
                rw [hcb] at hfn
                have hme : mk (cutName (bs s) (dg k)) = s ++ mk [dg k] := by rw [← hcb]; exact mk_bs _
                have hcn := fun w h => ContainsS_any Y d (folds ss) (mk (foldName (cutName (bs s) (dg k)))) w h (by rw [folds_len]; exact hl)
                have HIT := Lib.hid (fun w => Itoa_any k w hlt)
                have HFN2 := Lib.hid hfn
                have HME := Lib.hid hme
                clear hcb hfn hme
                cases hp : dgFree ss (bs s) (dg k)
                · have hh2 : hasS (folds ss) (mk (foldName (cutName (bs s) (dg k)))) = true := by unfold dgFree at hp; simpa using hp
                  rw [hh2] at hcn
                  have HCN2 := Lib.hid hcn
                  have HP := Lib.hid hp
                  clear hh2 hcn hp
                  have hm2 : (2 : Int) ≤ ((2 + k : Nat) : Int) := by omega
                  have hm9 : ((2 + k : Nat) : Int) ≤ 9 := by omega
                  generalize hm : ((2 + k : Nat) : Int) = m at *
                  generalize mk (foldName (cutName (bs s) (dg k))) = q at *
                  generalize mk [dg k] = dd at *
                  go_wp2_with (first
                    | (go_at_call 37; refine (HIT.out _).mono ?_; rintro e w' ⟨rfl, rfl⟩)
                    | (go_at_call 26; refine (HFN2.out _).mono ?_; rintro e w' ⟨rfl, rfl⟩)
                    | (go_at_call 32; refine (HCN2.out _ HY2.out).mono ?_; rintro e w' ⟨rfl, rfl⟩))
                  go_round
                  case rel => exact ⟨k + 1, by omega, by go_num, HNN.out.succ hlt HP.out⟩
                  case measure => simp [intOf]; omega
                · have hh2 : hasS (folds ss) (mk (foldName (cutName (bs s) (dg k)))) = false := by unfold dgFree at hp; simpa using hp
                  rw [hh2] at hcn
                  have HCN2 := Lib.hid hcn
                  have HP := Lib.hid (HG.out k HNN.out hlt hp)
                  clear hh2 hcn hp
                  have hm2 : (2 : Int) ≤ ((2 + k : Nat) : Int) := by omega
                  have hm9 : ((2 + k : Nat) : Int) ≤ 9 := by omega
                  generalize hm : ((2 + k : Nat) : Int) = m at *
                  generalize mk (foldName (cutName (bs s) (dg k))) = q at *
                  generalize mk [dg k] = dd at *
                  go_wp2_with (first
                    | (go_at_call 37; refine (HIT.out _).mono ?_; rintro e w' ⟨rfl, rfl⟩)
                    | (go_at_call 26; refine (HFN2.out _).mono ?_; rintro e w' ⟨rfl, rfl⟩)
                    | (go_at_call 32; refine (HCN2.out _ HY2.out).mono ?_; rintro e w' ⟨rfl, rfl⟩))
                  go_ret
                  exact ⟨ret_str (by rw [HP.out, HME.out]), HB2.out⟩
              · have hm9 : (9 : Int) < ((2 + k : Nat) : Int) := by omega
                generalize hm : ((2 + k : Nat) : Int) = m at *
                go_wp2
                go_ret
                exact ⟨by rw [HN.out k HNN.out hlt]; rfl, HB2.out⟩
end Go.Proofs.YthbdcmaloojngaaDoor
