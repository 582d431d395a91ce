/- Names: folds, Contains, ClashOf of the program. -/
import Derived.Test.YthbdcmaloojngaaDoorW2
import Derived.Test.YthbdcmaloojngaaDoorEq
set_option linter.unusedVariables false
namespace Go.Proofs.YthbdcmaloojngaaDoor
open Go.RowKit
attribute [local go_sem] mk_toList
theorem eq_toList (a b : ByteArray) : (a.toList == b.toList) = (bs a == bs b) := by rw [ByteArray.toList_eq, ByteArray.toList_eq]

/-! ### plain: the first index -/
def idxIn (l : List ByteArray) (x : ByteArray) (r : Int) : Prop := if (l.any fun y => bs x == bs y) then 0 ≤ r else r < 0
def hasS (l : List ByteArray) (x : ByteArray) : Bool := l.any fun y => bs x == bs y
def NotYet (l : List ByteArray) (x : ByteArray) (k : Nat) : Prop := ∀ y ∈ l.take k, (bs x == bs y) = false
theorem NotYet.succ {l : List ByteArray} {x : ByteArray} {k : Nat} (h : NotYet l x k) (hk : k < l.length) (hx : (bs x == bs l[k]) = false) : NotYet l x (k + 1) := by
  intro y hy
  rw [List.take_succ_eq_append_getElem hk, List.mem_append, List.mem_singleton] at hy
  rcases hy with hy | rfl
  · exact h y hy
  · exact hx
theorem NotYet.none {l : List ByteArray} {x : ByteArray} {k : Nat} (h : NotYet l x k) (hk : ¬ k < l.length) : hasS l x = false := by
  unfold hasS; rw [List.any_eq_false]; intro y hy
  rw [h y (by rw [List.take_of_length_le (by omega)]; exact hy)]; simp
theorem hasS_at {l : List ByteArray} {x : ByteArray} {k : Nat} (hk : k < l.length) (hx : (bs x == bs l[k]) = true) : hasS l x = true := by
  unfold hasS; rw [List.any_eq_true]; exact ⟨l[k], by simp, hx⟩
def IndexR (l : List ByteArray) (x : ByteArray) (w : World) (e : Ending) (w' : World) : Prop := ∃ r : Int, e = .returned (.int .i64 r) ∧ (hasS l x = true → 0 ≤ r) ∧ (hasS l x = false → r = -1) ∧ w = w'

set_option maxHeartbeats 2000000 in
set_option maxRecDepth 100000 in
theorem IndexS_any (A : Option Addr) (c : Nat) (l : List ByteArray) (x : ByteArray) (w : World) (hs : Sl w encS 1 A l) (hl : l.length ≤ 16777216) :
    Calls Tryd.prog 46 #[.slice A l.length c, .string x] w (IndexR l x w) := by
  have HS := Lib.hid hs
  clear hs
  go_enter Tryd.func46, Tryd.ntmps46
  go_wp2
  go_loop [8] (fun i => ∃ k : Nat, k ≤ l.length ∧ i = .int .i64 k ∧ NotYet l x k) (fun i => l.length - (intOf i).toNat)
  case atStart => exact ⟨0, Nat.zero_le _, rfl, by intro y hy; simp at hy⟩
  case round =>
    obtain ⟨k, hk, rfl, hn⟩ := hrel
    by_cases hlt : k < l.length
    · obtain ⟨b, o, rfl, hc⟩ := HS.out.getS hlt
      cases hx : (x.toList == l[k].toList)
      · go_wp2
        go_round
        case rel => exact ⟨k + 1, by omega, by go_num, hn.succ hlt (by rw [← eq_toList]; exact hx)⟩
        case measure => simp [intOf]; omega
      · have H := Lib.hid (hasS_at hlt (by rw [← eq_toList]; exact hx))
        go_wp2
        go_ret
        exact ⟨_, rfl, (fun _ => by omega), (fun h => by rw [H.out] at h; cases h), rfl⟩
    · have H := Lib.hid (hn.none hlt)
      go_wp2
      go_ret
      exact ⟨_, rfl, (fun h => by rw [H.out] at h; cases h), (fun _ => rfl), rfl⟩
set_option maxHeartbeats 2000000 in
set_option maxRecDepth 100000 in
theorem ContainsS_any (A : Option Addr) (c : Nat) (l : List ByteArray) (x : ByteArray) (w : World) (hs : Sl w encS 1 A l) (hl : l.length ≤ 16777216) :
    Calls Tryd.prog 32 #[.slice A l.length c, .string x] w fun e w' => e = .returned (.bool (hasS l x)) ∧ w = w' := by
  have HS := Lib.hid hs
  clear hs
  go_enter Tryd.func32, Tryd.ntmps32
  go_wp2_with fail
  refine (IndexS_any _ _ _ _ _ HS.out hl).mono ?_
  rintro e w' ⟨r, rfl, h1, h2, rfl⟩
  have H1 := Lib.hid h1
  have H2 := Lib.hid h2
  clear h1 h2
  go_wp2
  go_ret
  refine ⟨ret_bool ?_, rfl⟩
  cases hh : hasS l x with
  | true => have := H1.out hh; simp; omega
  | false => have := H2.out hh; simp; omega

/-! ### folds -/
def folds (ss : List ByteArray) : List ByteArray := ss.map fun s => mk (foldName (bs s))
def allFold (ss : List ByteArray) : Bool := ss.all fun s => !(foldName (bs s)).isEmpty
theorem folds_take {ss : List ByteArray} {k : Nat} (h : k < ss.length) : folds (ss.take (k + 1)) = folds (ss.take k) ++ [mk (foldName (bs ss[k]))] := by
  unfold folds; rw [List.take_succ_eq_append_getElem h, List.map_append]; rfl
theorem folds_len (ss : List ByteArray) : (folds ss).length = ss.length := by simp [folds]
def FoldsR (ss : List ByteArray) (w : World) (e : Ending) (w' : World) : Prop :=
  ∃ v, e = .returned (.tuple #[v, .bool (allFold ss)]) ∧ Own w' w.heap.size 9 1 encS v (if allFold ss then folds ss else []) ∧ Below w.heap.size w w'
set_option maxHeartbeats 2000000 in
set_option maxRecDepth 100000 in
theorem foldsOf_any (A : Option Addr) (c : Nat) (ss : List ByteArray) (w : World) (hs : Sl w encS 1 A ss) (hl : ss.length ≤ 16777216) (hf : ∀ s ∈ ss, s.size ≤ 16777216) :
    Calls Tryd.prog 36 #[.slice A ss.length c] w (FoldsR ss w) := by
  have HS := Lib.hid hs
  have HF := Lib.hid hf
  clear hs hf
  go_enter Tryd.func36, Tryd.ntmps36
  go_wp2
  go_loopw [4, 10] (fun v i wr => ∃ (k : Nat) (acc : List ByteArray), k ≤ ss.length ∧ i = .int .i64 k ∧ acc.length ≤ k ∧ Hid (acc = folds (ss.take k)) ∧ Hid ((ss.take k).all (fun s => !(foldName (bs s)).isEmpty) = true) ∧ Own wr w.heap.size 9 1 encS v acc ∧ Below w.heap.size w wr) (fun _ i _ => ss.length - (intOf i).toNat)
  case atStart => exact ⟨0, [], Nat.zero_le _, rfl, Nat.le_refl _, rfl, rfl, Own.nil, Below.refl _ _⟩
  case round =>
    obtain ⟨k, acc, hk, rfl, hak, hh, hall, hown, hb⟩ := hrel
    by_cases hlt : k < ss.length
    · obtain ⟨b, o, rfl, hc⟩ := (HS.out.below hb).getS hlt
      have hfk := HF.out ss[k] (by simp)
      have hI := iFoldName_any ss[k]
      generalize hq : foldName (bs ss[k]) = q at *
      have HI := Lib.hid hI
      have HQ := Lib.hid hq
      clear hI hq
      cases he : q.isEmpty
      · go_wp2_with (first
          | (go_at_call 26; refine (HI.out _ hfk).mono ?_; rintro e w' ⟨rfl, rfl⟩)
          | (at_builtin; refine app_str rfl rfl rfl rfl hown hb (by omega) ?_; intro v1 w2 hown2 hb2))
        go_roundw
        case rel => exact ⟨k + 1, _, by omega, by go_num, by simp; omega, by show _ = _; rw [folds_take hlt, ← hh.out, HQ.out], by show _ = _; rw [List.take_succ_eq_append_getElem hlt, List.all_append, hall.out]; simp [HQ.out, he], hown2, hb2⟩
        case measure => simp [intOf]; omega
      · go_wp2_with (go_at_call 26; refine (HI.out _ hfk).mono ?_; rintro e w' ⟨rfl, rfl⟩)
        go_ret2
        have h0 : allFold ss = false := by
          unfold allFold; rw [List.all_eq_false]; exact ⟨ss[k], by simp, by rw [HQ.out, he]; simp⟩
        exact ⟨_, by rw [h0]; rfl, by rw [h0]; exact Own.nil, hb⟩
    · go_wp2
      go_ret2
      have h0 : allFold ss = true := by
        have := hall.out; rwa [List.take_of_length_le (by omega)] at this
      refine ⟨_, by rw [h0]; rfl, ?_, hb⟩
      rw [h0, if_pos rfl, ← List.take_of_length_le (l := ss) (i := k) (by omega), ← hh.out]; exact hown

/-! ### clashes -/
/-- The first place before 'k' whose text is one before it; -1 if there is none. -/
def clashTo (fs : List ByteArray) : Nat → Int
  | 0 => -1
  | k + 1 => if 0 ≤ clashTo fs k then clashTo fs k else if hasS (fs.take k) (fs.getD k ⟨#[]⟩) then k else -1
def clashOf (ss : List ByteArray) : Int := if allFold ss then clashTo (folds ss) ss.length else -1
theorem clashTo_lt (fs : List ByteArray) : ∀ k, clashTo fs k < k ∧ -1 ≤ clashTo fs k
  | 0 => by simp [clashTo]
  | k + 1 => by
    have := clashTo_lt fs k
    unfold clashTo; split
    · omega
    · split <;> omega
theorem clashTo_no {fs : List ByteArray} {k : Nat} (h : clashTo fs k = -1) (hn : hasS (fs.take k) (fs.getD k ⟨#[]⟩) = false) : clashTo fs (k + 1) = -1 := by
  unfold clashTo; rw [if_neg (by omega), if_neg (by rw [hn]; simp)]
theorem clashTo_yes {fs : List ByteArray} {k : Nat} (h : clashTo fs k = -1) (hn : hasS (fs.take k) (fs.getD k ⟨#[]⟩) = true) : clashTo fs (k + 1) = k := by
  unfold clashTo; rw [if_neg (by omega), if_pos hn]
theorem clashTo_keep {fs : List ByteArray} {k : Nat} (h : 0 ≤ clashTo fs k) : clashTo fs (k + 1) = clashTo fs k := by
  rw [clashTo, if_pos h]
theorem clashTo_stays {fs : List ByteArray} {k : Nat} (h : 0 ≤ clashTo fs k) : ∀ n, clashTo fs (k + n) = clashTo fs k
  | 0 => rfl
  | n + 1 => by
    have ih := clashTo_stays h n
    rw [← Nat.add_assoc, clashTo_keep (by rw [ih]; exact h), ih]
theorem getD_at {fs : List ByteArray} {k : Nat} (h : k < fs.length) : fs.getD k ⟨#[]⟩ = fs[k] := by
  rw [List.getD_eq_getElem?_getD, List.getElem?_eq_getElem h]; rfl
theorem Sl.take {α : Type} {enc : α → List Value} {w : World} {size : Nat} {A : Option Addr} {l : List α} (h : Sl w enc size A l) (k : Nat) : Sl w enc size A (l.take k) := by
  intro hn
  obtain ⟨b, o, e, hc⟩ := h (by rw [List.length_take] at hn; omega)
  refine ⟨b, o, e, fun j u hu => hc j u ?_⟩
  have hf : flat enc l = flat enc (l.take k) ++ flat enc (l.drop k) := by rw [← flat_append, List.take_append_drop]
  rw [hf, List.getElem?_append_left (List.getElem?_eq_some_iff.1 hu).1]; exact hu
set_option maxHeartbeats 2000000 in
set_option maxRecDepth 100000 in
theorem iClashOf_any (A : Option Addr) (c : Nat) (ss : List ByteArray) (w : World) (hs : Sl w encS 1 A ss) (hl : ss.length ≤ 16777216) (hf : ∀ s ∈ ss, s.size ≤ 16777216) :
    Calls Tryd.prog 27 #[.slice A ss.length c] w fun e w' => e = .returned (.int .i64 (clashOf ss)) ∧ Below w.heap.size w w' := by
  have HS := Lib.hid hs
  have HF := Lib.hid hf
  have hfl := folds_len ss
  clear hs hf
  have hfo := foldsOf_any A c ss
  unfold FoldsR at hfo
  cases ha : allFold ss
  · have E : Hid (clashOf ss = -1) := by unfold clashOf; rw [ha]; rfl
    rw [ha] at hfo
    have HFO := Lib.hid hfo
    clear hfo hfl ha
    go_enter Tryd.func27, Tryd.ntmps27
    go_wp2_with fail
    refine (HFO.out _ HS.out hl HF.out).mono ?_
    rintro e w1 ⟨v, rfl, hown, hb1⟩
    have HB1 := Lib.hid hb1
    clear hown hb1
    go_wp2
    go_ret
    exact ⟨ret_int E.out.symm, HB1.out⟩
  · have E : Hid (clashOf ss = clashTo (folds ss) ss.length) := by unfold clashOf; rw [ha]; rfl
    rw [ha] at hfo
    simp only [if_true] at hfo
    generalize folds ss = fs at *
    have HFO := Lib.hid hfo
    clear hfo ha
    go_enter Tryd.func27, Tryd.ntmps27
    go_wp2_with fail
    refine (HFO.out _ HS.out hl HF.out).mono ?_
    rintro e w1 ⟨v, rfl, hown, hb1⟩
    obtain ⟨A1, c1, rfl, hcap, hs1, _⟩ := hown.sl
    have HB1 := Lib.hid hb1
    have HS1 := Lib.hid hs1
    have HL := Lib.hid hfl
    have hfs : fs.length ≤ 16777216 := by omega
    clear hown hb1 hs1 hfl
    go_wp2
    go_loop [16] (fun i => ∃ k : Nat, k ≤ fs.length ∧ i = .int .i64 k ∧ Hid (clashTo fs k = -1)) (fun i => fs.length - (intOf i).toNat)
    case atStart => exact ⟨0, Nat.zero_le _, rfl, rfl⟩
    case round =>
      obtain ⟨k, hk, rfl, hh⟩ := hrel
      by_cases hlt : k < fs.length
      · obtain ⟨b, o, rfl, hc⟩ := HS1.out.getS hlt
        have htk : (fs.take k).length = k := by rw [List.length_take]; omega
        have hcn := fun W => ContainsS_any (some ⟨b, o, none⟩) c1 (fs.take k) fs[k] W
        rw [htk] at hcn
        have HST := Lib.hid (HS1.out.take k)
        have hg := getD_at hlt
        have HG := Lib.hid hg
        clear hg htk
        cases hh2 : hasS (fs.take k) fs[k]
        · rw [hh2] at hcn
          have HC := Lib.hid hcn
          have HH := Lib.hid hh2
          clear hcn hh2
          go_wp2_with (go_at_call 32; refine (HC.out _ HST.out (by omega)).mono ?_; rintro e w' ⟨rfl, rfl⟩)
          go_round
          case rel => exact ⟨k + 1, by omega, by go_num, clashTo_no hh.out (by rw [HG.out]; exact HH.out)⟩
          case measure => simp [intOf]; omega
        · rw [hh2] at hcn
          have HC := Lib.hid hcn
          have HH := Lib.hid hh2
          clear hcn hh2
          go_wp2_with (go_at_call 32; refine (HC.out _ HST.out (by omega)).mono ?_; rintro e w' ⟨rfl, rfl⟩)
          go_ret
          refine ⟨ret_int ?_, HB1.out⟩
          have h1 := clashTo_yes hh.out (by rw [HG.out]; exact HH.out)
          have h2 := clashTo_stays (fs := fs) (k := k + 1) (by rw [h1]; omega) (fs.length - (k + 1))
          rw [show k + 1 + (fs.length - (k + 1)) = ss.length by have := HL.out; omega] at h2
          rw [E.out, h2, h1]
      · go_wp2
        go_ret
        refine ⟨ret_int ?_, HB1.out⟩
        rw [E.out, ← HL.out, ← hh.out]; congr 1; omega
end Go.Proofs.YthbdcmaloojngaaDoor
