/- FolderText, EmptyRoot, walked. -/
import Derived.Test.YtedcgbmdfmgcgaaGreatDoorEv
import Derived.Test.YtedcgbmdfmgcgaaGreatDoorPt
import Derived.Test.YtedcgbmdfmgcgaaGreatDoorPs
set_option linter.unusedVariables false
namespace Go.Proofs.YtedcgbmdfmgcgaaGreatDoor
open Go.RowKit
def entM (e : En) : ByteArray := e.1 ++ ⟨#[61]⟩ ++ mk (hexT e.2) ++ ⟨#[59]⟩
theorem entM_tx (e : En) : entM e = mk (entT e) := by
  unfold entM entT
  rw [show e.1 = mk (tx e.1) from (mk_tx _).symm, show (⟨#[61]⟩ : ByteArray) = mk [61] from rfl, show (⟨#[59]⟩ : ByteArray) = mk [59] from rfl, mk_append, mk_append, mk_append]
  simp [tx_mk]
def foldM (l : List En) : ByteArray := mk (100 :: l.flatMap entT)
theorem foldM_take {l : List En} {k : Nat} (h : k < l.length) : foldM (l.take (k + 1)) = foldM (l.take k) ++ entM l[k] := by
  unfold foldM
  rw [List.take_succ_eq_append_getElem h, entM_tx, mk_append, List.flatMap_append]
  simp only [List.flatMap_cons, List.flatMap_nil, List.append_nil, List.cons_append]
theorem foldM_size {l : List En} (h : entsV l = true) (k : Nat) : (foldM (l.take k)).size ≤ 49 := by
  have h2 := foldB_len (entsV_sub h (List.take_sublist k l))
  unfold foldB at h2
  unfold foldM; rw [mk_size]; exact h2
theorem cat4 (x a b c d : ByteArray) : x ++ (a ++ b ++ c ++ d) = x ++ a ++ b ++ c ++ d := by simp [ByteArray.append_assoc]
set_option maxHeartbeats 4000000 in
set_option maxRecDepth 100000 in
theorem iFolderText_any (A : Option Addr) (c : Nat) (l : List En) (w : World) (hs : Sl w encE 2 A l) (hl : l.length ≤ 16777216) (hf : FitE l) (ht : TzL w) :
    Calls Tryz.prog 73 #[.slice A l.length c] w fun e w' => e = .returned (.string (mk (foldT l))) ∧ Below w.heap.size w w' := by
  have HS := Lib.hid hs
  have HF := Lib.hid hf
  have HT := Lib.hid ht
  have hsv := fun w h => iEntriesValid_any A c l w h hl hf
  clear hs hf ht
  cases hv : entsV l
  · have E := Lib.hid (show mk (foldT l) = ⟨#[]⟩ by unfold foldT; rw [hv]; rfl)
    rw [hv] at hsv
    have HSV := Lib.hid hsv
    clear hsv hv
    rw [E.out]
    go_enter Tryz.func73, Tryz.ntmps73
    go_wp2_with fail
    refine (HSV.out _ HS.out).mono ?_
    rintro e w1 ⟨rfl, hb⟩
    have HB := Lib.hid hb
    clear hb
    go_wp2
    go_ret
    exact ⟨rfl, HB.out⟩
  · have E := Lib.hid (show mk (foldT l) = foldM l by unfold foldT; rw [hv]; rfl)
    rw [hv] at hsv
    have HSV := Lib.hid hsv
    have HSZ := Lib.hid (foldM_size hv)
    have HOK := Lib.hid (fun k (h : k < l.length) => entT_len l[k] (entsV_ok hv (by simp)))
    have hl3 := entsV_len hv
    clear hsv hv
    rw [E.out]
    go_enter Tryz.func73, Tryz.ntmps73
    go_wp2_with fail
    refine (HSV.out _ HS.out).mono ?_
    rintro e w1 ⟨rfl, hb⟩
    have HB := Lib.hid hb
    have HS1 := Lib.hid (HS.out.below hb)
    have HT1 := Lib.hid (HT.out.below hb)
    clear hb
    go_wp2_with fail
    go_loopw [3, 11] (fun v i wr => ∃ (k : Nat) (acc : ByteArray), k ≤ l.length ∧ i = .int .i64 k ∧ v = .string acc ∧ Hid (acc = foldM (l.take k)) ∧ Hid (Below w1.heap.size w1 wr)) (fun _ i _ => l.length - (intOf i).toNat)
    case atStart => exact ⟨0, _, Nat.zero_le _, rfl, rfl, rfl, Below.refl _ _⟩
    case round =>
      obtain ⟨k, acc, hk, rfl, rfl, HA, HBW⟩ := hrel
      by_cases hlt : k < l.length
      · obtain ⟨b, o, rfl, hc0, hc1⟩ := (HS1.out.below HBW.out).getE hlt
        have hst := foldM_take hlt
        have hacc : acc.size ≤ 49 := by rw [HA.out]; exact HSZ.out k
        have HT2 := Lib.hid (HT1.out.below HBW.out)
        have hfk : l[k].1.size ≤ 16777216 := HF.out.at hlt
        generalize l[k] = p at *
        obtain ⟨t, a⟩ := p
        simp only at *
        have hz1 : (mk (hexT a)).size ≤ 6 := by rw [mk_size]; exact hexT_len a
        have hz2 : (t ++ ⟨#[61]⟩).size ≤ 16777217 := by rw [ByteArray.size_append]; exact Nat.add_le_add_right hfk 1
        have hz3 : (t ++ ⟨#[61]⟩ ++ mk (hexT a)).size ≤ 16777223 := by rw [ByteArray.size_append]; exact Nat.add_le_add hz2 hz1
        have hz4 : (t ++ ⟨#[61]⟩ ++ mk (hexT a) ++ ⟨#[59]⟩).size ≤ 16777224 := by rw [ByteArray.size_append]; exact Nat.add_le_add_right hz3 1
        have hq1 := str_add (x := t) (y := ⟨#[61]⟩) (by omega) (by simp [ByteArray.size])
        have hq2 := str_add (x := t ++ ⟨#[61]⟩) (y := mk (hexT a)) (by omega) (by omega)
        have hq3 := str_add (x := t ++ ⟨#[61]⟩ ++ mk (hexT a)) (y := ⟨#[59]⟩) (by omega) (by simp [ByteArray.size])
        have hq4 := str_add (x := acc) (y := t ++ ⟨#[61]⟩ ++ mk (hexT a) ++ ⟨#[59]⟩) (by omega) (by omega)
        have HH := Lib.hid (fun w h => iHexText_any a w h)
        have HN := Lib.hid (show acc ++ (t ++ ⟨#[61]⟩ ++ mk (hexT a) ++ ⟨#[59]⟩) = foldM (l.take (k + 1)) by rw [hst, HA.out]; rfl)
        have HB2 := Lib.hid (HBW.out.alloc HBW.out.size (.cells #[.string t, .int .i64 a] 100))
        have HT3 := Lib.hid (fun p => (HT2.out.below ((Below.refl _ _).alloc (Nat.le_refl _) (.cells #[.string t, .int .i64 a] 100))).below (far_below _ p))
        have hx0 := far_cell (new_cell (w := wr) (cs := #[.string t, .int .i64 a]) (E := 100) (k := 0) rfl)
        have hx1 := far_cell (new_cell (w := wr) (cs := #[.string t, .int .i64 a]) (E := 100) (k := 1) rfl)
        clear hst
        go_wp2
        refine wp_region_far (by kernel_rfl) (by kernel_rfl) ?_
        repeat (go_big_quiet_step ((go_at_call 106; exact far_call (HH.out _ (HT3.out _)))))
        refine wpQuiet_nil ?_
        intro _ hwF
        obtain ⟨pF, hwF⟩ := hwF
        subst hwF
        have HB5 := Lib.hid (Below_then HB2.out (far_below _ pF) (Nat.le_refl _))
        generalize far _ pF = wF at *
        clear hx0 hx1
        go_wp2
        go_roundw
        case rel => exact ⟨k + 1, _, by omega, by go_num, rfl, HN.out, HB5.out⟩
        case measure => simp [intOf]; omega
      · have HE := Lib.hid (show acc = foldM l by rw [HA.out, List.take_of_length_le (by omega)])
        have HB2 := Lib.hid (Below_then HB.out HBW.out (Nat.le_refl _))
        go_wp2
        go_ret
        exact ⟨ret_str HE.out, HB2.out⟩
set_option maxHeartbeats 4000000 in
set_option maxRecDepth 100000 in
theorem sFolderText_any (A : Option Addr) (c : Nat) (l : List En) (w : World) (hs : Sl w encE 2 A l) (hl : l.length ≤ 16777216) (hf : FitE l) :
    Calls Tryz.prog 74 #[.slice A l.length c] w fun e w' => e = .returned (.string (mk (foldT l))) ∧ Below w.heap.size w w' := by
  have HS := Lib.hid hs
  have HF := Lib.hid hf
  have hsv := fun w h => sEntriesValid_any A c l w h hl hf
  clear hs hf
  cases hv : entsV l
  · have E := Lib.hid (show mk (foldT l) = ⟨#[]⟩ by unfold foldT; rw [hv]; rfl)
    rw [hv] at hsv
    have HSV := Lib.hid hsv
    clear hsv hv
    rw [E.out]
    go_enter Tryz.func74, Tryz.ntmps74
    go_wp2_with fail
    refine (HSV.out _ HS.out).mono ?_
    rintro e w1 ⟨rfl, hb⟩
    have HB := Lib.hid hb
    clear hb
    go_wp2
    go_ret
    exact ⟨rfl, HB.out⟩
  · have E := Lib.hid (show mk (foldT l) = foldM l by unfold foldT; rw [hv]; rfl)
    rw [hv] at hsv
    have HSV := Lib.hid hsv
    have HSZ := Lib.hid (foldM_size hv)
    have hl3 := entsV_len hv
    clear hsv hv
    rw [E.out]
    go_enter Tryz.func74, Tryz.ntmps74
    go_wp2_with fail
    refine (HSV.out _ HS.out).mono ?_
    rintro e w1 ⟨rfl, hb⟩
    have HB := Lib.hid hb
    have HS1 := Lib.hid (HS.out.below hb)
    clear hb
    go_wp2_with fail
    go_loopw [3, 4] (fun v i wr => ∃ (k : Nat) (acc : ByteArray), k ≤ l.length ∧ i = .int .i64 k ∧ v = .string acc ∧ Hid (acc = foldM (l.take k)) ∧ Hid (Below w1.heap.size w1 wr)) (fun _ i _ => l.length - (intOf i).toNat)
    case atStart => exact ⟨0, _, Nat.zero_le _, rfl, rfl, rfl, Below.refl _ _⟩
    case round =>
      obtain ⟨k, acc, hk, rfl, rfl, HA, HBW⟩ := hrel
      by_cases hlt : k < l.length
      · obtain ⟨b, o, rfl, hc0, hc1⟩ := (HS1.out.below HBW.out).getE hlt
        have hst := foldM_take hlt
        have hacc : acc.size ≤ 49 := by rw [HA.out]; exact HSZ.out k
        have hfk : l[k].1.size ≤ 16777216 := HF.out.at hlt
        generalize l[k] = p at *
        obtain ⟨t, a⟩ := p
        simp only at *
        have hz1 : (mk (hexT a)).size ≤ 6 := by rw [mk_size]; exact hexT_len a
        have hz0 : (acc ++ t).size ≤ 16777265 := by rw [ByteArray.size_append]; omega
        have hz2 : (acc ++ t ++ ⟨#[61]⟩).size ≤ 16777266 := by rw [ByteArray.size_append]; exact Nat.add_le_add_right hz0 1
        have hz3 : (acc ++ t ++ ⟨#[61]⟩ ++ mk (hexT a)).size ≤ 16777272 := by rw [ByteArray.size_append]; exact Nat.add_le_add hz2 hz1
        have hq0 := str_add (x := acc) (y := t) (by omega) (by omega)
        have hq1 := str_add (x := acc ++ t) (y := ⟨#[61]⟩) (by omega) (by simp [ByteArray.size])
        have hq2 := str_add (x := acc ++ t ++ ⟨#[61]⟩) (y := mk (hexT a)) (by omega) (by omega)
        have hq3 := str_add (x := acc ++ t ++ ⟨#[61]⟩ ++ mk (hexT a)) (y := ⟨#[59]⟩) (by omega) (by simp [ByteArray.size])
        have HH := Lib.hid (fun w => sHexText_any a w)
        have HN := Lib.hid (show acc ++ t ++ ⟨#[61]⟩ ++ mk (hexT a) ++ ⟨#[59]⟩ = foldM (l.take (k + 1)) by rw [hst, HA.out, ← cat4]; rfl)
        replace hc0 := far_cell hc0
        replace hc1 := far_cell hc1
        clear hst
        go_wp2
        refine wp_region_far (by kernel_rfl) (by kernel_rfl) ?_
        repeat (go_big_quiet_step ((go_at_call 71; exact far_same (HH.out _))))
        refine wpQuiet_nil ?_
        intro _ hwF
        obtain ⟨pF, hwF⟩ := hwF
        subst hwF
        have HB5 := Lib.hid (Below_then HBW.out (far_below _ pF) (Nat.le_refl _))
        generalize far _ pF = wF at *
        clear hc0 hc1
        go_wp2
        go_roundw
        case rel => exact ⟨k + 1, _, by omega, by go_num, rfl, HN.out, HB5.out⟩
        case measure => simp [intOf]; omega
      · have HE := Lib.hid (show acc = foldM l by rw [HA.out, List.take_of_length_le (by omega)])
        have HB2 := Lib.hid (Below_then HB.out HBW.out (Nat.le_refl _))
        go_wp2
        go_ret
        exact ⟨ret_str HE.out, HB2.out⟩
end Go.Proofs.YtedcgbmdfmgcgaaGreatDoor
