/- BundleLines, walked. -/
import Derived.Test.YtjadgjlidejjpaaDoorSto
import Derived.Test.YtjadgjlidejjpaaDoorHt
import Derived.Test.YtjadgjlidejjpaaDoorSs
import Derived.Deep.RegionHeld3
set_option linter.unusedVariables false
namespace Go.Proofs.YtjadgjlidejjpaaDoor
open Go.RowKit
--BEGIN
def lineOf (p : Pc) : ByteArray := mk (hexT p.1) ++ ⟨#[32]⟩ ++ p.2
def bundL (l : List Pc) : List ByteArray := if storeV l then l.map lineOf else []
theorem bundL_len (l : List Pc) : (bundL l).length ≤ l.length := by unfold bundL; split <;> simp
theorem bundL_take {l : List Pc} {k : Nat} (h : k < l.length) : (l.take (k + 1)).map lineOf = (l.take k).map lineOf ++ [lineOf l[k]] := by
  rw [List.take_succ_eq_append_getElem h, List.map_append]; rfl
set_option maxHeartbeats 4000000 in
set_option maxRecDepth 100000 in
theorem iBundleLines_any (A : Option Addr) (c : Nat) (l : List Pc) (w : World) (hs : Sl w encP 2 A l) (hl : l.length ≤ 16777216) (hf : FitP l) (ht : TzL w) :
    Calls Tryd.prog 7 #[.slice A l.length c] w (OwnRes 9 1 encS (bundL l) w) := by
  have HS := Lib.hid hs
  have HF := Lib.hid hf
  have HT := Lib.hid ht
  have hsv := fun w h => iStoreValid_any A c l w h hl hf
  clear hs hf ht
  unfold OwnRes
  cases hv : storeV l
  · have E := Lib.hid (show bundL l = [] by unfold bundL; rw [hv]; rfl)
    rw [hv] at hsv
    have HSV := Lib.hid hsv
    clear hsv hv
    rw [E.out]
    go_enter Tryd.func7, Tryd.ntmps7
    go_wp2_with fail
    refine (HSV.out _ HS.out).mono ?_
    rintro e w1 ⟨rfl, hb⟩
    have HB := Lib.hid hb
    clear hb
    go_wp2
    go_ret
    exact ⟨_, rfl, Own.nil, HB.out⟩
  · have E := Lib.hid (show bundL l = l.map lineOf by unfold bundL; rw [hv]; rfl)
    rw [hv] at hsv
    have HSV := Lib.hid hsv
    have hl40 := storeV_len hv
    clear hsv hv
    rw [E.out]
    go_enter Tryd.func7, Tryd.ntmps7
    go_wp2_with fail
    refine (HSV.out _ HS.out).mono ?_
    rintro e w1 ⟨rfl, hb⟩
    have HB := Lib.hid hb
    have HS1 := Lib.hid (HS.out.below hb)
    have HT1 := Lib.hid (HT.out.below hb)
    clear hb
    go_wp2_with fail
    go_loopw [3, 11] (fun v i wr => ∃ (k : Nat) (acc : List ByteArray), k ≤ l.length ∧ i = .int .i64 k ∧ acc.length = k ∧ Hid (acc = (l.take k).map lineOf) ∧ Hid (Own wr w1.heap.size 9 1 encS v acc) ∧ Hid (Below w1.heap.size w1 wr)) (fun _ i _ => l.length - (intOf i).toNat)
    case atStart => exact ⟨0, [], Nat.zero_le _, rfl, rfl, rfl, Own.nil, Below.refl _ _⟩
    case round =>
      obtain ⟨k, acc, hk, rfl, hak, HA, HO, HBW⟩ := hrel
      by_cases hlt : k < l.length
      · obtain ⟨b, o, rfl, hc0, hc1⟩ := (HS1.out.below HBW.out).getP hlt
        have hfk := HF.out.at hlt
        have hst := bundL_take hlt
        have HT2 := Lib.hid (HT1.out.below HBW.out)
        generalize l[k] = p at *
        obtain ⟨a, t⟩ := p
        simp only at *
        have hz1 : (mk (hexT a)).size ≤ 6 := by rw [mk_size]; exact hexT_len a
        have hz2 : (mk (hexT a) ++ ⟨#[32]⟩).size ≤ 7 := by rw [ByteArray.size_append]; exact Nat.add_le_add_right hz1 1
        have hq1 := str_add (x := mk (hexT a)) (y := ⟨#[32]⟩) (by omega) (by simp [ByteArray.size])
        have hq2 := str_add (x := mk (hexT a) ++ ⟨#[32]⟩) (y := t) (by omega) (by omega)
        have HNE := Lib.hid HO.out.ne
        have HH := Lib.hid (fun w h => iHexText_any a w h)
        have HN := Lib.hid (show acc ++ [mk (hexT a) ++ ⟨#[32]⟩ ++ t] = (l.take (k + 1)).map lineOf by rw [hst, HA.out]; rfl)
        have HL := Lib.hid (show acc.length ≤ 16777216 by omega)
        have HK := Lib.hid (show (wr.alloc (.cells #[.int .i64 a, .string t] 38)).cell? ⟨wr.heap.size, 0, none⟩ = some (.int .i64 a) ∧ (wr.alloc (.cells #[.int .i64 a, .string t] 38)).cell? ⟨wr.heap.size, 1, none⟩ = some (.string t) from ⟨new_cell rfl, new_cell rfl⟩)
        have HT3 := Lib.hid (HT2.out.below ((Below.refl _ _).alloc (Nat.le_refl _) (.cells #[.int .i64 a, .string t] 38)))
        clear hst
        go_wp2_with fail
        clear hc0 hc1
        first
          | go_region_held3 (fun w' => w'.cell? ⟨wr.heap.size, 0, none⟩ = some (.int .i64 a) ∧ w'.cell? ⟨wr.heap.size, 1, none⟩ = some (.string t))
              (first | assumption | exact HK.out | exact keep2 HB3.out HK.out | exact keep2 (HB3.out.alloc HB3.out.size _) HK.out | exact HK4.out)
              ((first
                | (go_at_call 18; refine (HH.out _ (by exact HT3.out)).mono ?_; rintro e w3 ⟨rfl, hb3⟩; have HB3 := Lib.hid (Below_drew hb3); clear hb3)
                | (refine step_str_e (w0 := w1) (HO.out.below (Below_of_alloc HB3.out)) (Below_then HBW.out (Below_of_alloc HB3.out) (Nat.le_refl _)) HL.out (by rfl) rfl (by rfl) (by rfl) ?_; intro v4 w4 hown4 hb4 hg4; have HW4 := Lib.hid hown4; have HB4 := Lib.hid hb4; have HK4 := Lib.hid (keep2G hg4 HNE.out (keep2 (HB3.out.alloc HB3.out.size _) HK.out)); clear hown4 hb4 hg4)))
          | fail
        all_goals
          go_wp2
          go_roundw
          case rel => exact ⟨k + 1, _, by omega, by go_num, by simp; omega, HN.out, HW4.out, HB4.out⟩
          case measure => simp [intOf]; omega
      · have HE := Lib.hid (show acc = l.map lineOf by rw [HA.out, List.take_of_length_le (by omega)])
        have HB2 := Lib.hid (Below_then HB.out HBW.out (Nat.le_refl _))
        have HOO := Lib.hid (HO.out.mono HB.out.size)
        go_wp2
        go_ret
        rw [← HE.out]
        exact ⟨_, rfl, HOO.out, HB2.out⟩
set_option maxHeartbeats 4000000 in
set_option maxRecDepth 100000 in
theorem sBundleLines_any (A : Option Addr) (c : Nat) (l : List Pc) (w : World) (hs : Sl w encP 2 A l) (hl : l.length ≤ 16777216) (hf : FitP l) :
    Calls Tryd.prog 5 #[.slice A l.length c] w (OwnRes 9 1 encS (bundL l) w) := by
  have HS := Lib.hid hs
  have HF := Lib.hid hf
  have hsv := fun w h => sStoreValid_any A c l w h hl hf
  clear hs hf
  unfold OwnRes
  cases hv : storeV l
  · have E := Lib.hid (show bundL l = [] by unfold bundL; rw [hv]; rfl)
    rw [hv] at hsv
    have HSV := Lib.hid hsv
    clear hsv hv
    rw [E.out]
    by_cases h0 : l.length = 0
    · have h0' : decide ((0 : Int) < (l.length : Int)) = false := decide_eq_false (by omega)
      go_enter Tryd.func5, Tryd.ntmps5
      go_wp2_with fail
      go_loopw [3, 4] (fun v i wr => v = .slice (some ⟨w.heap.size, 0, none⟩) 0 0 ∧ i = .int .i64 0 ∧ wr = w.alloc (.cells #[] 9)) (fun _ _ _ => 0)
      case atStart => exact ⟨rfl, rfl, rfl⟩
      case round =>
        obtain ⟨rfl, rfl, rfl⟩ := hrel
        go_wp2
        go_ret
        exact ⟨_, rfl, Own.made (Nat.le_refl _), (Below.refl _ _).alloc (Nat.le_refl _) _⟩
    · have h0' : decide ((0 : Int) < (l.length : Int)) = true := decide_eq_true (by omega)
      go_enter Tryd.func5, Tryd.ntmps5
      go_wp2_with fail
      go_loopw [3, 4] (fun v i wr => v = .slice (some ⟨w.heap.size, 0, none⟩) 0 0 ∧ i = .int .i64 0 ∧ wr = w.alloc (.cells #[] 9)) (fun _ _ _ => 0)
      case atStart => exact ⟨rfl, rfl, rfl⟩
      case round =>
        obtain ⟨rfl, rfl, rfl⟩ := hrel
        go_wp2_with fail
        refine (HSV.out _ (HS.out.alloc _)).mono ?_
        rintro e w1 ⟨rfl, hb⟩
        have HW := Lib.hid ((Own.made (w := w) (enc := encS) (E := 9) (size := 1) (Nat.le_refl _)).below hb)
        have HB := Lib.hid (Below_of_alloc hb)
        clear hb
        go_wp2
        go_ret
        exact ⟨_, rfl, HW.out, HB.out⟩
  · have E := Lib.hid (show bundL l = l.map lineOf by unfold bundL; rw [hv]; rfl)
    rw [hv] at hsv
    have HSV := Lib.hid hsv
    have hl40 := storeV_len hv
    clear hsv hv
    rw [E.out]
    go_enter Tryd.func5, Tryd.ntmps5
    go_wp2_with fail
    go_loopw [3, 4] (fun v i wr => ∃ (k : Nat) (acc : List ByteArray), k ≤ l.length ∧ i = .int .i64 k ∧ acc.length = k ∧ Hid (acc = (l.take k).map lineOf) ∧ Hid (Own wr w.heap.size 9 1 encS v acc) ∧ Hid (Below w.heap.size w wr)) (fun _ i _ => l.length - (intOf i).toNat)
    case atStart => exact ⟨0, [], Nat.zero_le _, rfl, rfl, rfl, Own.made (Nat.le_refl _), (Below.refl _ _).alloc (Nat.le_refl _) _⟩
    case round =>
      obtain ⟨k, acc, hk, rfl, hak, HA, HO, HBW⟩ := hrel
      by_cases hlt : k < l.length
      · have hlt' : decide ((k : Int) < (l.length : Int)) = true := decide_eq_true (by omega)
        obtain ⟨b, o, rfl, hd0, hd1⟩ := HS.out.getP hlt
        have hfk := HF.out.at hlt
        have hst := bundL_take hlt
        generalize l[k] = p at *
        obtain ⟨a, t⟩ := p
        simp only at *
        have hz1 : (mk (hexT a)).size ≤ 6 := by rw [mk_size]; exact hexT_len a
        have hz2 : (mk (hexT a) ++ ⟨#[32]⟩).size ≤ 7 := by rw [ByteArray.size_append]; exact Nat.add_le_add_right hz1 1
        have hq1 := str_add (x := mk (hexT a)) (y := ⟨#[32]⟩) (by omega) (by simp [ByteArray.size])
        have hq2 := str_add (x := mk (hexT a) ++ ⟨#[32]⟩) (y := t) (by omega) (by omega)
        have HH := Lib.hid (fun w => sHexText_any a w)
        have HN := Lib.hid (show acc ++ [mk (hexT a) ++ ⟨#[32]⟩ ++ t] = (l.take (k + 1)).map lineOf by rw [hst, HA.out]; rfl)
        have HL := Lib.hid (show acc.length ≤ 16777216 by omega)
        have HK1 := Lib.hid (And.intro hd0 hd1)
        clear hst hd0 hd1
        go_wp2_with fail
        refine (HSV.out _ (HS.out.below HBW.out)).mono ?_
        rintro e w2 ⟨rfl, hb2⟩
        have HO2 := Lib.hid (HO.out.below hb2)
        have HB2 := Lib.hid (Below_then HBW.out hb2 (Nat.le_refl _))
        have HK2 := Lib.hid (keepA HB2.out HK1.out)
        clear hb2
        go_wp2_with fail
        first
          | go_region_held3 (fun w' => w'.cell? ⟨b, o + k * 2, none⟩ = some (.int .i64 a) ∧ w'.cell? ⟨b, o + k * 2 + 1, none⟩ = some (.string t))
              (first | assumption | exact HK2.out | exact keepA (HB2.out.drew.alloc HB2.out.size _) HK1.out | exact keepA HB4.out HK1.out)
              ((first
                | (go_at_call 15; refine (HH.out _).mono ?_; rintro e w3 ⟨rfl, rfl⟩)
                | (refine step_str_g (w0 := w) HO2.out HB2.out HL.out (by rfl) rfl (by rfl) (by rfl) ?_; intro v4 w4 hown4 hb4 hg4; have HW4 := Lib.hid hown4; have HB4 := Lib.hid hb4; clear hown4 hb4 hg4)))
          | fail
        all_goals
          go_wp2
          go_roundw
          case rel => exact ⟨k + 1, _, by omega, by go_num, by simp; omega, HN.out, HW4.out, HB4.out⟩
          case measure => simp [intOf]; omega
      · have hlt' : decide ((k : Int) < (l.length : Int)) = false := decide_eq_false (by omega)
        have HE := Lib.hid (show acc = l.map lineOf by rw [HA.out, List.take_of_length_le (by omega)])
        go_wp2
        go_ret
        rw [← HE.out]
        exact ⟨_, rfl, HO.out, HBW.out⟩
end Go.Proofs.YtjadgjlidejjpaaDoor
