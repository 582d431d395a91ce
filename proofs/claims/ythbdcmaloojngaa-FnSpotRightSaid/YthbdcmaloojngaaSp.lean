/- Spots: prints of texts, their root. -/
import Derived.Test.YthbdcmaloojngaaTr2
set_option linter.unusedVariables false
namespace Go.Proofs.Ythbdcmaloojngaa
open Go.RowKit

def prints (ss : List ByteArray) : List Int := ss.map fun s => prOf (bs s)
theorem prints_take {ss : List ByteArray} {k : Nat} (h : k < ss.length) : prints (ss.take (k + 1)) = prints (ss.take k) ++ [prOf (bs ss[k])] := by
  unfold prints; rw [List.take_succ_eq_append_getElem h, List.map_append]; rfl
theorem prints_len (ss : List ByteArray) : (prints ss).length = ss.length := by simp [prints]
def Fit (ss : List ByteArray) : Prop := ∀ s ∈ ss, s.size ≤ 16777216
theorem Fit.at {ss : List ByteArray} (h : Fit ss) {k : Nat} (hk : k < ss.length) : ss[k].size ≤ 16777216 := h _ (by simp)

set_option maxHeartbeats 2000000 in
set_option maxRecDepth 100000 in
theorem sl28Prints_any (A : Option Addr) (c : Nat) (ss : List ByteArray) (w : World) (hs : Sl w encS 1 A ss) (hl : ss.length ≤ 16777216) (hf : Fit ss) :
    Calls Try.prog 43 #[.slice A ss.length c] w (OwnRes 3 1 encI (prints ss) w) := by
  have HS := Lib.hid hs
  have HF := Lib.hid hf
  clear hs hf
  go_enter Try.func43, Try.ntmps43
  go_wp2
  go_loopw [3, 4] (fun v i wr => ∃ (k : Nat) (acc : List Int), k ≤ ss.length ∧ i = .int .i64 k ∧ acc.length ≤ k ∧ Hid (acc = prints (ss.take k)) ∧ Own wr w.heap.size 3 1 encI v acc ∧ Below w.heap.size w wr) (fun _ i _ => ss.length - (intOf i).toNat)
  case atStart => exact ⟨0, [], Nat.zero_le _, rfl, Nat.le_refl _, rfl, Own.made (Nat.le_refl _), (Below.refl _ _).alloc (Nat.le_refl _) _⟩
  case round =>
    obtain ⟨k, acc, hk, rfl, hak, hh, hown, hb⟩ := hrel
    by_cases hlt : k < ss.length
    · obtain ⟨b, o, rfl, hc⟩ := (HS.out.below hb).getS hlt
      have hfk := HF.out.at hlt
      go_wp2_with (first
        | (go_at_call 50; refine (sPrintOf_any _ _ hfk).mono ?_; rintro e w' ⟨rfl, rfl⟩)
        | (at_builtin; refine app_int rfl rfl rfl rfl hown hb (by omega) ?_; intro v1 w2 hown2 hb2))
      go_roundw
      case rel => exact ⟨k + 1, _, by omega, by go_num, by simp; omega, by show _ = _; rw [prints_take hlt, ← hh.out], hown2, hb2⟩
      case measure => simp [intOf]; omega
    · go_wp2
      go_ret
      refine ⟨_, rfl, ?_, hb⟩
      rw [← List.take_of_length_le (l := ss) (i := k) (by omega), ← hh.out]; exact hown
set_option maxHeartbeats 2000000 in
set_option maxRecDepth 100000 in
theorem iprintsOf_any (A : Option Addr) (c : Nat) (ss : List ByteArray) (w : World) (hs : Sl w encS 1 A ss) (hl : ss.length ≤ 16777216) (hf : Fit ss) :
    Calls Try.prog 36 #[.slice A ss.length c] w (OwnRes 3 1 encI (if ss.length ≤ 16 then prints ss else []) w) := by
  have HS := Lib.hid hs
  have HF := Lib.hid hf
  clear hs hf
  by_cases h16 : ss.length ≤ 16
  · rw [if_pos h16]
    go_enter Try.func36, Try.ntmps36
    go_wp2
    go_loopw [3, 11] (fun v i wr => ∃ (k : Nat) (acc : List Int), k ≤ ss.length ∧ i = .int .i64 k ∧ acc.length ≤ k ∧ Hid (acc = prints (ss.take k)) ∧ Own wr w.heap.size 3 1 encI v acc ∧ Below w.heap.size w wr) (fun _ i _ => ss.length - (intOf i).toNat)
    case atStart => exact ⟨0, [], Nat.zero_le _, rfl, Nat.le_refl _, rfl, Own.nil, Below.refl _ _⟩
    case round =>
      obtain ⟨k, acc, hk, rfl, hak, hh, hown, hb⟩ := hrel
      by_cases hlt : k < ss.length
      · obtain ⟨b, o, rfl, hc⟩ := (HS.out.below hb).getS hlt
        have hfk := HF.out.at hlt
        go_wp2_with (first
          | (go_at_call 25; refine (iPrintOf_any _ _ hfk).mono ?_; rintro e w' ⟨rfl, rfl⟩)
          | (at_builtin; refine app_int rfl rfl rfl rfl hown hb (by omega) ?_; intro v1 w2 hown2 hb2))
        go_roundw
        case rel => exact ⟨k + 1, _, by omega, by go_num, by simp; omega, by show _ = _; rw [prints_take hlt, ← hh.out], hown2, hb2⟩
        case measure => simp [intOf]; omega
      · go_wp2
        go_ret
        refine ⟨_, rfl, ?_, hb⟩
        rw [← List.take_of_length_le (l := ss) (i := k) (by omega), ← hh.out]; exact hown
  · rw [if_neg h16]
    go_enter Try.func36, Try.ntmps36
    go_wp2
    go_ret
    exact ⟨_, rfl, Own.nil, Below.refl _ _⟩

def spotRoot (ss : List ByteArray) : Int := treeRoot (prints ss)
theorem spotRoot_cut (ss : List ByteArray) : treeRoot (if ss.length ≤ 16 then prints ss else []) = spotRoot ss := by
  unfold spotRoot; split
  · rfl
  · rename_i h
    rw [treeRoot_bad (l := []) (by decide), treeRoot_bad (leavesV_len (by rw [prints_len]; omega))]
set_option maxHeartbeats 2000000 in
set_option maxRecDepth 100000 in
theorem sSpotRoot_any (A : Option Addr) (c : Nat) (ss : List ByteArray) (w : World) (hs : Sl w encS 1 A ss) (hl : ss.length ≤ 16777216) (hf : Fit ss) :
    Calls Try.prog 18 #[.slice A ss.length c] w fun e w' => e = .returned (.int .i64 (spotRoot ss)) ∧ Below w.heap.size w w' := by
  have hpl := prints_len ss
  have HS := Lib.hid hs
  have HF := Lib.hid hf
  clear hs hf
  unfold spotRoot
  go_enter Try.func18, Try.ntmps18
  go_wp2_with fail
  refine (sl28Prints_any _ _ _ _ HS.out hl HF.out).mono ?_
  rintro e w1 ⟨v, rfl, hown, hb1⟩
  generalize hm : prints ss = m at *
  have HM := Lib.hid hm
  clear hm
  obtain ⟨A1, c1, rfl, _, hs1, _⟩ := hown.sl
  have hml : m.length ≤ 16777216 := by omega
  clear hown hpl
  go_wp2_with (go_at_call 42; refine (sTreeRoot_any _ _ _ _ hs1 hml).mono ?_; rintro e w2 ⟨rfl, hb2⟩)
  go_ret
  exact ⟨ret_int (by rw [HM.out]), Below_then hb1 hb2 (Nat.le_refl _)⟩
set_option maxHeartbeats 2000000 in
set_option maxRecDepth 100000 in
theorem iSpotRoot_any (A : Option Addr) (c : Nat) (ss : List ByteArray) (w : World) (hs : Sl w encS 1 A ss) (hl : ss.length ≤ 16777216) (hf : Fit ss) :
    Calls Try.prog 14 #[.slice A ss.length c] w fun e w' => e = .returned (.int .i64 (spotRoot ss)) ∧ Below w.heap.size w w' := by
  have hpl : (if ss.length ≤ 16 then prints ss else []).length ≤ 16777216 := by split <;> simp [prints_len]; omega
  have hcut := spotRoot_cut ss
  have HS := Lib.hid hs
  have HF := Lib.hid hf
  clear hs hf
  have HCUT := Lib.hid hcut
  clear hcut
  go_enter Try.func14, Try.ntmps14
  go_wp2_with fail
  refine (iprintsOf_any _ _ _ _ HS.out hl HF.out).mono ?_
  rintro e w1 ⟨v, rfl, hown, hb1⟩
  generalize hm : (if ss.length ≤ 16 then prints ss else []) = m at *
  have HM := Lib.hid hm
  clear hm
  obtain ⟨A1, c1, rfl, _, hs1, _⟩ := hown.sl
  clear hown
  go_wp2_with (go_at_call 35; refine (iTreeRoot_any _ _ _ _ hs1 hpl).mono ?_; rintro e w2 ⟨rfl, hb2⟩)
  go_ret
  exact ⟨ret_int HCUT.out, Below_then hb1 hb2 (Nat.le_refl _)⟩
end Go.Proofs.Ythbdcmaloojngaa
