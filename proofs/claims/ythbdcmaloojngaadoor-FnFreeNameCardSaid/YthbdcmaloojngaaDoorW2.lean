/- Walks: words and folded names. -/
import Derived.Test.YthbdcmaloojngaaDoorW1
set_option linter.unusedVariables false
namespace Go.Proofs.YthbdcmaloojngaaDoor
open Go.RowKit
attribute [local go_sem] mk_size mk_append i32_byte

theorem foldC_up {c : UInt8} (h1 : 65 ≤ (c.toNat : Int)) (h2 : (c.toNat : Int) ≤ 90) : ((foldC c).toNat : Int) = (c.toNat : Int) + 32 := by
  have e : foldC c = c + 32 := by unfold foldC; rw [if_pos ⟨h1, h2⟩]
  rw [e, UInt8.toNat_add]; simp; omega
theorem foldC_same {c : UInt8} (h : ¬ (65 ≤ (c.toNat : Int) ∧ (c.toNat : Int) ≤ 90)) : foldC c = c := by unfold foldC; rw [if_neg h]
theorem up_fine {c : UInt8} (h1 : 65 ≤ (c.toNat : Int)) (h2 : (c.toNat : Int) ≤ 90) : fineC c = true := by
  have := foldC_up h1 h2
  unfold fineC smallC; rw [this]; simp [inI]; omega
theorem fine_lt {c : UInt8} (h : fineC c = true) : (foldC c).toNat < 128 := by
  unfold fineC smallC digitC inI at h
  simp at h; omega
theorem foldName_ok {s : ByteArray} {k : Nat} (h1 : 1 ≤ s.size) (h2 : s.size ≤ 8) (hk : ¬ k < s.size) (ho : AllUpto fineC s k) : foldName (bs s) = ((bs s).take k).map foldC := by
  rw [List.take_of_length_le (by rw [size_bs]; omega)]
  unfold foldName; rw [if_pos ⟨h1, h2, ho.all hk⟩]
theorem foldName_long {s : ByteArray} (h : ¬ (1 ≤ s.size ∧ s.size ≤ 8)) : foldName (bs s) = [] := by
  unfold foldName; rw [if_neg]; rintro ⟨a, b, _⟩; exact h ⟨a, b⟩
theorem foldName_bad {s : ByteArray} {k : Nat} (hk : k < s.size) (h : fineC s[k] = false) : foldName (bs s) = [] := by
  unfold foldName; rw [if_neg]; rintro ⟨_, _, a⟩
  have := List.all_eq_true.1 a s[k] (by simp [bs, ByteArray.getElem_eq_getElem_data])
  rw [h] at this; cases this
theorem take_fold {s : ByteArray} {k : Nat} (h : k < s.size) : ((bs s).take (k + 1)).map foldC = ((bs s).take k).map foldC ++ [foldC s[k]] := by
  rw [List.take_succ_eq_append_getElem (by exact h)]; simp [get_bs s k h]
theorem mk_nil : mk [] = ⟨#[]⟩ := rfl
theorem small_not_digit {n : Int} (h : inI n 97 122 = true) : inI n 48 57 = false := by simp [inI] at *; omega

set_option maxHeartbeats 2000000 in
set_option maxRecDepth 100000 in
theorem iFoldName_any (s : ByteArray) (w : World) (hs : s.size ≤ 16777216) :
    Calls Tryd.prog 26 #[.string s] w fun e w' => e = .returned (.string (mk (foldName (bs s)))) ∧ w = w' := by
  by_cases hl : 1 ≤ s.size ∧ s.size ≤ 8
  · obtain ⟨hl1, hl2⟩ := hl
    go_enter Tryd.func26, Tryd.ntmps26
    go_wp2
    go_loop [3, 4] (fun n i => ∃ (k : Nat) (acc : Bs), k ≤ s.size ∧ i = .int .i64 k ∧ n = .string (mk acc) ∧ acc.length ≤ k ∧ Hid (acc = ((bs s).take k).map foldC) ∧ AllUpto fineC s k) (fun _ i => s.size - (intOf i).toNat)
    case atStart => exact ⟨0, [], Nat.zero_le _, rfl, rfl, Nat.zero_le _, rfl, AllUpto.zero _ _⟩
    case round =>
      obtain ⟨k, acc, hk, rfl, rfl, hal, hh, ho⟩ := hrel
      by_cases hlt : k < s.size
      · have hby := s[k].toNat_lt
        cases hf : fineC s[k]
        · by_cases h1 : 65 ≤ (s[k].toNat : Int)
          · by_cases h2 : (s[k].toNat : Int) ≤ 90
            · rw [up_fine h1 h2] at hf; cases hf
            · have e := foldC_same (fun h => h2 h.2)
              have hs1 : inI s[k].toNat 97 122 = false := by unfold fineC smallC digitC at hf; rw [e] at hf; simpa using (Bool.or_eq_false_iff.1 hf).1
              have hs2 : inI s[k].toNat 48 57 = false := by unfold fineC smallC digitC at hf; rw [e] at hf; simpa using (Bool.or_eq_false_iff.1 hf).2
              clear e
              have HF := Lib.hid hf
              clear hf
              go_wp2_with (first | (go_at_call 41; refine (iisSmall_any _ _).mono ?_; rintro e w' ⟨rfl, rfl⟩) | (go_at_call 40; refine (iisDigit_any _ _).mono ?_; rintro e w' ⟨rfl, rfl⟩))
              go_ret
              exact ⟨ret_str (by rw [foldName_bad hlt HF.out, mk_nil]), rfl⟩
          · have e := foldC_same (fun h => h1 h.1)
            have hs1 : inI s[k].toNat 97 122 = false := by unfold fineC smallC digitC at hf; rw [e] at hf; simpa using (Bool.or_eq_false_iff.1 hf).1
            have hs2 : inI s[k].toNat 48 57 = false := by unfold fineC smallC digitC at hf; rw [e] at hf; simpa using (Bool.or_eq_false_iff.1 hf).2
            clear e
            have HF := Lib.hid hf
            clear hf
            go_wp2_with (first | (go_at_call 41; refine (iisSmall_any _ _).mono ?_; rintro e w' ⟨rfl, rfl⟩) | (go_at_call 40; refine (iisDigit_any _ _).mono ?_; rintro e w' ⟨rfl, rfl⟩))
            go_ret
            exact ⟨ret_str (by rw [foldName_bad hlt HF.out, mk_nil]), rfl⟩
        · have h128 := fine_lt hf
          have henc := encode_byte (foldC s[k]) h128
          have hwr := i32_byte (foldC s[k])
          by_cases h1 : 65 ≤ (s[k].toNat : Int)
          · by_cases h2 : (s[k].toNat : Int) ≤ 90
            · have e := foldC_up h1 h2
              rw [e] at henc hwr
              have HE := Lib.hid e
              have hs1 : inI (s[k].toNat + 32) 97 122 = true := by simp [inI]; omega
              clear e
              have HF := Lib.hid hf
              clear hf
              go_wp2_with (first | (go_at_call 41; refine (iisSmall_any _ _).mono ?_; rintro e w' ⟨rfl, rfl⟩) | (go_at_call 40; refine (iisDigit_any _ _).mono ?_; rintro e w' ⟨rfl, rfl⟩))
              go_round
              case rel => exact ⟨k + 1, _, by omega, by go_num, rfl, by simp; omega, by show _ = _; rw [take_fold hlt, ← hh.out], ho.succ hlt HF.out⟩
              case measure => simp [intOf]; omega
            · have e := foldC_same (fun h => h2 h.2)
              have h3 : inI s[k].toNat 97 122 = true ∨ inI s[k].toNat 48 57 = true := by unfold fineC smallC digitC at hf; rw [e] at hf; simpa using hf
              rw [e] at henc hwr
              have HE := Lib.hid e
              clear e
              have HF := Lib.hid hf
              clear hf
              cases hs1 : inI s[k].toNat 97 122
              · have hs2 : inI s[k].toNat 48 57 = true := by simpa [hs1] using h3
                clear h3
                go_wp2_with (first | (go_at_call 41; refine (iisSmall_any _ _).mono ?_; rintro e w' ⟨rfl, rfl⟩) | (go_at_call 40; refine (iisDigit_any _ _).mono ?_; rintro e w' ⟨rfl, rfl⟩))
                go_round
                case rel => exact ⟨k + 1, _, by omega, by go_num, rfl, by simp; omega, by show _ = _; rw [take_fold hlt, ← hh.out, HE.out], ho.succ hlt HF.out⟩
                case measure => simp [intOf]; omega
              · clear h3
                go_wp2_with (first | (go_at_call 41; refine (iisSmall_any _ _).mono ?_; rintro e w' ⟨rfl, rfl⟩) | (go_at_call 40; refine (iisDigit_any _ _).mono ?_; rintro e w' ⟨rfl, rfl⟩))
                go_round
                case rel => exact ⟨k + 1, _, by omega, by go_num, rfl, by simp; omega, by show _ = _; rw [take_fold hlt, ← hh.out, HE.out], ho.succ hlt HF.out⟩
                case measure => simp [intOf]; omega
          · have e := foldC_same (fun h => h1 h.1)
            have h3 : inI s[k].toNat 97 122 = true ∨ inI s[k].toNat 48 57 = true := by unfold fineC smallC digitC at hf; rw [e] at hf; simpa using hf
            rw [e] at henc hwr
            have HE := Lib.hid e
            clear e
            have HF := Lib.hid hf
            clear hf
            cases hs1 : inI s[k].toNat 97 122
            · have hs2 : inI s[k].toNat 48 57 = true := by simpa [hs1] using h3
              clear h3
              go_wp2_with (first | (go_at_call 41; refine (iisSmall_any _ _).mono ?_; rintro e w' ⟨rfl, rfl⟩) | (go_at_call 40; refine (iisDigit_any _ _).mono ?_; rintro e w' ⟨rfl, rfl⟩))
              go_round
              case rel => exact ⟨k + 1, _, by omega, by go_num, rfl, by simp; omega, by show _ = _; rw [take_fold hlt, ← hh.out, HE.out], ho.succ hlt HF.out⟩
              case measure => simp [intOf]; omega
            · exfalso; simp [inI] at hs1; omega
      · go_wp2
        go_ret
        exact ⟨ret_str (by rw [foldName_ok hl1 hl2 hlt ho, hh.out]), rfl⟩
  · by_cases h1 : 1 ≤ s.size
    · go_enter Tryd.func26, Tryd.ntmps26
      go_wp2
      go_ret
      exact ⟨ret_str (by rw [foldName_long hl, mk_nil]), rfl⟩
    · go_enter Tryd.func26, Tryd.ntmps26
      go_wp2
      go_ret
      exact ⟨ret_str (by rw [foldName_long hl, mk_nil]), rfl⟩

theorem conv_one (w : World) (c : Int) (h0 : 0 ≤ c) (h1 : c < 256) :
    (convert 30 9 (.slice (some ⟨w.heap.size, 0, none⟩) 1 1)).run Tryd.prog (w.alloc (.cells #[.int .u8 c] 5)) = .ok (.string (mk [UInt8.ofNat c.toNat])) (w.alloc (.cells #[.int .u8 c] 5)) := by
  have h := run_convert_bytes_back (P := Tryd.prog) (w.alloc (.cells #[.int .u8 c] 5)) 30 9 5 ⟨w.heap.size, 0, none⟩ 1 [UInt8.ofNat c.toNat] Tryd.underlying30 Tryd.underlying5 Tryd.underlying9 (by
    intro j hj
    have : j = 0 := by simpa using hj
    subst this
    rw [show (⟨w.heap.size, 0, none⟩ : Addr).add 0 = ⟨w.heap.size, 0, none⟩ from rfl, cell_of_row _ _ 0 _ 5 (0, 0) (heap_alloc_new w _)]
    simp; omega)
  exact h
theorem ofNat_toNat_fold (c : UInt8) : UInt8.ofNat ((c.toNat : Int)).toNat = c := by simp

set_option maxHeartbeats 2000000 in
set_option maxRecDepth 100000 in
theorem sFoldName_any (s : ByteArray) (w : World) (hs : s.size ≤ 16777216) :
    Calls Tryd.prog 34 #[.string s] w fun e w' => e = .returned (.string (mk (foldName (bs s)))) ∧ Below w.heap.size w w' := by
  go_enter Tryd.func34, Tryd.ntmps34
  go_wp2
  go_loopw [3, 4] (fun n i wr => ∃ (k : Nat) (acc : Bs), k ≤ s.size ∧ i = .int .i64 k ∧ n = .string (mk acc) ∧ acc.length ≤ k ∧ Hid (acc = ((bs s).take k).map foldC) ∧ AllUpto fineC s k ∧ (0 < k → s.size ≤ 8) ∧ Below w.heap.size w wr) (fun _ i _ => s.size - (intOf i).toNat)
  case atStart => exact ⟨0, [], Nat.zero_le _, rfl, rfl, Nat.zero_le _, rfl, AllUpto.zero _ _, fun h => absurd h (by omega), Below.refl _ _⟩
  case round =>
    obtain ⟨k, acc, hk, rfl, rfl, hal, hh, ho, hl8, hb⟩ := hrel
    by_cases hlt : k < s.size
    · have hby := s[k].toNat_lt
      have HL := Lib.hid hl8
      clear hl8
      by_cases hl : s.size ≤ 8
      · cases hf : fineC s[k]
        · have HF := Lib.hid hf
          by_cases h1 : 65 ≤ (s[k].toNat : Int)
          · by_cases h2 : (s[k].toNat : Int) ≤ 90
            · rw [up_fine h1 h2] at hf; cases hf
            · have e := foldC_same (fun h => h2 h.2)
              have hs1 : ¬ (97 ≤ (s[k].toNat : Int) ∧ (s[k].toNat : Int) ≤ 122) := by unfold fineC smallC digitC at hf; rw [e] at hf; simpa [inI] using (Bool.or_eq_false_iff.1 hf).1
              have hs2 : ¬ (48 ≤ (s[k].toNat : Int) ∧ (s[k].toNat : Int) ≤ 57) := by unfold fineC smallC digitC at hf; rw [e] at hf; simpa [inI] using (Bool.or_eq_false_iff.1 hf).2
              clear e hf
              by_cases h3 : (s[k].toNat : Int) < 97
              · have h4 : 57 < (s[k].toNat : Int) := by omega
                clear hs1 hs2
                go_wp2
                go_ret
                exact ⟨ret_str (by rw [foldName_bad hlt HF.out, mk_nil]), hb⟩
              · have h4 : 122 < (s[k].toNat : Int) := by omega
                clear hs1 hs2
                go_wp2
                go_ret
                exact ⟨ret_str (by rw [foldName_bad hlt HF.out, mk_nil]), hb⟩
          · have e := foldC_same (fun h => h1 h.1)
            have hs2 : ¬ (48 ≤ (s[k].toNat : Int) ∧ (s[k].toNat : Int) ≤ 57) := by unfold fineC smallC digitC at hf; rw [e] at hf; simpa [inI] using (Bool.or_eq_false_iff.1 hf).2
            clear e hf
            have h97 : (s[k].toNat : Int) < 97 := by omega
            by_cases h4 : (s[k].toNat : Int) < 48
            · clear hs2
              go_wp2
              go_ret
              exact ⟨ret_str (by rw [foldName_bad hlt HF.out, mk_nil]), hb⟩
            · have h5 : 57 < (s[k].toNat : Int) := by omega
              clear hs2
              go_wp2
              go_ret
              exact ⟨ret_str (by rw [foldName_bad hlt HF.out, mk_nil]), hb⟩
        · have HF := Lib.hid hf
          by_cases h1 : 65 ≤ (s[k].toNat : Int)
          · by_cases h2 : (s[k].toNat : Int) ≤ 90
            · have e := foldC_up h1 h2
              have hcv := fun wx => conv_one wx ((s[k].toNat : Int) + 32) (by omega) (by omega)
              have e2 : UInt8.ofNat ((s[k].toNat : Int) + 32).toNat = foldC s[k] := by rw [← e]; exact ofNat_toNat_fold _
              rw [e2] at hcv
              clear e e2 hf
              go_wp2
              go_roundw
              case rel => exact ⟨k + 1, _, by omega, by go_num, rfl, by simp; omega, by show _ = _; rw [take_fold hlt, ← hh.out], ho.succ hlt HF.out, fun _ => hl, hb.alloc hb.size _⟩
              case measure => simp [intOf]; omega
            · have e := foldC_same (fun h => h2 h.2)
              have h3 : inI s[k].toNat 97 122 = true ∨ inI s[k].toNat 48 57 = true := by unfold fineC smallC digitC at hf; rw [e] at hf; simpa using hf
              have hcv := fun wx => conv_one wx (s[k].toNat : Int) (by omega) (by omega)
              rw [ofNat_toNat_fold] at hcv
              have HE := Lib.hid e
              clear e hf
              have h4 : 97 ≤ (s[k].toNat : Int) := by simp [inI] at h3; omega
              have h5 : (s[k].toNat : Int) ≤ 122 := by simp [inI] at h3; omega
              clear h3
              go_wp2
              go_roundw
              case rel => exact ⟨k + 1, _, by omega, by go_num, rfl, by simp; omega, by show _ = _; rw [take_fold hlt, ← hh.out, HE.out], ho.succ hlt HF.out, fun _ => hl, hb.alloc hb.size _⟩
              case measure => simp [intOf]; omega
          · have e := foldC_same (fun h => h1 h.1)
            have h3 : inI s[k].toNat 97 122 = true ∨ inI s[k].toNat 48 57 = true := by unfold fineC smallC digitC at hf; rw [e] at hf; simpa using hf
            have hcv := fun wx => conv_one wx (s[k].toNat : Int) (by omega) (by omega)
            rw [ofNat_toNat_fold] at hcv
            have HE := Lib.hid e
            clear e hf
            have h4 : 48 ≤ (s[k].toNat : Int) := by simp [inI] at h3; omega
            have h5 : (s[k].toNat : Int) ≤ 57 := by simp [inI] at h3; omega
            have h97 : (s[k].toNat : Int) < 97 := by omega
            clear h3
            go_wp2
            go_roundw
            case rel => exact ⟨k + 1, _, by omega, by go_num, rfl, by simp; omega, by show _ = _; rw [take_fold hlt, ← hh.out, HE.out], ho.succ hlt HF.out, fun _ => hl, hb.alloc hb.size _⟩
            case measure => simp [intOf]; omega
      · by_cases h1 : 65 ≤ (s[k].toNat : Int) ∧ (s[k].toNat : Int) ≤ 90
        · obtain ⟨h1, h2⟩ := h1
          go_wp2
          go_ret
          exact ⟨ret_str (by rw [foldName_long (fun h => hl h.2), mk_nil]), hb⟩
        · by_cases h3 : 65 ≤ (s[k].toNat : Int)
          · have h4 : 90 < (s[k].toNat : Int) := by omega
            clear h1
            go_wp2
            go_ret
            exact ⟨ret_str (by rw [foldName_long (fun h => hl h.2), mk_nil]), hb⟩
          · clear h1
            go_wp2
            go_ret
            exact ⟨ret_str (by rw [foldName_long (fun h => hl h.2), mk_nil]), hb⟩
    · go_wp2
      go_ret
      refine ⟨ret_str ?_, hb⟩
      by_cases h0 : 0 < k
      · rw [foldName_ok (by omega) (hl8 h0) hlt ho, hh.out]
      · have h00 : k = 0 := by omega
        rw [foldName_long (by omega), hh.out, h00]; rfl

/-! ### words -/
def wordC (c : UInt8) : Bool := smallC c || digitC c
theorem wordV_bad {s : ByteArray} {k : Nat} (h : k < s.size) (hb : wordC s[k] = false) : wordV (bs s) = false := by
  unfold wordV
  rw [Bool.and_eq_false_iff]; right
  rw [List.all_eq_false]
  exact ⟨s[k], by simp [bs, ByteArray.getElem_eq_getElem_data], by unfold wordC at hb; simp [hb]⟩
theorem wordV_len {s : ByteArray} (h : ¬ (1 ≤ s.size ∧ s.size ≤ 8)) : wordV (bs s) = false := by
  unfold wordV
  have : decide (1 ≤ (bs s).length ∧ (bs s).length ≤ 8) = false := by simpa [size_bs] using h
  rw [this]; rfl
theorem head_bs {s : ByteArray} (h : 0 < s.size) : (bs s).headD 0 = s[0] := by
  have := get_bs s 0 h
  cases hb : bs s with
  | nil => have := size_bs s; rw [hb] at this; simp at this; omega
  | cons c r => simp [hb] at this ⊢; exact this
theorem wordV_dig {s : ByteArray} (h : 0 < s.size) (hd : digitC s[0] = true) : wordV (bs s) = false := by
  unfold wordV; rw [head_bs h, hd]; simp
theorem wordV_good {s : ByteArray} {k : Nat} (h1 : 1 ≤ s.size) (h2 : s.size ≤ 8) (hd : digitC s[0] = false) (hk : ¬ k < s.size) (ho : AllUpto wordC s k) : wordV (bs s) = true := by
  unfold wordV; rw [head_bs h1, hd]
  have := ho.all hk
  simp only [Bool.and_eq_true, decide_eq_true_eq, Bool.not_false, and_true, size_bs]
  exact ⟨⟨h1, h2⟩, this⟩
theorem wordV_size {s : ByteArray} (h : wordV (bs s) = true) : 1 ≤ s.size ∧ s.size ≤ 8 := by
  rcases Decidable.em (1 ≤ s.size ∧ s.size ≤ 8) with h' | h'
  · exact h'
  · rw [wordV_len h'] at h; cases h

set_option maxHeartbeats 2000000 in
set_option maxRecDepth 100000 in
theorem iWordValid_any (s : ByteArray) (w : World) (hs : s.size ≤ 16777216) :
    Calls Tryd.prog 20 #[.string s] w fun e w' => e = .returned (.bool (wordV (bs s))) ∧ w = w' := by
  by_cases hl1 : 1 ≤ s.size
  · by_cases hl2 : s.size ≤ 8
    · have h0 : 0 < s.size := hl1
      have hby0 := s[0].toNat_lt
      cases hd : inI s[0].toNat 48 57
      · go_enter Tryd.func20, Tryd.ntmps20
        go_wp2_with (go_at_call 40; refine (iisDigit_any _ _).mono ?_; rintro e w' ⟨rfl, rfl⟩)
        go_loop [3] (fun i => ∃ k : Nat, k ≤ s.size ∧ i = .int .i64 k ∧ AllUpto wordC s k) (fun i => s.size - (intOf i).toNat)
        case atStart => exact ⟨0, Nat.zero_le _, rfl, AllUpto.zero _ s⟩
        case round =>
          obtain ⟨k, hk, rfl, ho⟩ := hrel
          by_cases hlt : k < s.size
          · have hby := s[k].toNat_lt
            cases hs1 : inI s[k].toNat 97 122
            · cases hs2 : inI s[k].toNat 48 57
              · go_wp2_with (first | (go_at_call 41; refine (iisSmall_any _ _).mono ?_; rintro e w' ⟨rfl, rfl⟩) | (go_at_call 40; refine (iisDigit_any _ _).mono ?_; rintro e w' ⟨rfl, rfl⟩))
                go_ret
                exact ⟨ret_bool (wordV_bad hlt (by unfold wordC smallC digitC; rw [hs1, hs2]; rfl)).symm, rfl⟩
              · go_wp2_with (first | (go_at_call 41; refine (iisSmall_any _ _).mono ?_; rintro e w' ⟨rfl, rfl⟩) | (go_at_call 40; refine (iisDigit_any _ _).mono ?_; rintro e w' ⟨rfl, rfl⟩))
                go_round
                case rel => exact ⟨k + 1, by omega, by go_num, ho.succ hlt (by unfold wordC smallC digitC; rw [hs2]; simp)⟩
                case measure => simp [intOf]; omega
            · go_wp2_with (first | (go_at_call 41; refine (iisSmall_any _ _).mono ?_; rintro e w' ⟨rfl, rfl⟩) | (go_at_call 40; refine (iisDigit_any _ _).mono ?_; rintro e w' ⟨rfl, rfl⟩))
              go_round
              case rel => exact ⟨k + 1, by omega, by go_num, ho.succ hlt (by unfold wordC smallC digitC; rw [hs1]; simp)⟩
              case measure => simp [intOf]; omega
          · go_wp2
            go_ret
            exact ⟨ret_bool (wordV_good hl1 hl2 hd hlt ho).symm, rfl⟩
      · go_enter Tryd.func20, Tryd.ntmps20
        go_wp2_with (go_at_call 40; refine (iisDigit_any _ _).mono ?_; rintro e w' ⟨rfl, rfl⟩)
        go_ret
        exact ⟨ret_bool (wordV_dig h0 hd).symm, rfl⟩
    · go_enter Tryd.func20, Tryd.ntmps20
      go_wp2
      go_ret
      exact ⟨ret_bool (wordV_len (by omega)).symm, rfl⟩
  · go_enter Tryd.func20, Tryd.ntmps20
    go_wp2
    go_ret
    exact ⟨ret_bool (wordV_len (by omega)).symm, rfl⟩

set_option maxHeartbeats 2000000 in
set_option maxRecDepth 100000 in
theorem sWordValid_any (s : ByteArray) (w : World) (hs : s.size ≤ 16777216) :
    Calls Tryd.prog 30 #[.string s] w fun e w' => e = .returned (.bool (wordV (bs s))) ∧ w = w' := by
  go_enter Tryd.func30, Tryd.ntmps30
  go_wp2
  go_loop [3] (fun i => ∃ k : Nat, k ≤ s.size ∧ i = .int .i64 k ∧ AllUpto wordC s k ∧ (0 < k → ∃ h : 0 < s.size, digitC s[0] = false)) (fun i => s.size - (intOf i).toNat)
  case atStart => exact ⟨0, Nat.zero_le _, rfl, AllUpto.zero _ s, fun h => absurd h (by omega)⟩
  case round =>
    obtain ⟨k, hk, rfl, ho, hd⟩ := hrel
    have HD := Lib.hid hd
    clear hd
    by_cases hlt : k < s.size
    · have hby := s[k].toNat_lt
      by_cases h1 : 97 ≤ (s[k].toNat : Int)
      · by_cases h2 : (s[k].toNat : Int) ≤ 122
        · have hc : wordC s[k] = true := by unfold wordC smallC inI; simp; omega
          have HC := Lib.hid hc
          clear hc
          go_wp2
          go_round
          case rel => exact ⟨k + 1, by omega, by go_num, ho.succ hlt HC.out, fun _ => by
            by_cases h0 : 0 < k
            · exact HD.out h0
            · have e : k = 0 := by omega
              subst e
              exact ⟨hlt, by unfold digitC inI; simp; omega⟩⟩
          case measure => simp [intOf]; omega
        · have hc : wordC s[k] = false := by unfold wordC smallC digitC inI; simp; omega
          have HC := Lib.hid hc
          clear hc
          by_cases h0 : k = 0
          · subst h0
            go_wp2
            go_ret
            exact ⟨ret_bool (wordV_bad hlt HC.out).symm, rfl⟩
          · have h00 : ((k : Int) == 0) = false := by simp; omega
            go_wp2
            go_ret
            exact ⟨ret_bool (wordV_bad hlt HC.out).symm, rfl⟩
      · by_cases h0 : k = 0
        · subst h0
          by_cases h3 : digitC s[0] = true
          · have HC := Lib.hid h3
            clear h3
            go_wp2
            go_ret
            exact ⟨ret_bool (wordV_dig hlt HC.out).symm, rfl⟩
          · have hc : wordC s[0] = false := by unfold wordC smallC; simp [h3]; simp [inI]; omega
            have HC := Lib.hid hc
            clear hc h3
            go_wp2
            go_ret
            exact ⟨ret_bool (wordV_bad hlt HC.out).symm, rfl⟩
        · have h00 : ((k : Int) == 0) = false := by simp; omega
          by_cases h3 : 48 ≤ (s[k].toNat : Int)
          · by_cases h4 : (s[k].toNat : Int) ≤ 57
            · have hc : wordC s[k] = true := by unfold wordC digitC inI; simp; omega
              have HC := Lib.hid hc
              clear hc
              go_wp2
              go_round
              case rel => exact ⟨k + 1, by omega, by go_num, ho.succ hlt HC.out, fun _ => HD.out (by omega)⟩
              case measure => simp [intOf]; omega
            · have hc : wordC s[k] = false := by unfold wordC smallC digitC inI; simp; omega
              have HC := Lib.hid hc
              clear hc
              go_wp2
              go_ret
              exact ⟨ret_bool (wordV_bad hlt HC.out).symm, rfl⟩
          · have hc : wordC s[k] = false := by unfold wordC smallC digitC inI; simp; omega
            have HC := Lib.hid hc
            clear hc
            go_wp2
            go_ret
            exact ⟨ret_bool (wordV_bad hlt HC.out).symm, rfl⟩
    · go_wp2_with (go_at_call 44; refine (sl1In_any _ _ _ _).mono ?_; rintro e w' ⟨rfl, rfl⟩)
      go_ret
      refine ⟨ret_bool ?_, rfl⟩
      by_cases h0 : 0 < k
      · obtain ⟨_, h3⟩ := HD.out h0
        by_cases h8 : s.size ≤ 8
        · rw [wordV_good (by omega) h8 h3 hlt ho]; simp [inI]; omega
        · rw [wordV_len (by omega)]; simp [inI]; omega
      · rw [wordV_len (by omega)]; simp [inI]; omega
end Go.Proofs.YthbdcmaloojngaaDoor
