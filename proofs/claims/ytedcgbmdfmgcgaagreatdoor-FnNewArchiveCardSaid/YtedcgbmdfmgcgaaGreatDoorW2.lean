/- Walks: words and folded names. -/
import Derived.Test.YtedcgbmdfmgcgaaGreatDoorW1
set_option linter.unusedVariables false
namespace Go.Proofs.YtedcgbmdfmgcgaaGreatDoor
open Go.RowKit
attribute [local go_sem] mk_size mk_append i32_byte

theorem foldC_up {c : UInt8} (h1 : 65 ≤ (c.toNat : Int)) (h2 : (c.toNat : Int) ≤ 90) : ((foldC c).toNat : Int) = (c.toNat : Int) + 32 := by
  have e : foldC c = c + 32 := by unfold foldC; rw [if_pos ⟨h1, h2⟩]
  rw [e, UInt8.toNat_add]; simp; omega
theorem foldC_same {c : UInt8} (h : ¬ (65 ≤ (c.toNat : Int) ∧ (c.toNat : Int) ≤ 90)) : foldC c = c := by unfold foldC; rw [if_neg h]
theorem up_fine {c : UInt8} (h1 : 65 ≤ (c.toNat : Int)) (h2 : (c.toNat : Int) ≤ 90) : fineC c = true := by
  have := foldC_up h1 h2
  unfold fineC smallC; rw [this]; simp [inI]; omega
theorem fine_lt {c : UInt8} (h : fineC c = true) : (foldC c).toNat < 128 := by
  unfold fineC smallC digitC inI at h
  simp at h; omega
theorem foldName_ok {s : ByteArray} {k : Nat} (h1 : 1 ≤ s.size) (h2 : s.size ≤ 8) (hk : ¬ k < s.size) (ho : AllUpto fineC s k) : foldName (bs s) = ((bs s).take k).map foldC := by
  rw [List.take_of_length_le (by rw [size_bs]; omega)]
  unfold foldName; rw [if_pos ⟨h1, h2, ho.all hk⟩]
theorem foldName_long {s : ByteArray} (h : ¬ (1 ≤ s.size ∧ s.size ≤ 8)) : foldName (bs s) = [] := by
  unfold foldName; rw [if_neg]; rintro ⟨a, b, _⟩; exact h ⟨a, b⟩
theorem foldName_bad {s : ByteArray} {k : Nat} (hk : k < s.size) (h : fineC s[k] = false) : foldName (bs s) = [] := by
  unfold foldName; rw [if_neg]; rintro ⟨_, _, a⟩
  have := List.all_eq_true.1 a s[k] (by simp [bs, ByteArray.getElem_eq_getElem_data])
  rw [h] at this; cases this
theorem take_fold {s : ByteArray} {k : Nat} (h : k < s.size) : ((bs s).take (k + 1)).map foldC = ((bs s).take k).map foldC ++ [foldC s[k]] := by
  rw [List.take_succ_eq_append_getElem (by exact h)]; simp [get_bs s k h]
theorem mk_nil : mk [] = ⟨#[]⟩ := rfl
theorem small_not_digit {n : Int} (h : inI n 97 122 = true) : inI n 48 57 = false := by simp [inI] at *; omega

theorem conv_one (w : World) (c : Int) (h0 : 0 ≤ c) (h1 : c < 256) :
    (convert 22 9 (.slice (some ⟨w.heap.size, 0, none⟩) 1 1)).run Tryz.prog (w.alloc (.cells #[.int .u8 c] 5)) = .ok (.string (mk [UInt8.ofNat c.toNat])) (w.alloc (.cells #[.int .u8 c] 5)) := by
  have h := run_convert_bytes_back (P := Tryz.prog) (w.alloc (.cells #[.int .u8 c] 5)) 22 9 5 ⟨w.heap.size, 0, none⟩ 1 [UInt8.ofNat c.toNat] Tryz.underlying22 Tryz.underlying5 Tryz.underlying9 (by
    intro j hj
    have : j = 0 := by simpa using hj
    subst this
    rw [show (⟨w.heap.size, 0, none⟩ : Addr).add 0 = ⟨w.heap.size, 0, none⟩ from rfl, cell_of_row _ _ 0 _ 5 (0, 0) (heap_alloc_new w _)]
    simp; omega)
  exact h
theorem ofNat_toNat_fold (c : UInt8) : UInt8.ofNat ((c.toNat : Int)).toNat = c := by simp

/-! ### words -/
def wordC (c : UInt8) : Bool := smallC c || digitC c
theorem wordV_bad {s : ByteArray} {k : Nat} (h : k < s.size) (hb : wordC s[k] = false) : wordV (bs s) = false := by
  unfold wordV
  rw [Bool.and_eq_false_iff]; right
  rw [List.all_eq_false]
  exact ⟨s[k], by simp [bs, ByteArray.getElem_eq_getElem_data], by unfold wordC at hb; simp [hb]⟩
theorem wordV_len {s : ByteArray} (h : ¬ (1 ≤ s.size ∧ s.size ≤ 8)) : wordV (bs s) = false := by
  unfold wordV
  have : decide (1 ≤ (bs s).length ∧ (bs s).length ≤ 8) = false := by simpa [size_bs] using h
  rw [this]; rfl
theorem head_bs {s : ByteArray} (h : 0 < s.size) : (bs s).headD 0 = s[0] := by
  have := get_bs s 0 h
  cases hb : bs s with
  | nil => have := size_bs s; rw [hb] at this; simp at this; omega
  | cons c r => simp [hb] at this ⊢; exact this
theorem wordV_dig {s : ByteArray} (h : 0 < s.size) (hd : digitC s[0] = true) : wordV (bs s) = false := by
  unfold wordV; rw [head_bs h, hd]; simp
theorem wordV_good {s : ByteArray} {k : Nat} (h1 : 1 ≤ s.size) (h2 : s.size ≤ 8) (hd : digitC s[0] = false) (hk : ¬ k < s.size) (ho : AllUpto wordC s k) : wordV (bs s) = true := by
  unfold wordV; rw [head_bs h1, hd]
  have := ho.all hk
  simp only [Bool.and_eq_true, decide_eq_true_eq, Bool.not_false, and_true, size_bs]
  exact ⟨⟨h1, h2⟩, this⟩
theorem wordV_size {s : ByteArray} (h : wordV (bs s) = true) : 1 ≤ s.size ∧ s.size ≤ 8 := by
  rcases Decidable.em (1 ≤ s.size ∧ s.size ≤ 8) with h' | h'
  · exact h'
  · rw [wordV_len h'] at h; cases h

set_option maxHeartbeats 2000000 in
set_option maxRecDepth 100000 in
theorem iWordValid_any (s : ByteArray) (w : World) (hs : s.size ≤ 16777216) :
    Calls Tryz.prog 38 #[.string s] w fun e w' => e = .returned (.bool (wordV (bs s))) ∧ w = w' := by
  by_cases hl1 : 1 ≤ s.size
  · by_cases hl2 : s.size ≤ 8
    · have h0 : 0 < s.size := hl1
      have hby0 := s[0].toNat_lt
      cases hd : inI s[0].toNat 48 57
      · go_enter Tryz.func38, Tryz.ntmps38
        go_wp2_with (go_at_call 75; refine (iisDigit_any _ _).mono ?_; rintro e w' ⟨rfl, rfl⟩)
        go_loop [3] (fun i => ∃ k : Nat, k ≤ s.size ∧ i = .int .i64 k ∧ AllUpto wordC s k) (fun i => s.size - (intOf i).toNat)
        case atStart => exact ⟨0, Nat.zero_le _, rfl, AllUpto.zero _ s⟩
        case round =>
          obtain ⟨k, hk, rfl, ho⟩ := hrel
          by_cases hlt : k < s.size
          · have hby := s[k].toNat_lt
            cases hs1 : inI s[k].toNat 97 122
            · cases hs2 : inI s[k].toNat 48 57
              · go_wp2_with (first | (go_at_call 76; refine (iisSmall_any _ _).mono ?_; rintro e w' ⟨rfl, rfl⟩) | (go_at_call 75; refine (iisDigit_any _ _).mono ?_; rintro e w' ⟨rfl, rfl⟩))
                go_ret
                exact ⟨ret_bool (wordV_bad hlt (by unfold wordC smallC digitC; rw [hs1, hs2]; rfl)).symm, rfl⟩
              · go_wp2_with (first | (go_at_call 76; refine (iisSmall_any _ _).mono ?_; rintro e w' ⟨rfl, rfl⟩) | (go_at_call 75; refine (iisDigit_any _ _).mono ?_; rintro e w' ⟨rfl, rfl⟩))
                go_round
                case rel => exact ⟨k + 1, by omega, by go_num, ho.succ hlt (by unfold wordC smallC digitC; rw [hs2]; simp)⟩
                case measure => simp [intOf]; omega
            · go_wp2_with (first | (go_at_call 76; refine (iisSmall_any _ _).mono ?_; rintro e w' ⟨rfl, rfl⟩) | (go_at_call 75; refine (iisDigit_any _ _).mono ?_; rintro e w' ⟨rfl, rfl⟩))
              go_round
              case rel => exact ⟨k + 1, by omega, by go_num, ho.succ hlt (by unfold wordC smallC digitC; rw [hs1]; simp)⟩
              case measure => simp [intOf]; omega
          · go_wp2
            go_ret
            exact ⟨ret_bool (wordV_good hl1 hl2 hd hlt ho).symm, rfl⟩
      · go_enter Tryz.func38, Tryz.ntmps38
        go_wp2_with (go_at_call 75; refine (iisDigit_any _ _).mono ?_; rintro e w' ⟨rfl, rfl⟩)
        go_ret
        exact ⟨ret_bool (wordV_dig h0 hd).symm, rfl⟩
    · go_enter Tryz.func38, Tryz.ntmps38
      go_wp2
      go_ret
      exact ⟨ret_bool (wordV_len (by omega)).symm, rfl⟩
  · go_enter Tryz.func38, Tryz.ntmps38
    go_wp2
    go_ret
    exact ⟨ret_bool (wordV_len (by omega)).symm, rfl⟩

set_option maxHeartbeats 2000000 in
set_option maxRecDepth 100000 in
theorem sWordValid_any (s : ByteArray) (w : World) (hs : s.size ≤ 16777216) :
    Calls Tryz.prog 97 #[.string s] w fun e w' => e = .returned (.bool (wordV (bs s))) ∧ w = w' := by
  go_enter Tryz.func97, Tryz.ntmps97
  go_wp2
  go_loop [3] (fun i => ∃ k : Nat, k ≤ s.size ∧ i = .int .i64 k ∧ AllUpto wordC s k ∧ (0 < k → ∃ h : 0 < s.size, digitC s[0] = false)) (fun i => s.size - (intOf i).toNat)
  case atStart => exact ⟨0, Nat.zero_le _, rfl, AllUpto.zero _ s, fun h => absurd h (by omega)⟩
  case round =>
    obtain ⟨k, hk, rfl, ho, hd⟩ := hrel
    have HD := Lib.hid hd
    clear hd
    by_cases hlt : k < s.size
    · have hby := s[k].toNat_lt
      by_cases h1 : 97 ≤ (s[k].toNat : Int)
      · by_cases h2 : (s[k].toNat : Int) ≤ 122
        · have hc : wordC s[k] = true := by unfold wordC smallC inI; simp; omega
          have HC := Lib.hid hc
          clear hc
          go_wp2
          go_round
          case rel => exact ⟨k + 1, by omega, by go_num, ho.succ hlt HC.out, fun _ => by
            by_cases h0 : 0 < k
            · exact HD.out h0
            · have e : k = 0 := by omega
              subst e
              exact ⟨hlt, by unfold digitC inI; simp; omega⟩⟩
          case measure => simp [intOf]; omega
        · have hc : wordC s[k] = false := by unfold wordC smallC digitC inI; simp; omega
          have HC := Lib.hid hc
          clear hc
          by_cases h0 : k = 0
          · subst h0
            go_wp2
            go_ret
            exact ⟨ret_bool (wordV_bad hlt HC.out).symm, rfl⟩
          · have h00 : ((k : Int) == 0) = false := by simp; omega
            go_wp2
            go_ret
            exact ⟨ret_bool (wordV_bad hlt HC.out).symm, rfl⟩
      · by_cases h0 : k = 0
        · subst h0
          by_cases h3 : digitC s[0] = true
          · have HC := Lib.hid h3
            clear h3
            go_wp2
            go_ret
            exact ⟨ret_bool (wordV_dig hlt HC.out).symm, rfl⟩
          · have hc : wordC s[0] = false := by unfold wordC smallC; simp [h3]; simp [inI]; omega
            have HC := Lib.hid hc
            clear hc h3
            go_wp2
            go_ret
            exact ⟨ret_bool (wordV_bad hlt HC.out).symm, rfl⟩
        · have h00 : ((k : Int) == 0) = false := by simp; omega
          by_cases h3 : 48 ≤ (s[k].toNat : Int)
          · by_cases h4 : (s[k].toNat : Int) ≤ 57
            · have hc : wordC s[k] = true := by unfold wordC digitC inI; simp; omega
              have HC := Lib.hid hc
              clear hc
              go_wp2
              go_round
              case rel => exact ⟨k + 1, by omega, by go_num, ho.succ hlt HC.out, fun _ => HD.out (by omega)⟩
              case measure => simp [intOf]; omega
            · have hc : wordC s[k] = false := by unfold wordC smallC digitC inI; simp; omega
              have HC := Lib.hid hc
              clear hc
              go_wp2
              go_ret
              exact ⟨ret_bool (wordV_bad hlt HC.out).symm, rfl⟩
          · have hc : wordC s[k] = false := by unfold wordC smallC digitC inI; simp; omega
            have HC := Lib.hid hc
            clear hc
            go_wp2
            go_ret
            exact ⟨ret_bool (wordV_bad hlt HC.out).symm, rfl⟩
    · go_wp2_with (go_at_call 100; refine (sl1In_any _ _ _ _).mono ?_; rintro e w' ⟨rfl, rfl⟩)
      go_ret
      refine ⟨ret_bool ?_, rfl⟩
      by_cases h0 : 0 < k
      · obtain ⟨_, h3⟩ := HD.out h0
        by_cases h8 : s.size ≤ 8
        · rw [wordV_good (by omega) h8 h3 hlt ho]; simp [inI]; omega
        · rw [wordV_len (by omega)]; simp [inI]; omega
      · rw [wordV_len (by omega)]; simp [inI]; omega
end Go.Proofs.YtedcgbmdfmgcgaaGreatDoor
