/- Walks: words and prints, of the program and of the reference. -/
import Derived.Test.YtedcgbmdfmgcgaaGreatDoorGa0
import Derived.Outline
import Derived.BigQuiet
import Derived.Deep.QuietTactic
set_option linter.unusedVariables false
namespace Go.Proofs.YtedcgbmdfmgcgaaGreatDoor
open Go.RowKit

abbrev bs (s : ByteArray) : Bs := s.data.toList

theorem sl1In_any (n lo hi : Int) (w : World) :
    Calls Tryz.prog 100 #[.int .i64 n, .int .i64 lo, .int .i64 hi] w fun e w' => e = .returned (.bool (inI n lo hi)) ∧ w = w' := by
  by_cases h1 : lo ≤ n <;> by_cases h2 : n ≤ hi <;> go_enter Tryz.func100, Tryz.ntmps100 <;> go_wp2 <;> go_ret <;> simp [inI, h1, h2]
theorem iprintValid_any (n : Int) (w : World) :
    Calls Tryz.prog 77 #[.int .i64 n] w fun e w' => e = .returned (.bool (pv n)) ∧ w = w' := by
  by_cases h1 : 0 ≤ n <;> by_cases h2 : n ≤ 16777212 <;> go_enter Tryz.func77, Tryz.ntmps77 <;> go_wp2 <;> go_ret <;> simp [pv, inI, h1, h2]
theorem iisSmall_any (c : Int) (w : World) :
    Calls Tryz.prog 76 #[.int .u8 c] w fun e w' => e = .returned (.bool (inI c 97 122)) ∧ w = w' := by
  by_cases h1 : 97 ≤ c <;> by_cases h2 : c ≤ 122 <;> go_enter Tryz.func76, Tryz.ntmps76 <;> go_wp2 <;> go_ret <;> simp [inI, h1, h2]
theorem iisDigit_any (c : Int) (w : World) :
    Calls Tryz.prog 75 #[.int .u8 c] w fun e w' => e = .returned (.bool (inI c 48 57)) ∧ w = w' := by
  by_cases h1 : 48 ≤ c <;> by_cases h2 : c ≤ 57 <;> go_enter Tryz.func75, Tryz.ntmps75 <;> go_wp2 <;> go_ret <;> simp [inI, h1, h2]

/-! ### texts -/
theorem size_bs (s : ByteArray) : (bs s).length = s.size := rfl
theorem get_bs (s : ByteArray) (k : Nat) (h : k < s.size) : (bs s)[k] = s[k] := rfl
theorem textV_bad {s : ByteArray} {k : Nat} (h : k < s.size) (hb : okC s[k] = false) : textV (bs s) = false := by
  unfold textV
  rw [Bool.and_eq_false_iff]; right
  rw [List.all_eq_false]
  exact ⟨s[k], by simp [bs, ByteArray.getElem_eq_getElem_data], by simp [hb]⟩
def AllUpto (p : UInt8 → Bool) (s : ByteArray) (k : Nat) : Prop := ∀ j (hj : j < s.size), j < k → p s[j] = true
theorem AllUpto.zero (p : UInt8 → Bool) (s : ByteArray) : AllUpto p s 0 := fun _ _ h => absurd h (by omega)
theorem AllUpto.succ {p : UInt8 → Bool} {s : ByteArray} {k : Nat} (hk : k < s.size) (h : AllUpto p s k) (hc : p s[k] = true) : AllUpto p s (k + 1) := by
  intro j hj hlt
  by_cases e : j = k
  · subst e; exact hc
  · exact h j hj (by omega)
theorem AllUpto.all {p : UInt8 → Bool} {s : ByteArray} {k : Nat} (hk : ¬ k < s.size) (h : AllUpto p s k) : (bs s).all p = true := by
  rw [List.all_eq_true]
  intro c hc
  obtain ⟨j, hj, rfl⟩ := List.getElem_of_mem hc
  exact h j hj (by have : j < s.size := hj; omega)
theorem textV_good {s : ByteArray} {k : Nat} (hk : ¬ k < s.size) (h : AllUpto okC s k) (hl : s.size ≤ 60) : textV (bs s) = true := by
  unfold textV
  rw [h.all hk]; simpa using hl
theorem textV_long {s : ByteArray} (hl : ¬ s.size ≤ 60) : textV (bs s) = false := by
  unfold textV
  rw [Bool.and_eq_false_iff]; left
  simpa using hl
theorem textV_size {s : ByteArray} (h : textV (bs s) = true) : s.size ≤ 60 := by
  unfold textV at h
  rw [Bool.and_eq_true] at h
  simpa using h.1
theorem okC_lo {c : UInt8} (h : (c.toNat : Int) < 32) : okC c = false := by simp [okC]; omega
theorem okC_hi {c : UInt8} (h : 126 < (c.toNat : Int)) : okC c = false := by simp [okC]; omega
theorem okC_yes {c : UInt8} (h : 32 ≤ (c.toNat : Int)) (h' : (c.toNat : Int) ≤ 126) : okC c = true := by simp [okC]; omega

set_option maxHeartbeats 2000000 in
set_option maxRecDepth 100000 in
theorem iTextValid_any (s : ByteArray) (w : World) (hs : s.size ≤ 16777216) :
    Calls Tryz.prog 60 #[.string s] w fun e w' => e = .returned (.bool (textV (bs s))) ∧ w = w' := by
  by_cases hl : s.size ≤ 60
  · go_enter Tryz.func60, Tryz.ntmps60
    go_wp2
    go_loop [3] (fun i => ∃ k : Nat, k ≤ s.size ∧ i = .int .i64 k ∧ AllUpto okC s k) (fun i => s.size - (intOf i).toNat)
    case atStart => exact ⟨0, Nat.zero_le _, rfl, AllUpto.zero _ s⟩
    case round =>
      obtain ⟨k, hk, rfl, ho⟩ := hrel
      by_cases hlt : k < s.size
      · by_cases h1 : 32 ≤ (s[k].toNat : Int)
        · by_cases h2 : (s[k].toNat : Int) ≤ 126
          · go_wp2
            go_round
            case rel => exact ⟨k + 1, by omega, by go_num, ho.succ hlt (okC_yes h1 h2)⟩
            case measure => simp [intOf]; omega
          · go_wp2
            go_ret
            exact ⟨ret_bool (textV_bad hlt (okC_hi h2)).symm, rfl⟩
        · go_wp2
          go_ret
          exact ⟨ret_bool (textV_bad hlt (okC_lo h1)).symm, rfl⟩
      · go_wp2
        go_ret
        exact ⟨ret_bool (textV_good hlt ho hl).symm, rfl⟩
  · go_enter Tryz.func60, Tryz.ntmps60
    go_wp2
    go_ret
    exact ⟨ret_bool (textV_long hl).symm, rfl⟩

set_option maxHeartbeats 2000000 in
set_option maxRecDepth 100000 in
theorem sTextValid_any (s : ByteArray) (w : World) (hs : s.size ≤ 16777216) :
    Calls Tryz.prog 89 #[.string s] w fun e w' => e = .returned (.bool (textV (bs s))) ∧ w = w' := by
  go_enter Tryz.func89, Tryz.ntmps89
  go_wp2
  go_loop [3] (fun i => ∃ k : Nat, k ≤ s.size ∧ i = .int .i64 k ∧ AllUpto okC s k) (fun i => s.size - (intOf i).toNat)
  case atStart => exact ⟨0, Nat.zero_le _, rfl, AllUpto.zero _ s⟩
  case round =>
    obtain ⟨k, hk, rfl, ho⟩ := hrel
    by_cases hlt : k < s.size
    · by_cases h1 : 32 ≤ (s[k].toNat : Int)
      · by_cases h2 : (s[k].toNat : Int) ≤ 126
        · go_wp2
          go_round
          case rel => exact ⟨k + 1, by omega, by go_num, ho.succ hlt (okC_yes h1 h2)⟩
          case measure => simp [intOf]; omega
        · go_wp2
          go_ret
          exact ⟨ret_bool (textV_bad hlt (okC_hi h2)).symm, rfl⟩
      · go_wp2
        go_ret
        exact ⟨ret_bool (textV_bad hlt (okC_lo h1)).symm, rfl⟩
    · by_cases hl : s.size ≤ 60
      · go_wp2
        go_ret
        exact ⟨ret_bool (by rw [textV_good hlt ho hl]; simp; omega), rfl⟩
      · go_wp2
        go_ret
        exact ⟨ret_bool (by rw [textV_long hl]; simp; omega), rfl⟩

/-! ### prints -/
theorem hash_take {s : ByteArray} {k : Nat} (h : k < s.size) (n : Int) : hash n ((bs s).take (k + 1)) = (hash n ((bs s).take k) * 257 + (s[k].toNat : Int)) % 16777213 := by
  rw [List.take_succ_eq_append_getElem (by exact h), hash_snoc, get_bs s k h]
theorem hash_done {s : ByteArray} {k : Nat} (h : ¬ k < s.size) (ht : textV (bs s) = true) : hash 1 ((bs s).take k) = prOf (bs s) := by
  rw [List.take_of_length_le (by rw [size_bs]; omega)]; unfold prOf; rw [if_pos ht]

set_option maxHeartbeats 2000000 in
set_option maxRecDepth 100000 in
theorem iPrintOf_any (s : ByteArray) (w : World) (hs : s.size ≤ 16777216) :
    Calls Tryz.prog 61 #[.string s] w fun e w' => e = .returned (.int .i64 (prOf (bs s))) ∧ w = w' := by
  cases ht : textV (bs s)
  · go_enter Tryz.func61, Tryz.ntmps61
    go_wp2_with (go_at_call 60; refine (iTextValid_any _ _ hs).mono ?_; rintro e w' ⟨rfl, rfl⟩)
    go_ret
    exact ⟨ret_int (prOf_bad ht).symm, rfl⟩
  · go_enter Tryz.func61, Tryz.ntmps61
    go_wp2_with (go_at_call 60; refine (iTextValid_any _ _ hs).mono ?_; rintro e w' ⟨rfl, rfl⟩)
    go_loop [3, 4] (fun n i => ∃ (k : Nat) (h : Int), k ≤ s.size ∧ i = .int .i64 k ∧ n = .int .i64 h ∧ 0 ≤ h ∧ h ≤ 16777212 ∧ Hid (h = hash 1 ((bs s).take k))) (fun _ i => s.size - (intOf i).toNat)
    case atStart => exact ⟨0, 1, Nat.zero_le _, rfl, rfl, by omega, by omega, rfl⟩
    case round =>
      obtain ⟨k, h, hk, rfl, rfl, h0, h1, hh⟩ := hrel
      by_cases hlt : k < s.size
      · have hby := s[k].toNat_lt
        go_wp2
        go_round
        case rel => exact ⟨k + 1, _, by omega, by go_num, rfl, by omega, by omega, by show _ = _; rw [hash_take hlt, ← hh.out]⟩
        case measure => simp [intOf]; omega
      · go_wp2
        go_ret
        exact ⟨ret_int (by rw [hh.out, hash_done hlt ht]), rfl⟩

set_option maxHeartbeats 2000000 in
set_option maxRecDepth 100000 in
theorem sPrintOf_any (s : ByteArray) (w : World) (hs : s.size ≤ 16777216) :
    Calls Tryz.prog 90 #[.string s] w fun e w' => e = .returned (.int .i64 (prOf (bs s))) ∧ w = w' := by
  cases ht : textV (bs s)
  · go_enter Tryz.func90, Tryz.ntmps90
    go_wp2_with (go_at_call 89; refine (sTextValid_any _ _ hs).mono ?_; rintro e w' ⟨rfl, rfl⟩)
    go_ret
    exact ⟨ret_int (prOf_bad ht).symm, rfl⟩
  · go_enter Tryz.func90, Tryz.ntmps90
    go_wp2_with (go_at_call 89; refine (sTextValid_any _ _ hs).mono ?_; rintro e w' ⟨rfl, rfl⟩)
    go_loop [3, 4] (fun n i => ∃ (k : Nat) (h : Int), k ≤ s.size ∧ i = .int .i64 k ∧ n = .int .i64 h ∧ 0 ≤ h ∧ h ≤ 16777212 ∧ Hid (h = hash 1 ((bs s).take k))) (fun _ i => s.size - (intOf i).toNat)
    case atStart => exact ⟨0, 1, Nat.zero_le _, rfl, rfl, by omega, by omega, rfl⟩
    case round =>
      obtain ⟨k, h, hk, rfl, rfl, h0, h1, hh⟩ := hrel
      by_cases hlt : k < s.size
      · have hby := s[k].toNat_lt
        go_wp2
        go_round
        case rel => exact ⟨k + 1, _, by omega, by go_num, rfl, by omega, by omega, by show _ = _; rw [hash_take hlt, ← hh.out, Int.mul_comm]⟩
        case measure => simp [intOf]; omega
      · go_wp2
        go_ret
        exact ⟨ret_int (by rw [hh.out, hash_done hlt ht]), rfl⟩

theorem prPair_bad {a b : Int} (h : pv a = false ∨ pv b = false) : prPair a b = -1 := by
  unfold prPair; rcases h with h | h <;> simp [h]
theorem prPair_ok {a b : Int} (ha : pv a = true) (hb : pv b = true) : prPair a b = (a * 7919 + b * 104729 + 3) % 16777213 := by
  unfold prPair; simp [ha, hb]
end Go.Proofs.YtedcgbmdfmgcgaaGreatDoor
