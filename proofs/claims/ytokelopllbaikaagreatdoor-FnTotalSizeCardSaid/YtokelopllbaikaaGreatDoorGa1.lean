/- Texts in one: Hx, Ty, W1, Heap2. -/
import Derived.Test.YtokelopllbaikaaGreatDoorGa0
import Derived.Test.YtokelopllbaikaaGreatDoorChecked
import Derived.Outline
import Derived.BigQuiet
import Derived.Deep.QuietTactic
import Derived.RegionTactic
import Derived.Deep.RegionLaw
/- Hexadecimal texts, in plain Lean. No program in sight. -/
set_option linter.unusedVariables false
namespace Go.Proofs.YtokelopllbaikaaGreatDoor
--BEGIN
def hexD (d : Nat) : UInt8 := if d < 10 then UInt8.ofNat (48 + d) else UInt8.ofNat (87 + d)
def hexF : Nat → Nat → Bs
  | 0, _ => []
  | f + 1, n => if n < 16 then [hexD n] else hexF f (n / 16) ++ [hexD (n % 16)]
def hexT (n : Int) : Bs := if pv n then hexF 7 n.toNat else []
def hexV (c : UInt8) : Option Nat := if digitC c then some (c.toNat - 48) else if inI c.toNat 97 102 then some (c.toNat - 87) else none
def hexN : Nat → Bs → Option Nat
  | n, [] => some n
  | n, c :: r => match hexV c with
    | some d => hexN (16 * n + d) r
    | none => none
def readH (s : Bs) : Int :=
  if 1 ≤ s.length ∧ s.length ≤ 6 then
    match hexN 0 s with
    | some n => if hexT n = s then (n : Int) else -1
    | none => -1
  else -1
theorem hexV_hexD : ∀ d, d < 16 → hexV (hexD d) = some d := by decide
theorem hexN_append : ∀ (a : Bs) (n : Nat) (b : Bs), hexN n (a ++ b) = (hexN n a).bind fun m => hexN m b
  | [], n, b => rfl
  | c :: r, n, b => by
    rw [List.cons_append, hexN, hexN]
    cases hexV c with
    | none => rfl
    | some d => exact hexN_append r _ b
theorem hexN_hexF : ∀ (f n : Nat), n < 16 ^ f → hexN 0 (hexF f n) = some n
  | 0, n, h => by have : n = 0 := by simpa using h
                  subst this; rfl
  | f + 1, n, h => by
    rw [hexF]
    split
    · rename_i h1
      rw [hexN, hexV_hexD n h1]; simp [hexN]
    · rw [hexN_append, hexN_hexF f (n / 16) (by rw [Nat.pow_succ] at h; omega)]
      show hexN (n / 16) [hexD (n % 16)] = some n
      rw [hexN, hexV_hexD (n % 16) (by omega)]
      simp only [hexN]; congr 1; omega
theorem hexF_len : ∀ (f n k : Nat), n < 16 ^ (k + 1) → (hexF f n).length ≤ k + 1
  | 0, n, k, _ => by simp [hexF]
  | f + 1, n, k, h => by
    rw [hexF]
    split
    · simp
    · rename_i h1
      cases k with
      | zero => simp at h; omega
      | succ k =>
        have := hexF_len f (n / 16) k (by rw [Nat.pow_succ] at h; omega)
        simp; omega
theorem hexF_ne (f n : Nat) : 1 ≤ (hexF (f + 1) n).length := by
  rw [hexF]; split <;> simp
theorem hexT_ok {n : Nat} (h : n ≤ 16777212) : hexT n = hexF 7 n := by
  unfold hexT; rw [if_pos (pv_iff.2 (by omega))]; rfl
theorem hexT_bad {n : Int} (h : pv n = false) : hexT n = [] := by unfold hexT; rw [h]; rfl
theorem hexT_len (n : Int) : (hexT n).length ≤ 6 := by
  unfold hexT; split
  · rename_i h
    have h2 := pv_iff.1 h
    exact hexF_len 7 n.toNat 5 (by have : n.toNat ≤ 16777212 := by omega
                                   have e : (16 : Nat) ^ (5 + 1) = 16777216 := by decide
                                   omega)
  · simp
theorem hexT_pos {n : Int} (h : pv n = true) : 1 ≤ (hexT n).length := by
  unfold hexT; rw [if_pos h]; exact hexF_ne 6 _
theorem hexN_hexT {n : Int} (h : pv n = true) : hexN 0 (hexT n) = some n.toNat := by
  unfold hexT; rw [if_pos h]
  have h2 := pv_iff.1 h
  exact hexN_hexF 7 n.toNat (by have : n.toNat ≤ 16777212 := by omega
                                have e : (16 : Nat) ^ 7 = 268435456 := by decide
                                omega)
theorem readH_hexT {n : Int} (h : pv n = true) : readH (hexT n) = n := by
  have h2 := pv_iff.1 h
  have e : ((n.toNat : Nat) : Int) = n := by omega
  unfold readH
  rw [if_pos ⟨hexT_pos h, hexT_len n⟩, hexN_hexT h]
  show (if hexT (n.toNat : Int) = hexT n then ((n.toNat : Nat) : Int) else -1) = n
  rw [e, if_pos rfl]
/-- What the reference has come to: N is left, 'acc' written. -/
def HexAt (n0 N : Nat) (acc : Bs) : Prop := acc.length ≤ 7 ∧ ∃ f, N < 16 ^ (f + 1) ∧ f + acc.length = 7 ∧ hexF 7 n0 = (if N < 16 then [] else hexF f (N / 16)) ++ acc
theorem HexAt.start {n0 : Nat} (h : n0 ≤ 16777212) : HexAt n0 n0 [hexD (n0 % 16)] := by
  refine ⟨by simp, 6, by have e : (16 : Nat) ^ (6 + 1) = 268435456 := by decide
                         omega, by simp, ?_⟩
  rw [hexF]
  split
  · rename_i h1; rw [Nat.mod_eq_of_lt h1]; rfl
  · rfl
theorem HexAt.step {n0 N : Nat} {acc : Bs} (h : HexAt n0 N acc) (hN : 16 ≤ N) : HexAt n0 (N / 16) (hexD (N / 16 % 16) :: acc) := by
  obtain ⟨hl, f, hf, hfl, he⟩ := h
  cases f with
  | zero => simp at hf; omega
  | succ f =>
    refine ⟨by simp; omega, f, by rw [Nat.pow_succ] at hf; omega, by simp; omega, ?_⟩
    rw [he, if_neg (by omega), hexF]
    split
    · rename_i h1; rw [Nat.mod_eq_of_lt h1]; rfl
    · simp
theorem HexAt.done {n0 N : Nat} {acc : Bs} (h : HexAt n0 N acc) (hN : N < 16) : hexF 7 n0 = acc := by
  obtain ⟨hl, f, hf, hfl, he⟩ := h
  rw [he, if_pos hN]; rfl
/-- What a reader has come to. -/
theorem hexN_snoc {s : Bs} {k : Nat} (hk : k < s.length) {n : Nat} (h : hexN 0 (s.take k) = some n) : hexN 0 (s.take (k + 1)) = (hexV s[k]).map fun d => 16 * n + d := by
  rw [List.take_succ_eq_append_getElem hk, hexN_append, h]
  show hexN n [s[k]] = _
  rw [hexN]
  cases hexV s[k] <;> rfl
theorem readH_char {s : Bs} {k : Nat} (hk : k < s.length) {n : Nat} (h : hexN 0 (s.take k) = some n) (hb : hexV s[k] = none) : readH s = -1 := by
  have h1 : hexN 0 s = none := by
    have e := (List.take_append_drop (k + 1) s).symm
    have h2 := hexN_snoc hk h
    rw [hb] at h2
    rw [e, hexN_append, h2]; rfl
  unfold readH
  rw [h1]; split <;> rfl
theorem readH_ok {s : Bs} (h1 : 1 ≤ s.length) {n : Nat} (h : hexN 0 s = some n) (he : hexT n = s) : readH s = n := by
  have h6 := hexT_len (n : Int)
  rw [he] at h6
  unfold readH
  rw [if_pos ⟨h1, h6⟩, h]
  show (if hexT (n : Int) = s then (n : Int) else -1) = n
  rw [if_pos he]
theorem readH_no {s : Bs} {n : Nat} (h : hexN 0 s = some n) (he : hexT n ≠ s) : readH s = -1 := by
  unfold readH
  rw [h]
  split
  · show (if hexT (n : Int) = s then (n : Int) else -1) = -1
    rw [if_neg he]
  · rfl
theorem readH_long {s : Bs} (h : 6 < s.length) : readH s = -1 := by unfold readH; rw [if_neg (by omega)]
theorem hexT_ne_long {s : Bs} (h : 6 < s.length) (n : Int) : hexT n ≠ s := by
  intro e; have := hexT_len n; rw [e] at this; omega
theorem hexT_chars (n : Int) : ∀ c ∈ hexT n, (hexV c).isSome = true := by
  by_cases hp : pv n = true
  · have h := hexN_hexT hp
    have aux : ∀ (s : Bs) (a m : Nat), hexN a s = some m → ∀ c ∈ s, (hexV c).isSome = true := by
      intro s
      induction s with
      | nil => intro a m _ c hc; simp at hc
      | cons x r ih =>
        intro a m hm c hc
        rw [hexN] at hm
        cases hx : hexV x with
        | none => rw [hx] at hm; cases hm
        | some d =>
          rw [hx] at hm
          rw [List.mem_cons] at hc
          rcases hc with rfl | hc
          · rw [hx]; rfl
          · exact ih _ _ hm c hc
    exact aux _ _ _ h
  · rw [hexT_bad (by simpa using hp)]; intro c hc; simp at hc
--END
end Go.Proofs.YtokelopllbaikaaGreatDoor

/- The element types' rows of this program's table, and 'append' of one element at each type. -/
set_option linter.unusedVariables false
namespace Go.Proofs.YtokelopllbaikaaGreatDoor
open Go.RowKit
theorem int_info : (Tryz.prog.info? 3).map (fun i => (i.zero, i.size, i.bytes)) = some (some (.int .i64 0), 1, 8) := by kernel_rfl
theorem str_info : (Tryz.prog.info? 9).map (fun i => (i.zero, i.size, i.bytes)) = some (some (.string ⟨#[]⟩), 1, 16) := by kernel_rfl
theorem pc_info : (Tryz.prog.info? 38).map (fun i => (i.zero, i.size, i.bytes)) = some (some (.agg #[.int .i64 0, .string ⟨#[]⟩]), 2, 24) := by kernel_rfl
section
variable {ops : Array Oper} {rest : List Oper} {o : Oper} {a : Act} {Q : Exit → Act → World → Prop} {w0 wr : World} {base : Nat} {v : Value}
theorem app_str {l : List ByteArray} {y : ByteArray} {s x : Operand} (hgd : o.guard = none) (ho : o.op = .call { callee := .builtin .append, args := #[s, x], argTypes := #[33, 33] })
    (hs : a.eval s = v) (hx : a.eval x = .slice (some ⟨wr.heap.size, 0, none⟩) 1 1)
    (hown : Own wr w0.heap.size 9 1 encS v l) (hb : Below w0.heap.size w0 wr) (hn : l.length ≤ 16777216)
    (h : ∀ v' w', Own w' w0.heap.size 9 1 encS v' (l ++ [y]) → Below w0.heap.size w0 w' → wpList Tryz.prog ops Q rest (a.put o.dst v') w') :
    wpList Tryz.prog ops Q (o :: rest) a (wr.alloc (.cells #[.string y] 9)) := by
  obtain ⟨i0, hi0, hz0, hz1, hz2⟩ := info_parts str_info
  exact wpList_app1 Tryz.underlying33 hi0 hz0 hz1 hz2 rfl (by decide) (by decide) hgd s x ho hs hx hown hb (Nat.le_refl _) hb.size hn y _ rfl rfl (by intro u hu; simp [encS] at hu; subst hu; rfl) h
end
end Go.Proofs.YtokelopllbaikaaGreatDoor

/- Walks: words and prints, of the program and of the reference. -/
set_option linter.unusedVariables false
namespace Go.Proofs.YtokelopllbaikaaGreatDoor
open Go.RowKit

abbrev bs (s : ByteArray) : Bs := s.data.toList

theorem sl1In_any (n lo hi : Int) (w : World) :
    Calls Tryz.prog 109 #[.int .i64 n, .int .i64 lo, .int .i64 hi] w fun e w' => e = .returned (.bool (inI n lo hi)) ∧ w = w' := by
  by_cases h1 : lo ≤ n <;> by_cases h2 : n ≤ hi <;> go_enter Tryz.func109, Tryz.ntmps109 <;> go_wp2 <;> go_ret <;> simp [inI, h1, h2]
theorem iprintValid_any (n : Int) (w : World) :
    Calls Tryz.prog 101 #[.int .i64 n] w fun e w' => e = .returned (.bool (pv n)) ∧ w = w' := by
  by_cases h1 : 0 ≤ n <;> by_cases h2 : n ≤ 16777212 <;> go_enter Tryz.func101, Tryz.ntmps101 <;> go_wp2 <;> go_ret <;> simp [pv, inI, h1, h2]
theorem iisSmall_any (c : Int) (w : World) :
    Calls Tryz.prog 47 #[.int .u8 c] w fun e w' => e = .returned (.bool (inI c 97 122)) ∧ w = w' := by
  by_cases h1 : 97 ≤ c <;> by_cases h2 : c ≤ 122 <;> go_enter Tryz.func47, Tryz.ntmps47 <;> go_wp2 <;> go_ret <;> simp [inI, h1, h2]
theorem iisDigit_any (c : Int) (w : World) :
    Calls Tryz.prog 46 #[.int .u8 c] w fun e w' => e = .returned (.bool (inI c 48 57)) ∧ w = w' := by
  by_cases h1 : 48 ≤ c <;> by_cases h2 : c ≤ 57 <;> go_enter Tryz.func46, Tryz.ntmps46 <;> go_wp2 <;> go_ret <;> simp [inI, h1, h2]

/-! ### texts -/
theorem size_bs (s : ByteArray) : (bs s).length = s.size := rfl
theorem get_bs (s : ByteArray) (k : Nat) (h : k < s.size) : (bs s)[k] = s[k] := rfl
theorem textV_bad {s : ByteArray} {k : Nat} (h : k < s.size) (hb : okC s[k] = false) : textV (bs s) = false := by
  unfold textV
  rw [Bool.and_eq_false_iff]; right
  rw [List.all_eq_false]
  exact ⟨s[k], by simp [bs, ByteArray.getElem_eq_getElem_data], by simp [hb]⟩
def AllUpto (p : UInt8 → Bool) (s : ByteArray) (k : Nat) : Prop := ∀ j (hj : j < s.size), j < k → p s[j] = true
theorem AllUpto.zero (p : UInt8 → Bool) (s : ByteArray) : AllUpto p s 0 := fun _ _ h => absurd h (by omega)
theorem AllUpto.succ {p : UInt8 → Bool} {s : ByteArray} {k : Nat} (hk : k < s.size) (h : AllUpto p s k) (hc : p s[k] = true) : AllUpto p s (k + 1) := by
  intro j hj hlt
  by_cases e : j = k
  · subst e; exact hc
  · exact h j hj (by omega)
theorem AllUpto.all {p : UInt8 → Bool} {s : ByteArray} {k : Nat} (hk : ¬ k < s.size) (h : AllUpto p s k) : (bs s).all p = true := by
  rw [List.all_eq_true]
  intro c hc
  obtain ⟨j, hj, rfl⟩ := List.getElem_of_mem hc
  exact h j hj (by have : j < s.size := hj; omega)
theorem textV_good {s : ByteArray} {k : Nat} (hk : ¬ k < s.size) (h : AllUpto okC s k) (hl : s.size ≤ 60) : textV (bs s) = true := by
  unfold textV
  rw [h.all hk]; simpa using hl
theorem textV_long {s : ByteArray} (hl : ¬ s.size ≤ 60) : textV (bs s) = false := by
  unfold textV
  rw [Bool.and_eq_false_iff]; left
  simpa using hl
theorem textV_size {s : ByteArray} (h : textV (bs s) = true) : s.size ≤ 60 := by
  unfold textV at h
  rw [Bool.and_eq_true] at h
  simpa using h.1
theorem okC_lo {c : UInt8} (h : (c.toNat : Int) < 32) : okC c = false := by simp [okC]; omega
theorem okC_hi {c : UInt8} (h : 126 < (c.toNat : Int)) : okC c = false := by simp [okC]; omega
theorem okC_yes {c : UInt8} (h : 32 ≤ (c.toNat : Int)) (h' : (c.toNat : Int) ≤ 126) : okC c = true := by simp [okC]; omega

set_option maxHeartbeats 2000000 in
set_option maxRecDepth 100000 in
theorem iTextValid_any (s : ByteArray) (w : World) (hs : s.size ≤ 16777216) :
    Calls Tryz.prog 16 #[.string s] w fun e w' => e = .returned (.bool (textV (bs s))) ∧ w = w' := by
  by_cases hl : s.size ≤ 60
  · go_enter Tryz.func16, Tryz.ntmps16
    go_wp2
    go_loop [3] (fun i => ∃ k : Nat, k ≤ s.size ∧ i = .int .i64 k ∧ AllUpto okC s k) (fun i => s.size - (intOf i).toNat)
    case atStart => exact ⟨0, Nat.zero_le _, rfl, AllUpto.zero _ s⟩
    case round =>
      obtain ⟨k, hk, rfl, ho⟩ := hrel
      by_cases hlt : k < s.size
      · by_cases h1 : 32 ≤ (s[k].toNat : Int)
        · by_cases h2 : (s[k].toNat : Int) ≤ 126
          · go_wp2
            go_round
            case rel => exact ⟨k + 1, by omega, by go_num, ho.succ hlt (okC_yes h1 h2)⟩
            case measure => simp [intOf]; omega
          · go_wp2
            go_ret
            exact ⟨ret_bool (textV_bad hlt (okC_hi h2)).symm, rfl⟩
        · go_wp2
          go_ret
          exact ⟨ret_bool (textV_bad hlt (okC_lo h1)).symm, rfl⟩
      · go_wp2
        go_ret
        exact ⟨ret_bool (textV_good hlt ho hl).symm, rfl⟩
  · go_enter Tryz.func16, Tryz.ntmps16
    go_wp2
    go_ret
    exact ⟨ret_bool (textV_long hl).symm, rfl⟩

set_option maxHeartbeats 2000000 in
set_option maxRecDepth 100000 in
theorem sTextValid_any (s : ByteArray) (w : World) (hs : s.size ≤ 16777216) :
    Calls Tryz.prog 58 #[.string s] w fun e w' => e = .returned (.bool (textV (bs s))) ∧ w = w' := by
  go_enter Tryz.func58, Tryz.ntmps58
  go_wp2
  go_loop [3] (fun i => ∃ k : Nat, k ≤ s.size ∧ i = .int .i64 k ∧ AllUpto okC s k) (fun i => s.size - (intOf i).toNat)
  case atStart => exact ⟨0, Nat.zero_le _, rfl, AllUpto.zero _ s⟩
  case round =>
    obtain ⟨k, hk, rfl, ho⟩ := hrel
    by_cases hlt : k < s.size
    · by_cases h1 : 32 ≤ (s[k].toNat : Int)
      · by_cases h2 : (s[k].toNat : Int) ≤ 126
        · go_wp2
          go_round
          case rel => exact ⟨k + 1, by omega, by go_num, ho.succ hlt (okC_yes h1 h2)⟩
          case measure => simp [intOf]; omega
        · go_wp2
          go_ret
          exact ⟨ret_bool (textV_bad hlt (okC_hi h2)).symm, rfl⟩
      · go_wp2
        go_ret
        exact ⟨ret_bool (textV_bad hlt (okC_lo h1)).symm, rfl⟩
    · by_cases hl : s.size ≤ 60
      · go_wp2
        go_ret
        exact ⟨ret_bool (by rw [textV_good hlt ho hl]; simp; omega), rfl⟩
      · go_wp2
        go_ret
        exact ⟨ret_bool (by rw [textV_long hl]; simp; omega), rfl⟩

/-! ### prints -/
theorem hash_take {s : ByteArray} {k : Nat} (h : k < s.size) (n : Int) : hash n ((bs s).take (k + 1)) = (hash n ((bs s).take k) * 257 + (s[k].toNat : Int)) % 16777213 := by
  rw [List.take_succ_eq_append_getElem (by exact h), hash_snoc, get_bs s k h]
theorem hash_done {s : ByteArray} {k : Nat} (h : ¬ k < s.size) (ht : textV (bs s) = true) : hash 1 ((bs s).take k) = prOf (bs s) := by
  rw [List.take_of_length_le (by rw [size_bs]; omega)]; unfold prOf; rw [if_pos ht]

set_option maxHeartbeats 2000000 in
set_option maxRecDepth 100000 in
theorem iPrintOf_any (s : ByteArray) (w : World) (hs : s.size ≤ 16777216) :
    Calls Tryz.prog 17 #[.string s] w fun e w' => e = .returned (.int .i64 (prOf (bs s))) ∧ w = w' := by
  cases ht : textV (bs s)
  · go_enter Tryz.func17, Tryz.ntmps17
    go_wp2_with (go_at_call 16; refine (iTextValid_any _ _ hs).mono ?_; rintro e w' ⟨rfl, rfl⟩)
    go_ret
    exact ⟨ret_int (prOf_bad ht).symm, rfl⟩
  · go_enter Tryz.func17, Tryz.ntmps17
    go_wp2_with (go_at_call 16; refine (iTextValid_any _ _ hs).mono ?_; rintro e w' ⟨rfl, rfl⟩)
    go_loop [3, 4] (fun n i => ∃ (k : Nat) (h : Int), k ≤ s.size ∧ i = .int .i64 k ∧ n = .int .i64 h ∧ 0 ≤ h ∧ h ≤ 16777212 ∧ Hid (h = hash 1 ((bs s).take k))) (fun _ i => s.size - (intOf i).toNat)
    case atStart => exact ⟨0, 1, Nat.zero_le _, rfl, rfl, by omega, by omega, rfl⟩
    case round =>
      obtain ⟨k, h, hk, rfl, rfl, h0, h1, hh⟩ := hrel
      by_cases hlt : k < s.size
      · have hby := s[k].toNat_lt
        go_wp2
        go_round
        case rel => exact ⟨k + 1, _, by omega, by go_num, rfl, by omega, by omega, by show _ = _; rw [hash_take hlt, ← hh.out]⟩
        case measure => simp [intOf]; omega
      · go_wp2
        go_ret
        exact ⟨ret_int (by rw [hh.out, hash_done hlt ht]), rfl⟩

set_option maxHeartbeats 2000000 in
set_option maxRecDepth 100000 in
theorem sPrintOf_any (s : ByteArray) (w : World) (hs : s.size ≤ 16777216) :
    Calls Tryz.prog 59 #[.string s] w fun e w' => e = .returned (.int .i64 (prOf (bs s))) ∧ w = w' := by
  cases ht : textV (bs s)
  · go_enter Tryz.func59, Tryz.ntmps59
    go_wp2_with (go_at_call 58; refine (sTextValid_any _ _ hs).mono ?_; rintro e w' ⟨rfl, rfl⟩)
    go_ret
    exact ⟨ret_int (prOf_bad ht).symm, rfl⟩
  · go_enter Tryz.func59, Tryz.ntmps59
    go_wp2_with (go_at_call 58; refine (sTextValid_any _ _ hs).mono ?_; rintro e w' ⟨rfl, rfl⟩)
    go_loop [3, 4] (fun n i => ∃ (k : Nat) (h : Int), k ≤ s.size ∧ i = .int .i64 k ∧ n = .int .i64 h ∧ 0 ≤ h ∧ h ≤ 16777212 ∧ Hid (h = hash 1 ((bs s).take k))) (fun _ i => s.size - (intOf i).toNat)
    case atStart => exact ⟨0, 1, Nat.zero_le _, rfl, rfl, by omega, by omega, rfl⟩
    case round =>
      obtain ⟨k, h, hk, rfl, rfl, h0, h1, hh⟩ := hrel
      by_cases hlt : k < s.size
      · have hby := s[k].toNat_lt
        go_wp2
        go_round
        case rel => exact ⟨k + 1, _, by omega, by go_num, rfl, by omega, by omega, by show _ = _; rw [hash_take hlt, ← hh.out, Int.mul_comm]⟩
        case measure => simp [intOf]; omega
      · go_wp2
        go_ret
        exact ⟨ret_int (by rw [hh.out, hash_done hlt ht]), rfl⟩

end Go.Proofs.YtokelopllbaikaaGreatDoor

/- More words for memory: 'append' of one element inside a region that draws its order. -/
set_option linter.unusedVariables false
namespace Go.Proofs.YtokelopllbaikaaGreatDoor
open Go.RowKit
theorem step_app1 {P : Program} {α : Type} {enc : α → List Value} {ops : Array Oper} {o : Oper} {a : Act} {K : Act → World → Prop} {Q : Exit → Act → World → Prop} {E' : Prop} {w0 W : World} {B base size bytes g : Nat} {t E : TypeId} {i : TypeInfo} {z : Value} {v : Value} {l : List α}
    (ht : P.underlying t = some (.slice E)) (hi : P.info? E = some i) (hz : i.zero = some z) (hsize : i.size = size) (hby : i.bytes = bytes) (hzs : z.cells.size = size) (hsz : 0 < size) (hb200 : bytes ≤ 256)
    (hgd : o.guard = none) (s x : Operand) (ho : o.op = .call { callee := .builtin .append, args := #[s, x], argTypes := #[t, t] })
    (hs : a.eval s = v) (hx : a.eval x = .slice (some ⟨g, 0, none⟩) 1 1)
    (hown : Own W base E size enc v l) (hb : Below B w0 W) (hB : B ≤ base) (hbase : base ≤ W.heap.size) (hn : l.length ≤ 16777216) (y : α) (hcell : ∀ j u, (enc y)[j]? = some u → W.cell? ⟨g, j, none⟩ = some u) (hce : (enc y).length = size) (h1 : ∀ u ∈ enc y, u.oneCell' = true)
    (h : ∀ v' w', Own w' base E size enc v' (l ++ [y]) → Below B w0 w' → K (a.put o.dst v') w') :
    if Region.wanted o (yielded ops a.tmps) = true then Oper.wp P o a W K Q else E' := by
  have hw : Region.wanted o (yielded ops a.tmps) = true := by simp [Region.wanted, hgd]
  rw [if_pos hw]
  refine wp_append_own W s x t ho base E i z size bytes ht hi hz hsize hby hzs hsz v l.length (flat enc l) hs hown ⟨g, 0, none⟩ 1 1 (enc y) hx (by rw [hce, Nat.one_mul]) ?_ h1 ?_ ?_ hbase ?_
  · intro j u hu
    have hadd : (⟨g, 0, none⟩ : Addr).add j = ⟨g, j, none⟩ := by unfold Addr.add; split <;> simp_all
    rw [hadd]; exact hcell j u hu
  · unfold maxLen; omega
  · have := Nat.mul_le_mul_left (l.length + 1) hb200; omega
  · intro v' w' hown' hg _
    refine h v' w' ?_ (hb.grown hg (Nat.le_trans hB hbase) (fun k hk => Nat.le_trans hB (World.ownsRow.lt hown k hk).1))
    show w'.ownsRow base E size v' (l ++ [y]).length (flat enc (l ++ [y]))
    rw [flat_snoc, List.length_append]; exact hown'
section
variable {ops : Array Oper} {o : Oper} {a : Act} {K : Act → World → Prop} {Q : Exit → Act → World → Prop} {E' : Prop} {w0 W : World} {v : Value}
end
end Go.Proofs.YtokelopllbaikaaGreatDoor
