/- Slices of the law's own: made and filled; sizes. -/
import Derived.Test.YthbdcmaloojngaaDoorW1
set_option linter.unusedVariables false
namespace Go.Proofs.YthbdcmaloojngaaDoor
open Go.RowKit

/-- Block g is a row of N cells whose first cells are 'done'. -/
def Filled (wr : World) (g N : Nat) (E : TypeId) (done : List Value) : Prop :=
  ∃ cs : Array Value, wr.heap[g]? = some (.cells cs E (0, 0)) ∧ cs.size = N ∧ done.length ≤ N ∧ cs.toList.take done.length = done
section
variable {wr : World} {g N : Nat} {E : TypeId} {done : List Value}
theorem Filled.cell (h : Filled wr g N E done) {j : Nat} (hj : j < N) : ∃ u, wr.cell? ⟨g, j, none⟩ = some u := by
  obtain ⟨cs, hg, hs, _, _⟩ := h
  exact ⟨cs[j], by rw [cell_of_row wr g j cs E (0, 0) hg, Array.getElem?_eq_getElem (by omega)]⟩
theorem Filled.free (h : Filled wr g N E done) (j : Nat) : wr.frozen? ⟨g, j, none⟩ = false := by
  obtain ⟨cs, hg, _⟩ := h
  exact frozen_of_row wr g j cs E hg
theorem Filled.store (h : Filled wr g N E done) (u : Value) (hj : done.length < N) : Filled (wr.setCell ⟨g, done.length, none⟩ u) g N E (done ++ [u]) := by
  obtain ⟨cs, hg, hs, hd, ht⟩ := h
  refine ⟨cs.setIfInBounds done.length u, heap_setCell_same wr g _ cs E u hg, by simpa using hs, by simp; omega, ?_⟩
  rw [List.length_append, List.length_singleton, Array.toList_setIfInBounds, List.take_succ_eq_append_getElem (by simp; omega)]
  rw [List.take_set_of_le (by omega), ht]
  simp
theorem Filled.drew (h : Filled wr g N E done) : Filled wr.drew g N E done := h
theorem Filled.drewN (h : Filled wr g N E done) (n : Nat) : Filled (wr.drewN n) g N E done := h
theorem Filled.below (h : Filled wr g N E done) {w' : World} (hb : Below wr.heap.size wr w') : Filled w' g N E done := by
  obtain ⟨cs, hg, r⟩ := h
  exact ⟨cs, (hb.block g (Array.getElem?_eq_some_iff.1 hg).1).trans hg, r⟩
theorem Filled.own {α : Type} {enc : α → List Value} {l : List α} {size base : Nat} (h : Filled wr g (l.length * size) E (flat enc l)) (he : ∀ x, (enc x).length = size) (hb : base ≤ g) (hm : l.length ≤ maxLen) :
    Own wr base E size enc (.slice (some ⟨g, 0, none⟩) l.length l.length) l := by
  obtain ⟨cs, hg, hs, hd, ht⟩ := h
  refine ⟨flat_length he l, .inr ⟨g, l.length, cs, rfl, hb, hg, Nat.le_refl _, hm, hs, ?_⟩⟩
  rw [← flat_length he l]; exact ht
end
theorem Filled.made (w : World) (z : Array Value) (N : Nat) (E : TypeId) : Filled (w.alloc (.cells (madeCells z N) E)) w.heap.size N E [] :=
  ⟨_, heap_alloc_new w _, size_madeCells z N, Nat.zero_le _, rfl⟩
theorem make_row {P : Program} (t e : TypeId) (i : TypeInfo) (z : Value) (ht : P.underlying t = some (.slice e)) (hi : P.info? e = some i) (hz : i.zero = some z) (n : Nat) (hn : n ≤ 16777216) (hb : i.bytes ≤ 256) (w : World) :
    (Instr.makeSlice t (.int .i64 (n : Int)) (.int .i64 (n : Int))).run P w = .ok (.slice (some ⟨w.heap.size, 0, none⟩) n n) (w.alloc (.cells (madeCells z.cells (n * i.size)) e)) := by
  have hbb : (i.bytes : Int) * (n : Int) ≤ 281474976710656 := by
    have h : i.bytes * n ≤ 256 * 16777216 := Nat.mul_le_mul hb hn
    have h2 : ((i.bytes * n : Nat) : Int) ≤ 281474976710656 := by omega
    rwa [Int.natCast_mul] at h2
  have hr := run_make (P := P) w t e i z ht hi hz .i64 .i64 (n : Int) (n : Int) (by omega) (Int.le_refl _) hbb (by omega)
  simpa using hr

/-! ### slices of strings -/
theorem flatS_len (l : List ByteArray) : (flat encS l).length = l.length := by rw [flat_length (size := 1) (fun _ => rfl), Nat.mul_one]
theorem flatS_take {l : List ByteArray} {k : Nat} (h : k < l.length) : flat encS (l.take (k + 1)) = flat encS (l.take k) ++ [.string l[k]] := by
  rw [List.take_succ_eq_append_getElem h, flat_snoc]; rfl
set_option maxHeartbeats 2000000 in
set_option maxRecDepth 100000 in
theorem toStringS_any (A : Option Addr) (c : Nat) (ss : List ByteArray) (w : World) (hs : Sl w encS 1 A ss) (hl : ss.length ≤ 16777216) :
    Calls Tryd.prog 16 #[.slice A ss.length c] w fun e w' => ∃ v, e = .returned v ∧ Own w' w.heap.size 9 1 encS v ss ∧ Below w.heap.size w w' := by
  obtain ⟨i0, hi0, hz0, hz1, hz2⟩ := info_parts str_info
  have hmk := make_row (P := Tryd.prog) 22 9 i0 _ Tryd.underlying22 hi0 hz0 ss.length hl (by omega)
  rw [hz1] at hmk
  have hfl := fun W : World => Filled.made W (Value.string ⟨#[]⟩).cells (ss.length * 1) 9
  have HFL := Lib.hid hfl
  have HS := Lib.hid hs
  clear hs hfl hi0 hz0 hz1 hz2
  generalize madeCells (Value.string ⟨#[]⟩).cells (ss.length * 1) = M at *
  go_enter Tryd.func16, Tryd.ntmps16
  go_wp2
  clear hmk
  go_loopw [4] (fun i wr => ∃ (k : Nat), k ≤ ss.length ∧ i = .int .i64 k ∧ Filled wr w.heap.size (ss.length * 1) 9 (flat encS (ss.take k)) ∧ Below w.heap.size w wr) (fun i _ => ss.length - (intOf i).toNat)
  case atStart => exact ⟨0, Nat.zero_le _, rfl, HFL.out w, (Below.refl _ _).alloc (Nat.le_refl _) _⟩
  case round =>
    obtain ⟨k, hk, rfl, hf, hb⟩ := hrel
    by_cases hlt : k < ss.length
    · obtain ⟨b, o, rfl, hc⟩ := (HS.out.below hb).getS hlt
      obtain ⟨u, hu⟩ := hf.cell (j := k) (by omega)
      have hfr := hf.free k
      have hlen : (flat encS (ss.take k)).length = k := by rw [flatS_len, List.length_take]; omega
      have hst := hf.store (.string ss[k]) (by omega)
      rw [hlen, ← flatS_take hlt] at hst
      have HST := Lib.hid hst
      clear hst hlen
      go_wp2
      first
        | (go_roundw
           case rel => exact ⟨k + 1, by omega, by go_num, HST.out, hb.setCell (Nat.le_refl _) _⟩
           case measure => simp [intOf]; omega)
        | (go_region
           all_goals
             go_wp2
             go_roundw
             case rel => exact ⟨k + 1, by omega, by go_num, HST.out, hb.setCell (Nat.le_refl _) _⟩
             case measure => simp [intOf]; omega)
    · go_wp2
      go_ret
      rw [List.take_of_length_le (by omega)] at hf
      exact ⟨_, rfl, hf.own (fun _ => rfl) (Nat.le_refl _) (by unfold maxLen; omega), hb⟩
/-- What a size check tells: if what is left is not negative, the strings are few and short. -/
def SizedS (ss : List ByteArray) (w : World) (e : Ending) (w' : World) : Prop :=
  ∃ r : Int, e = .returned (.int .i64 r) ∧ r ≤ 1048576 ∧ (0 ≤ r → ss.length ≤ 1048576 ∧ ∀ s ∈ ss, s.size ≤ 1048576) ∧ w = w'
def FitTo (ss : List ByteArray) (k : Nat) : Prop := ∀ s ∈ ss.take k, s.size ≤ 1048576
theorem FitTo.succ {ss : List ByteArray} {k : Nat} (h : FitTo ss k) (hk : k < ss.length) (hs : ss[k].size ≤ 1048576) : FitTo ss (k + 1) := by
  intro s hm
  rw [List.take_succ_eq_append_getElem hk, List.mem_append, List.mem_singleton] at hm
  rcases hm with hm | rfl
  · exact h s hm
  · exact hs
theorem FitTo.all {ss : List ByteArray} {k : Nat} (h : FitTo ss k) (hk : ¬ k < ss.length) : ∀ s ∈ ss, s.size ≤ 1048576 := by
  intro s hm; exact h s (by rw [List.take_of_length_le (by omega)]; exact hm)
set_option maxHeartbeats 2000000 in
set_option maxRecDepth 100000 in
theorem szStringS_any (A : Option Addr) (c : Nat) (ss : List ByteArray) (left : Int) (w : World) (hs : Sl w encS 1 A ss) (hl : ss.length ≤ maxLen) (hm : ∀ s ∈ ss, s.size ≤ maxLen) (h0 : 0 ≤ left) (h1 : left ≤ 1048576) :
    Calls Tryd.prog 14 #[.slice A ss.length c, .int .i64 left] w (SizedS ss w) := by
  have HS := Lib.hid hs
  have HM := Lib.hid hm
  unfold maxLen at hl
  clear hs hm
  by_cases hlen : (ss.length : Int) ≤ left
  · go_enter Tryd.func14, Tryd.ntmps14
    go_wp2
    go_loop [1, 5] (fun v i => ∃ (k : Nat) (L : Int), k ≤ ss.length ∧ i = .int .i64 k ∧ v = .int .i64 L ∧ 0 ≤ L ∧ L ≤ 1048576 ∧ FitTo ss k) (fun _ i => ss.length - (intOf i).toNat)
    case atStart => exact ⟨0, left - ss.length, Nat.zero_le _, rfl, rfl, by omega, by omega, by intro s hs; simp at hs⟩
    case round =>
      obtain ⟨k, L, hk, rfl, rfl, hL0, hL1, hft⟩ := hrel
      by_cases hlt : k < ss.length
      · obtain ⟨b, o, rfl, hc⟩ := HS.out.getS hlt
        have hms := HM.out ss[k] (by simp)
        unfold maxLen at hms
        by_cases hsz : (ss[k].size : Int) ≤ L
        · go_wp2
          go_round
          case rel => exact ⟨k + 1, _, by omega, by go_num, rfl, by omega, by omega, hft.succ hlt (by omega)⟩
          case measure => simp [intOf]; omega
        · go_wp2
          go_ret
          exact ⟨-1, rfl, by omega, fun h => absurd h (by omega), rfl⟩
      · go_wp2
        go_ret
        exact ⟨L, rfl, hL1, fun _ => ⟨by omega, hft.all hlt⟩, rfl⟩
  · go_enter Tryd.func14, Tryd.ntmps14
    go_wp2
    go_ret
    exact ⟨-1, rfl, by omega, fun h => absurd h (by omega), rfl⟩
/-- What is told of a slice of numbers that came in. -/
def IntsIn (w : World) (A : Option Addr) (n c : Nat) : Prop := ∃ l : List Int, l.length = n ∧ n ≤ c ∧ c ≤ maxLen ∧ Sl w encI 1 A l
/-- What is told of a slice of strings that came in. -/
def StrsIn (w : World) (A : Option Addr) (n c : Nat) : Prop := ∃ ss : List ByteArray, ss.length = n ∧ n ≤ c ∧ c ≤ maxLen ∧ Sl w encS 1 A ss ∧ ∀ s ∈ ss, s.size ≤ maxLen
end Go.Proofs.YthbdcmaloojngaaDoor
