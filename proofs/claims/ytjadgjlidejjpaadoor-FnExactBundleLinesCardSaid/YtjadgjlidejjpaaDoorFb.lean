/- strconv.FormatInt at base 16, walked. -/
import Derived.Test.YtjadgjlidejjpaaDoorHx
import Derived.Test.YtjadgjlidejjpaaDoorW1
import Derived.Test.YtjadgjlidejjpaaDoorSl
set_option linter.unusedVariables false
namespace Go.Proofs.YtjadgjlidejjpaaDoor
open Go.RowKit
--BEGIN
/-- The table by which trailing zeros are found: its place for 16. -/
theorem cell_allocQ {u : Value} {w : World} {x : Obj} {a : Addr} (hc : w.cell? a = some u) : (w.alloc x).cell? a = some u := (World.cell?_alloc_lt w x a (World.block_lt_of_cell? w _ hc)).trans hc
def TzL (w : World) : Prop := w.cell? ⟨2, 15, none⟩ = some (.int .u8 4)
theorem TzL.below {w w' : World} (h : TzL w) (hb : Below w.heap.size w w') : TzL w' := Below_cells hb _ _ _ h
set_option maxHeartbeats 2000000 in
set_option maxRecDepth 100000 in
theorem tz64_any (w : World) (ht : TzL w) : Calls Tryd.prog 39 #[.int .u64 16] w fun e w' => e = .returned (.int .i64 4) ∧ w = w' := by
  unfold TzL at ht
  have hA : bits .and .u64 16 (IntKind.u64.wrap (-16)) = 16 := by kernel_rfl
  have hW : IntKind.u64.wrap (16 * 285870213051353865) = 4573923408821661840 := by kernel_rfl
  go_enter Tryd.func39, Tryd.ntmps39
  go_wp2
  go_ret
  exact ⟨rfl, rfl⟩
set_option maxHeartbeats 2000000 in
set_option maxRecDepth 100000 in
theorem tz_any (w : World) (ht : TzL w) : Calls Tryd.prog 37 #[.int .u64 16] w fun e w' => e = .returned (.int .i64 4) ∧ w = w' := by
  have HT := Lib.hid ht
  clear ht
  go_enter Tryd.func37, Tryd.ntmps37
  go_wp2_with (go_at_call 39; refine (tz64_any _ HT.out).mono ?_; rintro e w' ⟨rfl, rfl⟩)
  go_ret
  exact ⟨rfl, rfl⟩
set_option maxHeartbeats 2000000 in
set_option maxRecDepth 100000 in
theorem pow2_any (w : World) : Calls Tryd.prog 36 #[.int .i64 16] w fun e w' => e = .returned (.bool true) ∧ w = w' := by
  go_enter Tryd.func36, Tryd.ntmps36
  go_wp2
  go_ret
  exact ⟨rfl, rfl⟩
/-- N is left, 'acc' stands behind. -/
def HexI (n0 N : Nat) (acc : Bs) : Prop := ∃ f, N < 16 ^ (f + 1) ∧ f + 1 + acc.length = 7 ∧ hexF 7 n0 = hexF (f + 1) N ++ acc
theorem HexI.start {n0 : Nat} (h : n0 ≤ 16777212) : HexI n0 n0 [] := by
  have e : (16 : Nat) ^ (6 + 1) = 268435456 := by decide
  exact ⟨6, by omega, rfl, by simp⟩
theorem HexI.step {n0 N : Nat} {acc : Bs} (h : HexI n0 N acc) (hN : 16 ≤ N) : HexI n0 (N / 16) (hexD (N % 16) :: acc) ∧ acc.length ≤ 5 := by
  obtain ⟨f, hf, hl, he⟩ := h
  cases f with
  | zero => simp at hf; omega
  | succ f =>
    refine ⟨⟨f, by rw [Nat.pow_succ] at hf; omega, by simp; omega, ?_⟩, by omega⟩
    rw [he, hexF, if_neg (by omega)]
    simp
theorem HexI.done {n0 N : Nat} {acc : Bs} (h : HexI n0 N acc) (hN : N < 16) : hexF 7 n0 = hexD N :: acc ∧ acc.length ≤ 6 := by
  obtain ⟨f, hf, hl, he⟩ := h
  refine ⟨?_, by omega⟩
  rw [he, hexF, if_pos hN]; rfl
def DigRow (wr : World) (g : Nat) (acc : Bs) : Prop := ∃ cs : Array Value, wr.heap[g]? = some (.cells cs 57 (0, 0)) ∧ cs.size = 65 ∧ cs.toList.drop (65 - acc.length) = acc.map fun c => Value.int .u8 (c.toNat : Int)
theorem DigRow.cell {wr : World} {g : Nat} {acc : Bs} (h : DigRow wr g acc) {j : Nat} (hj : j < 65) : ∃ u, wr.cell? ⟨g, j, none⟩ = some u := by
  obtain ⟨cs, hg, hs, _⟩ := h
  exact ⟨cs[j], by rw [cell_of_row wr g j cs _ (0, 0) hg, Array.getElem?_eq_getElem (by omega)]⟩
theorem DigRow.free {wr : World} {g : Nat} {acc : Bs} (h : DigRow wr g acc) (j : Nat) : wr.frozen? ⟨g, j, none⟩ = false := by
  obtain ⟨cs, hg, _⟩ := h
  exact frozen_of_row wr g j cs _ hg
theorem DigRow.store {wr : World} {g : Nat} {acc : Bs} (h : DigRow wr g acc) (c : UInt8) {j : Nat} (hj : j + 1 + acc.length = 65) : DigRow (wr.setCell ⟨g, j, none⟩ (.int .u8 (c.toNat : Int))) g (c :: acc) := by
  obtain ⟨cs, hg, hs, ht⟩ := h
  refine ⟨cs.setIfInBounds j (.int .u8 (c.toNat : Int)), heap_setCell_same wr g _ cs _ _ hg, by simpa using hs, ?_⟩
  have e1 : 65 - (c :: acc).length = j := by simp; omega
  have e2 : 65 - acc.length = j + 1 := by omega
  rw [e2] at ht
  rw [e1, Array.toList_setIfInBounds, List.drop_eq_getElem_cons (by simp; omega), List.getElem_set_self, List.drop_set_of_lt (by omega), ht]
  rfl
theorem ofInt_nat64 (a : Nat) (ha : a < 18446744073709551616) : (BitVec.ofInt 64 (a : Int)).toNat = a := by
  rw [BitVec.ofInt_natCast, BitVec.toNat_ofNat]; exact Nat.mod_eq_of_lt (by omega)
theorem u64_and15 (N : Nat) (h : N ≤ 16777212) : bits .and .u64 (N : Int) 15 = ((N % 16 : Nat) : Int) := by
  have e : N &&& 15 = N % 16 := Nat.and_two_pow_sub_one_eq_mod N 4
  show IntKind.u64.wrap ((BitVec.ofInt 64 (N : Int) &&& BitVec.ofInt 64 ((15 : Nat) : Int)).toNat : Int) = _
  rw [BitVec.toNat_and, ofInt_nat64 N (by omega), ofInt_nat64 15 (by omega), e, IntKind.wrap_u64]
  omega
def digs : ByteArray := ⟨#[48, 49, 50, 51, 52, 53, 54, 55, 56, 57, 97, 98, 99, 100, 101, 102, 103, 104, 105, 106, 107, 108, 109, 110, 111, 112, 113, 114, 115, 116, 117, 118, 119, 120, 121, 122]⟩
theorem digs_at (d : Nat) (h : d < 16) (h' : d < digs.size) : digs[d] = hexD d := by
  have key : ∀ d : Fin 16, digs[d.val]'(Nat.lt_trans d.isLt (by decide)) = hexD d.val := by decide
  exact key ⟨d, h⟩
theorem u64_shr4 (N : Nat) : (N : Int) / 16 = ((N / 16 : Nat) : Int) := by omega
theorem slice65 (W : World) (g k : Nat) (hk : k < 65) : (Instr.sliceAt 57 (.pointer (some ⟨g, 0, none⟩)) (some (.int .i64 (k : Int))) none none).run Tryd.prog W = .ok (.slice (some ⟨g, k, none⟩) (65 - k) (65 - k)) W := by
  have hl : Tryd.prog.arrayLen 57 = 65 := by kernel_rfl
  have hz : (sizeOf (Tryd.prog.elem 57)).run Tryd.prog W = .ok 1 W := by kernel_rfl
  have h := run_sliceAt_array_l (P := Tryd.prog) W 57 ⟨g, 0, none⟩ (by kernel_rfl) .i64 (k : Int) (by omega) (by rw [hl]; omega)
  rw [h, hz, hl]
  show Result.ok (slicedAt _ _ _ _ _) W = _
  unfold slicedAt
  rw [if_neg (by omega)]
  simp [Addr.add]
  omega
theorem DigRow.conv {W : World} {g : Nat} {acc : Bs} (h : DigRow W g acc) (h1 : 1 ≤ acc.length) (h2 : acc.length ≤ 65) : (convert 46 9 (.slice (some ⟨g, 65 - acc.length, none⟩) acc.length acc.length)).run Tryd.prog W = .ok (.string (mk acc)) W := by
  obtain ⟨cs, hg, hs, ht⟩ := h
  refine run_convert_bytes_back (P := Tryd.prog) W 46 9 5 ⟨g, 65 - acc.length, none⟩ acc.length acc Tryd.underlying46 Tryd.underlying5 Tryd.underlying9 ?_
  intro j hj
  have hadd : (⟨g, 65 - acc.length, none⟩ : Addr).add j = ⟨g, 65 - acc.length + j, none⟩ := by unfold Addr.add; split <;> simp_all
  rw [hadd, cell_of_row _ _ _ _ _ (0, 0) hg, ← Array.getElem?_toList]
  have : (cs.toList.drop (65 - acc.length))[j]? = (acc.map fun c => Value.int .u8 (c.toNat : Int))[j]? := by rw [ht]
  rw [List.getElem?_drop] at this
  rw [this, List.getElem?_map, List.getElem?_eq_getElem hj]; rfl
set_option maxHeartbeats 4000000 in
set_option maxRecDepth 100000 in
theorem formatBits_any (n : Nat) (w : World) (hn : n ≤ 16777212) (ht : TzL w) : Calls Tryd.prog 32 #[.slice none 0 0, .int .u64 (n : Int), .int .i64 16, .bool false, .bool false] w fun e w' => e = .returned (.tuple #[.slice none 0 0, .string (mk (hexF 7 n))]) ∧ Below w.heap.size w w' := by
  have HT := Lib.hid ht
  clear ht
  have hz : ∀ w, (zeroValue 57).run Tryd.prog w = .ok (.agg (Array.replicate 65 (.int .u8 0))) w := fun w => by kernel_rfl
  have HZ := Lib.hid (show (Array.replicate 65 (Value.int .u8 0)).size = 65 by rfl)
  generalize Array.replicate 65 (Value.int .u8 0) = Z at *
  go_enter Tryd.func32, Tryd.ntmps32
  go_wp2_with (first
    | (go_at_call 36; refine (pow2_any _).mono ?_; rintro e w' ⟨rfl, rfl⟩)
    | (go_at_call 37; refine (tz_any _ (cell_allocQ HT.out)).mono ?_; rintro e w' ⟨rfl, rfl⟩))
  go_loopw [1, 13] (fun u i wr => ∃ (N : Nat) (acc : Bs), u = .int .u64 (N : Int) ∧ i = .int .i64 ((65 - acc.length : Nat) : Int) ∧ N ≤ n ∧ acc.length ≤ 6 ∧ Hid (HexI n N acc) ∧ Hid (DigRow wr w.heap.size acc) ∧ Hid (Below w.heap.size w wr)) (fun u _ _ => (intOf u).toNat)
  case atStart => exact ⟨n, [], rfl, rfl, Nat.le_refl _, by simp, HexI.start hn, ⟨Z, heap_alloc_new w _, HZ.out, by rw [List.drop_eq_nil_of_le (by rw [Array.length_toList, HZ.out]; simp)]; rfl⟩, (Below.refl _ _).alloc (Nat.le_refl _) _⟩
  case round =>
    obtain ⟨N, acc, rfl, rfl, hN, hal, HI, HD, HB⟩ := hrel
    by_cases hlt : 16 ≤ N
    · obtain ⟨u0, hu0⟩ := HD.out.cell (j := 64 - acc.length) (by omega)
      have hfr := HD.out.free (64 - acc.length)
      have hand := u64_and15 N (by omega)
      have hlt' : (16 : Int) ≤ (N : Int) := by omega
      have e1 : (((65 - acc.length : Nat) : Int) - 1) = ((64 - acc.length : Nat) : Int) := by omega
      obtain ⟨hst, hac⟩ := HI.out.step hlt
      have HST := Lib.hid hst
      have hd := fun h' => digs_at (N % 16) (by omega) h'
      unfold digs at hd
      have HSD := Lib.hid (HD.out.store (hexD (N % 16)) (j := 64 - acc.length) (by omega))
      have HSB := Lib.hid (fun u => HB.out.setCell (p := ⟨w.heap.size, 64 - acc.length, none⟩) (Nat.le_refl _) u)
      clear hst
      go_wp2
      go_roundw
      case rel => exact ⟨N / 16, hexD (N % 16) :: acc, by rw [u64_shr4], by rw [List.length_cons, show 65 - (acc.length + 1) = 64 - acc.length by omega], by omega, by rw [List.length_cons]; omega, HST.out, HSD.out, HSB.out _⟩
      case measure => simp [intOf]; omega
    · obtain ⟨u0, hu0⟩ := HD.out.cell (j := 64 - acc.length) (by omega)
      have hfr := HD.out.free (64 - acc.length)
      have hlt' : ¬ (16 : Int) ≤ (N : Int) := by omega
      have e1 : (((65 - acc.length : Nat) : Int) - 1) = ((64 - acc.length : Nat) : Int) := by omega
      obtain ⟨hdn, hac⟩ := HI.out.done (by omega)
      have HDN := Lib.hid hdn
      have hd := fun h' => digs_at N (by omega) h'
      unfold digs at hd
      have HSD := Lib.hid (HD.out.store (hexD N) (j := 64 - acc.length) (by omega))
      have HSB := Lib.hid (fun u => HB.out.setCell (p := ⟨w.heap.size, 64 - acc.length, none⟩) (Nat.le_refl _) u)
      have hsl := fun W => slice65 W w.heap.size (64 - acc.length) (by omega)
      rw [show 65 - (64 - acc.length) = acc.length + 1 by omega] at hsl
      have hcv := HSD.out.conv (by simp) (by simp; omega)
      rw [List.length_cons, show 65 - (acc.length + 1) = 64 - acc.length by omega, ← HDN.out] at hcv
      clear hdn
      go_wp2
      go_ret2
      exact ⟨rfl, HSB.out _⟩
set_option maxHeartbeats 4000000 in
set_option maxRecDepth 100000 in
theorem fmtInt_any (n : Nat) (w : World) (hn : n ≤ 16777212) (ht : TzL w) : Calls Tryd.prog 28 #[.int .i64 (n : Int), .int .i64 16] w fun e w' => e = .returned (.string (mk (hexF 7 n))) ∧ Below w.heap.size w w' := by
  have HF := Lib.hid (formatBits_any n w hn ht)
  have hw : IntKind.u64.wrap (n : Int) = (n : Int) := by rw [IntKind.wrap_u64]; omega
  clear ht
  go_enter Tryd.func28, Tryd.ntmps28
  go_wp2_with fail
  refine HF.out.mono ?_
  rintro e w1 ⟨rfl, hb⟩
  have HB := Lib.hid hb
  clear hb
  go_wp2
  go_ret
  exact ⟨rfl, HB.out⟩
set_option maxHeartbeats 4000000 in
set_option maxRecDepth 100000 in
theorem FormatInt_any (n : Nat) (w : World) (hn : n ≤ 16777212) (ht : TzL w) : Calls Tryd.prog 27 #[.int .i64 (n : Int), .int .i64 16] w fun e w' => e = .returned (.string (mk (hexF 7 n))) ∧ Below w.heap.size w w' := by
  have HF := Lib.hid (fmtInt_any n w hn ht)
  clear ht
  go_enter Tryd.func27, Tryd.ntmps27
  go_wp2_with fail
  refine HF.out.mono ?_
  rintro e w1 ⟨rfl, hb⟩
  have HB := Lib.hid hb
  clear hb
  go_wp2
  go_ret
  exact ⟨rfl, HB.out⟩
set_option maxHeartbeats 4000000 in
set_option maxRecDepth 100000 in
theorem iHexText_any (n : Int) (w : World) (ht : TzL w) : Calls Tryd.prog 18 #[.int .i64 n] w fun e w' => e = .returned (.string (mk (hexT n))) ∧ Below w.heap.size w w' := by
  cases hp : pv n
  · have E := Lib.hid (hexT_bad hp)
    have hP := fun w => iprintValid_any n w
    rw [hp] at hP
    have HP := Lib.hid hP
    clear ht hp hP
    rw [E.out]
    go_enter Tryd.func18, Tryd.ntmps18
    go_wp2_with (go_at_call 26; refine (HP.out _).mono ?_; rintro e w' ⟨rfl, rfl⟩)
    go_ret
    exact ⟨rfl, Below.refl _ _⟩
  · have h2 := pv_iff.1 hp
    obtain ⟨m, rfl⟩ := Int.eq_ofNat_of_zero_le h2.1
    have E := Lib.hid (hexT_ok (n := m) (by omega))
    have hP := fun w => iprintValid_any (m : Int) w
    rw [hp] at hP
    have HP := Lib.hid hP
    have HF := Lib.hid (FormatInt_any m w (by omega) ht)
    clear ht hp hP h2
    rw [E.out]
    go_enter Tryd.func18, Tryd.ntmps18
    go_wp2_with (first
      | (go_at_call 26; refine (HP.out _).mono ?_; rintro e w' ⟨rfl, rfl⟩)
      | (go_at_call 27; refine HF.out.mono ?_; rintro e w1 ⟨rfl, hb⟩; have HB := Lib.hid hb; clear hb))
    go_ret
    exact ⟨rfl, HB.out⟩
end Go.Proofs.YtjadgjlidejjpaaDoor
