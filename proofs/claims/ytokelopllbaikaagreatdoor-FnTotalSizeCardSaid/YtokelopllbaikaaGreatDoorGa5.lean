/- Texts in one: Ap, Mk, Nm, Fb, L1, Open, Open2. -/
import Derived.Test.YtokelopllbaikaaGreatDoorGa3
import Derived.Test.YtokelopllbaikaaGreatDoorGa4
import Derived.Test.YtokelopllbaikaaGreatDoorGa1
import Derived.Test.YtokelopllbaikaaGreatDoorRows
import Derived.Test.YtokelopllbaikaaGreatDoorRd
import Derived.ProofKit
import Derived.OpenShut
import Derived.ShutString
import Derived.ChangeOld
import Derived.SliceStrings
import Derived.Lib.SmallJoins
/- 'append' of one element onto a row of the call's own, telling besides what became of all other rows. -/
set_option linter.unusedVariables false
namespace Go.Proofs.YtokelopllbaikaaGreatDoor
open Go.RowKit

/-- w' is w but for new blocks and for the row that v owns. -/
def Grew (v : Value) (w w' : World) : Prop := w.grownBy w' v.ownBlock
/-- No slice at A lies in v's own block. -/
def Apart (A : Option Addr) (v : Value) : Prop := ∀ b o, A = some ⟨b, o, none⟩ → v.ownBlock ≠ some b
theorem Apart.nil (A : Option Addr) : Apart A (.slice none 0 0) := fun b o _ h => by simp [Value.ownBlock] at h
theorem Sl.grew {α : Type} {enc : α → List Value} {w w' : World} {size : Nat} {A : Option Addr} {l : List α} {v : Value} (h : Sl w enc size A l) (hg : Grew v w w') (ha : Apart A v) : Sl w' enc size A l := by
  intro hn
  obtain ⟨b, o, e, hc⟩ := h hn
  refine ⟨b, o, e, fun j u hu => ?_⟩
  have hcc := hc j u hu
  have hlt := World.block_lt_of_cell? w _ hcc
  rw [World.cell?_of_block (w := w) (hg.block b hlt (fun e2 => ha b o e (by rw [e2])))]; exact hcc
theorem Own.blk {α : Type} {enc : α → List Value} {w : World} {base size : Nat} {E : TypeId} {v : Value} {l : List α} (h : Own w base E size enc v l) : ∀ g, v.ownBlock = some g → base ≤ g ∧ g < w.heap.size := fun g hg => World.ownsRow.lt h g hg
theorem Sl.lt {α : Type} {enc : α → List Value} {w : World} {size : Nat} {A : Option Addr} {l : List α} (h : Sl w enc size A l) (he : ∀ x, (enc x).length = size) (hs : 0 < size) (hl : 0 < l.length) : ∀ b o, A = some ⟨b, o, none⟩ → b < w.heap.size := by
  intro b o e
  obtain ⟨b', o', e', hc⟩ := h hl
  have hpos : 0 < (flat enc l).length := by rw [flat_length he l]; exact Nat.mul_pos hl hs
  have h0 := hc 0 _ (List.getElem?_eq_getElem hpos)
  have hlt : b' < w.heap.size := World.block_lt_of_cell? w _ h0
  rw [e] at e'; injection e' with e'; injection e' with e1 _
  omega

section
variable {ops : Array Oper} {rest : List Oper} {o : Oper} {a : Act} {Q : Exit → Act → World → Prop} {w0 wr : World} {v : Value}
end
end Go.Proofs.YtokelopllbaikaaGreatDoor

/- Marks that a law writes into slices, and looks for afterwards. -/
set_option linter.unusedVariables false
namespace Go.Proofs.YtokelopllbaikaaGreatDoor
open Go.RowKit

/-! ### plain -/
def dgo : Nat → Nat → Bs → Bs
  | 0, _, acc => acc
  | f + 1, k, acc => if k = 0 then acc else dgo f (k / 10) (UInt8.ofNat (48 + k % 10) :: acc)
def MarkAt (k0 : Nat) (acc : Bs) (K : Nat) : Prop := ∃ f, K ≤ f ∧ dgo k0 k0 [] = dgo f K acc
theorem MarkAt.start (k0 : Nat) : MarkAt k0 [] k0 := ⟨k0, Nat.le_refl _, rfl⟩
theorem MarkAt.step {k0 : Nat} {acc : Bs} {K : Nat} (h : MarkAt k0 acc K) (hK : 0 < K) : MarkAt k0 (UInt8.ofNat (48 + K % 10) :: acc) (K / 10) := by
  obtain ⟨f, hf, e⟩ := h
  cases f with
  | zero => omega
  | succ f => exact ⟨f, by omega, by rw [e, dgo, if_neg (by omega)]⟩
theorem MarkAt.done {k0 : Nat} {acc : Bs} {K : Nat} (h : MarkAt k0 acc K) (hK : ¬ 0 < K) : dgo k0 k0 [] = acc := by
  obtain ⟨f, hf, e⟩ := h
  have : K = 0 := by omega
  subst this
  rw [e]
  cases f with
  | zero => rfl
  | succ f => rw [dgo, if_pos rfl]
/-! ### memory -/
theorem Own.grew {α : Type} {enc : α → List Value} {w w' : World} {base size : Nat} {E : TypeId} {u v : Value} {l : List α} (h : Own w base E size enc u l) (hg : Grew v w w') (hne : ∀ g, u.ownBlock = some g → v.ownBlock ≠ some g) : Own w' base E size enc u l := by
  refine World.ownsRow.kept h (row := v.ownBlock) hg ?_
  cases hu : u.ownBlock with
  | none => exact .inl rfl
  | some k => right; intro e; exact hne k hu e.symm
theorem Grew.below {w w' : World} {v : Value} (h : Below w.heap.size w w') : Grew v w w' := ⟨h.os, h.tape, h.output, h.size, fun k hk _ => h.block k hk⟩
theorem Grew.refl (v : Value) (w : World) : Grew v w w := ⟨rfl, rfl, rfl, Nat.le_refl _, fun _ _ _ => rfl⟩
theorem Grew.trans {v : Value} {w w1 w2 : World} (h : Grew v w w1) (h2 : Grew v w1 w2) : Grew v w w2 :=
  ⟨h2.os.trans h.os, h2.tape.trans h.tape, h2.output.trans h.output, Nat.le_trans h.size h2.size, fun k hk hne => (h2.block k (Nat.lt_of_lt_of_le hk h.size) hne).trans (h.block k hk hne)⟩
theorem Grew.set {v : Value} {w w1 : World} (h : Grew v w w1) {g o : Nat} (hv : v.ownBlock = some g) (u : Value) : Grew v w (w1.setCell ⟨g, o, none⟩ u) :=
  h.trans ⟨rfl, rfl, rfl, by simp [World.setCell], fun k hk hne => Below.heap_setCell _ _ _ _ (by rintro rfl; exact hne (by rw [hv]))⟩
/-- Below a base that is not above what v owns, nothing has turned. -/
theorem Grew.under {v : Value} {w0 w w' : World} (h : Grew v w w') (hb : Below w0.heap.size w0 w) (hv : ∀ g, v.ownBlock = some g → w0.heap.size ≤ g) : Below w0.heap.size w0 w' :=
  hb.trans ⟨h.os, h.tape, h.output, h.size, fun k hk => h.block k (Nat.lt_of_lt_of_le hk hb.size) (fun e => by have := hv k e.symm; omega)⟩
/-- A row that is owned, ready to be written anew. -/
theorem Own.row {α : Type} {enc : α → List Value} {w : World} {base size : Nat} {E : TypeId} {v : Value} {l : List α} (h : Own w base E size enc v l) (hl : 0 < l.length) :
    ∃ g cap, v = .slice (some ⟨g, 0, none⟩) l.length cap ∧ base ≤ g ∧ l.length ≤ cap ∧ cap ≤ maxLen ∧ Filled w g (cap * size) E [] := by
  rcases h.2 with ⟨hv, hn⟩ | ⟨g, cap, cur, hv, hg, hh, hnc, hcm, hsz, ht⟩
  · omega
  · exact ⟨g, cap, hv, hg, hnc, hcm, cur, hh, hsz, Nat.zero_le _, rfl⟩
/-! ### walks -/

/-! ### numbers -/
end Go.Proofs.YtokelopllbaikaaGreatDoor

/- Names: folds, Contains, ClashOf of the program. -/
set_option linter.unusedVariables false
namespace Go.Proofs.YtokelopllbaikaaGreatDoor
open Go.RowKit
attribute [local go_sem] mk_toList
/-! ### plain: the first index -/
def NotYet (l : List ByteArray) (x : ByteArray) (k : Nat) : Prop := ∀ y ∈ l.take k, (bs x == bs y) = false
theorem NotYet.succ {l : List ByteArray} {x : ByteArray} {k : Nat} (h : NotYet l x k) (hk : k < l.length) (hx : (bs x == bs l[k]) = false) : NotYet l x (k + 1) := by
  intro y hy
  rw [List.take_succ_eq_append_getElem hk, List.mem_append, List.mem_singleton] at hy
  rcases hy with hy | rfl
  · exact h y hy
  · exact hx
/-! ### folds -/
def folds (ss : List ByteArray) : List ByteArray := ss.map fun s => mk (foldName (bs s))
/-! ### clashes -/
theorem Sl.take {α : Type} {enc : α → List Value} {w : World} {size : Nat} {A : Option Addr} {l : List α} (h : Sl w enc size A l) (k : Nat) : Sl w enc size A (l.take k) := by
  intro hn
  obtain ⟨b, o, e, hc⟩ := h (by rw [List.length_take] at hn; omega)
  refine ⟨b, o, e, fun j u hu => hc j u ?_⟩
  have hf : flat enc l = flat enc (l.take k) ++ flat enc (l.drop k) := by rw [← flat_append, List.take_append_drop]
  rw [hf, List.getElem?_append_left (List.getElem?_eq_some_iff.1 hu).1]; exact hu
end Go.Proofs.YtokelopllbaikaaGreatDoor

/- strconv.FormatInt at base 16, walked. -/
set_option linter.unusedVariables false
namespace Go.Proofs.YtokelopllbaikaaGreatDoor
open Go.RowKit
--BEGIN
/-- The table by which trailing zeros are found: its place for 16. -/
theorem cell_allocQ {u : Value} {w : World} {x : Obj} {a : Addr} (hc : w.cell? a = some u) : (w.alloc x).cell? a = some u := (World.cell?_alloc_lt w x a (World.block_lt_of_cell? w _ hc)).trans hc
def TzL (w : World) : Prop := w.cell? ⟨5, 15, none⟩ = some (.int .u8 4)
theorem TzL.below {w w' : World} (h : TzL w) (hb : Below w.heap.size w w') : TzL w' := Below_cells hb _ _ _ h
set_option maxHeartbeats 2000000 in
set_option maxRecDepth 100000 in
theorem tz64_any (w : World) (ht : TzL w) : Calls Tryz.prog 149 #[.int .u64 16] w fun e w' => e = .returned (.int .i64 4) ∧ w = w' := by
  unfold TzL at ht
  have hA : bits .and .u64 16 (IntKind.u64.wrap (-16)) = 16 := by kernel_rfl
  have hW : IntKind.u64.wrap (16 * 285870213051353865) = 4573923408821661840 := by kernel_rfl
  go_enter Tryz.func149, Tryz.ntmps149
  go_wp2
  go_ret
  exact ⟨rfl, rfl⟩
set_option maxHeartbeats 2000000 in
set_option maxRecDepth 100000 in
theorem tz_any (w : World) (ht : TzL w) : Calls Tryz.prog 147 #[.int .u64 16] w fun e w' => e = .returned (.int .i64 4) ∧ w = w' := by
  have HT := Lib.hid ht
  clear ht
  go_enter Tryz.func147, Tryz.ntmps147
  go_wp2_with (go_at_call 149; refine (tz64_any _ HT.out).mono ?_; rintro e w' ⟨rfl, rfl⟩)
  go_ret
  exact ⟨rfl, rfl⟩
set_option maxHeartbeats 2000000 in
set_option maxRecDepth 100000 in
theorem pow2_any (w : World) : Calls Tryz.prog 146 #[.int .i64 16] w fun e w' => e = .returned (.bool true) ∧ w = w' := by
  go_enter Tryz.func146, Tryz.ntmps146
  go_wp2
  go_ret
  exact ⟨rfl, rfl⟩
/-- N is left, 'acc' stands behind. -/
def HexI (n0 N : Nat) (acc : Bs) : Prop := ∃ f, N < 16 ^ (f + 1) ∧ f + 1 + acc.length = 7 ∧ hexF 7 n0 = hexF (f + 1) N ++ acc
theorem HexI.start {n0 : Nat} (h : n0 ≤ 16777212) : HexI n0 n0 [] := by
  have e : (16 : Nat) ^ (6 + 1) = 268435456 := by decide
  exact ⟨6, by omega, rfl, by simp⟩
theorem HexI.step {n0 N : Nat} {acc : Bs} (h : HexI n0 N acc) (hN : 16 ≤ N) : HexI n0 (N / 16) (hexD (N % 16) :: acc) ∧ acc.length ≤ 5 := by
  obtain ⟨f, hf, hl, he⟩ := h
  cases f with
  | zero => simp at hf; omega
  | succ f =>
    refine ⟨⟨f, by rw [Nat.pow_succ] at hf; omega, by simp; omega, ?_⟩, by omega⟩
    rw [he, hexF, if_neg (by omega)]
    simp
theorem HexI.done {n0 N : Nat} {acc : Bs} (h : HexI n0 N acc) (hN : N < 16) : hexF 7 n0 = hexD N :: acc ∧ acc.length ≤ 6 := by
  obtain ⟨f, hf, hl, he⟩ := h
  refine ⟨?_, by omega⟩
  rw [he, hexF, if_pos hN]; rfl
def DigRow (wr : World) (g : Nat) (acc : Bs) : Prop := ∃ cs : Array Value, wr.heap[g]? = some (.cells cs 152 (0, 0)) ∧ cs.size = 65 ∧ cs.toList.drop (65 - acc.length) = acc.map fun c => Value.int .u8 (c.toNat : Int)
theorem DigRow.cell {wr : World} {g : Nat} {acc : Bs} (h : DigRow wr g acc) {j : Nat} (hj : j < 65) : ∃ u, wr.cell? ⟨g, j, none⟩ = some u := by
  obtain ⟨cs, hg, hs, _⟩ := h
  exact ⟨cs[j], by rw [cell_of_row wr g j cs _ (0, 0) hg, Array.getElem?_eq_getElem (by omega)]⟩
theorem DigRow.free {wr : World} {g : Nat} {acc : Bs} (h : DigRow wr g acc) (j : Nat) : wr.frozen? ⟨g, j, none⟩ = false := by
  obtain ⟨cs, hg, _⟩ := h
  exact frozen_of_row wr g j cs _ hg
theorem DigRow.store {wr : World} {g : Nat} {acc : Bs} (h : DigRow wr g acc) (c : UInt8) {j : Nat} (hj : j + 1 + acc.length = 65) : DigRow (wr.setCell ⟨g, j, none⟩ (.int .u8 (c.toNat : Int))) g (c :: acc) := by
  obtain ⟨cs, hg, hs, ht⟩ := h
  refine ⟨cs.setIfInBounds j (.int .u8 (c.toNat : Int)), heap_setCell_same wr g _ cs _ _ hg, by simpa using hs, ?_⟩
  have e1 : 65 - (c :: acc).length = j := by simp; omega
  have e2 : 65 - acc.length = j + 1 := by omega
  rw [e2] at ht
  rw [e1, Array.toList_setIfInBounds, List.drop_eq_getElem_cons (by simp; omega), List.getElem_set_self, List.drop_set_of_lt (by omega), ht]
  rfl
theorem ofInt_nat64 (a : Nat) (ha : a < 18446744073709551616) : (BitVec.ofInt 64 (a : Int)).toNat = a := by
  rw [BitVec.ofInt_natCast, BitVec.toNat_ofNat]; exact Nat.mod_eq_of_lt (by omega)
theorem u64_and15 (N : Nat) (h : N ≤ 16777212) : bits .and .u64 (N : Int) 15 = ((N % 16 : Nat) : Int) := by
  have e : N &&& 15 = N % 16 := Nat.and_two_pow_sub_one_eq_mod N 4
  show IntKind.u64.wrap ((BitVec.ofInt 64 (N : Int) &&& BitVec.ofInt 64 ((15 : Nat) : Int)).toNat : Int) = _
  rw [BitVec.toNat_and, ofInt_nat64 N (by omega), ofInt_nat64 15 (by omega), e, IntKind.wrap_u64]
  omega
def digs : ByteArray := ⟨#[48, 49, 50, 51, 52, 53, 54, 55, 56, 57, 97, 98, 99, 100, 101, 102, 103, 104, 105, 106, 107, 108, 109, 110, 111, 112, 113, 114, 115, 116, 117, 118, 119, 120, 121, 122]⟩
theorem digs_at (d : Nat) (h : d < 16) (h' : d < digs.size) : digs[d] = hexD d := by
  have key : ∀ d : Fin 16, digs[d.val]'(Nat.lt_trans d.isLt (by decide)) = hexD d.val := by decide
  exact key ⟨d, h⟩
theorem u64_shr4 (N : Nat) : (N : Int) / 16 = ((N / 16 : Nat) : Int) := by omega
theorem slice65 (W : World) (g k : Nat) (hk : k < 65) : (Instr.sliceAt 152 (.pointer (some ⟨g, 0, none⟩)) (some (.int .i64 (k : Int))) none none).run Tryz.prog W = .ok (.slice (some ⟨g, k, none⟩) (65 - k) (65 - k)) W := by
  have hl : Tryz.prog.arrayLen 152 = 65 := by kernel_rfl
  have hz : (sizeOf (Tryz.prog.elem 152)).run Tryz.prog W = .ok 1 W := by kernel_rfl
  have h := run_sliceAt_array_l (P := Tryz.prog) W 152 ⟨g, 0, none⟩ (by kernel_rfl) .i64 (k : Int) (by omega) (by rw [hl]; omega)
  rw [h, hz, hl]
  show Result.ok (slicedAt _ _ _ _ _) W = _
  unfold slicedAt
  rw [if_neg (by omega)]
  simp [Addr.add]
  omega
theorem DigRow.conv {W : World} {g : Nat} {acc : Bs} (h : DigRow W g acc) (h1 : 1 ≤ acc.length) (h2 : acc.length ≤ 65) : (convert 22 9 (.slice (some ⟨g, 65 - acc.length, none⟩) acc.length acc.length)).run Tryz.prog W = .ok (.string (mk acc)) W := by
  obtain ⟨cs, hg, hs, ht⟩ := h
  refine run_convert_bytes_back (P := Tryz.prog) W 22 9 5 ⟨g, 65 - acc.length, none⟩ acc.length acc Tryz.underlying22 Tryz.underlying5 Tryz.underlying9 ?_
  intro j hj
  have hadd : (⟨g, 65 - acc.length, none⟩ : Addr).add j = ⟨g, 65 - acc.length + j, none⟩ := by unfold Addr.add; split <;> simp_all
  rw [hadd, cell_of_row _ _ _ _ _ (0, 0) hg, ← Array.getElem?_toList]
  have : (cs.toList.drop (65 - acc.length))[j]? = (acc.map fun c => Value.int .u8 (c.toNat : Int))[j]? := by rw [ht]
  rw [List.getElem?_drop] at this
  rw [this, List.getElem?_map, List.getElem?_eq_getElem hj]; rfl
set_option maxHeartbeats 4000000 in
set_option maxRecDepth 100000 in
theorem formatBits_any (n : Nat) (w : World) (hn : n ≤ 16777212) (ht : TzL w) : Calls Tryz.prog 137 #[.slice none 0 0, .int .u64 (n : Int), .int .i64 16, .bool false, .bool false] w fun e w' => e = .returned (.tuple #[.slice none 0 0, .string (mk (hexF 7 n))]) ∧ Below w.heap.size w w' := by
  have HT := Lib.hid ht
  clear ht
  have hz : ∀ w, (zeroValue 152).run Tryz.prog w = .ok (.agg (Array.replicate 65 (.int .u8 0))) w := fun w => by kernel_rfl
  have HZ := Lib.hid (show (Array.replicate 65 (Value.int .u8 0)).size = 65 by rfl)
  generalize Array.replicate 65 (Value.int .u8 0) = Z at *
  go_enter Tryz.func137, Tryz.ntmps137
  go_wp2_with (first
    | (go_at_call 146; refine (pow2_any _).mono ?_; rintro e w' ⟨rfl, rfl⟩)
    | (go_at_call 147; refine (tz_any _ (cell_allocQ HT.out)).mono ?_; rintro e w' ⟨rfl, rfl⟩))
  go_loopw [1, 13] (fun u i wr => ∃ (N : Nat) (acc : Bs), u = .int .u64 (N : Int) ∧ i = .int .i64 ((65 - acc.length : Nat) : Int) ∧ N ≤ n ∧ acc.length ≤ 6 ∧ Hid (HexI n N acc) ∧ Hid (DigRow wr w.heap.size acc) ∧ Hid (Below w.heap.size w wr)) (fun u _ _ => (intOf u).toNat)
  case atStart => exact ⟨n, [], rfl, rfl, Nat.le_refl _, by simp, HexI.start hn, ⟨Z, heap_alloc_new w _, HZ.out, by rw [List.drop_eq_nil_of_le (by rw [Array.length_toList, HZ.out]; simp)]; rfl⟩, (Below.refl _ _).alloc (Nat.le_refl _) _⟩
  case round =>
    obtain ⟨N, acc, rfl, rfl, hN, hal, HI, HD, HB⟩ := hrel
    by_cases hlt : 16 ≤ N
    · obtain ⟨u0, hu0⟩ := HD.out.cell (j := 64 - acc.length) (by omega)
      have hfr := HD.out.free (64 - acc.length)
      have hand := u64_and15 N (by omega)
      have hlt' : (16 : Int) ≤ (N : Int) := by omega
      have e1 : (((65 - acc.length : Nat) : Int) - 1) = ((64 - acc.length : Nat) : Int) := by omega
      obtain ⟨hst, hac⟩ := HI.out.step hlt
      have HST := Lib.hid hst
      have hd := fun h' => digs_at (N % 16) (by omega) h'
      unfold digs at hd
      have HSD := Lib.hid (HD.out.store (hexD (N % 16)) (j := 64 - acc.length) (by omega))
      have HSB := Lib.hid (fun u => HB.out.setCell (p := ⟨w.heap.size, 64 - acc.length, none⟩) (Nat.le_refl _) u)
      clear hst
      go_wp2
      go_roundw
      case rel => exact ⟨N / 16, hexD (N % 16) :: acc, by rw [u64_shr4], by rw [List.length_cons, show 65 - (acc.length + 1) = 64 - acc.length by omega], by omega, by rw [List.length_cons]; omega, HST.out, HSD.out, HSB.out _⟩
      case measure => simp [intOf]; omega
    · obtain ⟨u0, hu0⟩ := HD.out.cell (j := 64 - acc.length) (by omega)
      have hfr := HD.out.free (64 - acc.length)
      have hlt' : ¬ (16 : Int) ≤ (N : Int) := by omega
      have e1 : (((65 - acc.length : Nat) : Int) - 1) = ((64 - acc.length : Nat) : Int) := by omega
      obtain ⟨hdn, hac⟩ := HI.out.done (by omega)
      have HDN := Lib.hid hdn
      have hd := fun h' => digs_at N (by omega) h'
      unfold digs at hd
      have HSD := Lib.hid (HD.out.store (hexD N) (j := 64 - acc.length) (by omega))
      have HSB := Lib.hid (fun u => HB.out.setCell (p := ⟨w.heap.size, 64 - acc.length, none⟩) (Nat.le_refl _) u)
      have hsl := fun W => slice65 W w.heap.size (64 - acc.length) (by omega)
      rw [show 65 - (64 - acc.length) = acc.length + 1 by omega] at hsl
      have hcv := HSD.out.conv (by simp) (by simp; omega)
      rw [List.length_cons, show 65 - (acc.length + 1) = 64 - acc.length by omega, ← HDN.out] at hcv
      clear hdn
      go_wp2
      go_ret2
      exact ⟨rfl, HSB.out _⟩
set_option maxHeartbeats 4000000 in
set_option maxRecDepth 100000 in
theorem fmtInt_any (n : Nat) (w : World) (hn : n ≤ 16777212) (ht : TzL w) : Calls Tryz.prog 122 #[.int .i64 (n : Int), .int .i64 16] w fun e w' => e = .returned (.string (mk (hexF 7 n))) ∧ Below w.heap.size w w' := by
  have HF := Lib.hid (formatBits_any n w hn ht)
  have hw : IntKind.u64.wrap (n : Int) = (n : Int) := by rw [IntKind.wrap_u64]; omega
  clear ht
  go_enter Tryz.func122, Tryz.ntmps122
  go_wp2_with fail
  refine HF.out.mono ?_
  rintro e w1 ⟨rfl, hb⟩
  have HB := Lib.hid hb
  clear hb
  go_wp2
  go_ret
  exact ⟨rfl, HB.out⟩
set_option maxHeartbeats 4000000 in
set_option maxRecDepth 100000 in
theorem FormatInt_any (n : Nat) (w : World) (hn : n ≤ 16777212) (ht : TzL w) : Calls Tryz.prog 104 #[.int .i64 (n : Int), .int .i64 16] w fun e w' => e = .returned (.string (mk (hexF 7 n))) ∧ Below w.heap.size w w' := by
  have HF := Lib.hid (fmtInt_any n w hn ht)
  clear ht
  go_enter Tryz.func104, Tryz.ntmps104
  go_wp2_with fail
  refine HF.out.mono ?_
  rintro e w1 ⟨rfl, hb⟩
  have HB := Lib.hid hb
  clear hb
  go_wp2
  go_ret
  exact ⟨rfl, HB.out⟩
set_option maxHeartbeats 4000000 in
set_option maxRecDepth 100000 in
theorem iHexText_any (n : Int) (w : World) (ht : TzL w) : Calls Tryz.prog 79 #[.int .i64 n] w fun e w' => e = .returned (.string (mk (hexT n))) ∧ Below w.heap.size w w' := by
  cases hp : pv n
  · have E := Lib.hid (hexT_bad hp)
    have hP := fun w => iprintValid_any n w
    rw [hp] at hP
    have HP := Lib.hid hP
    clear ht hp hP
    rw [E.out]
    go_enter Tryz.func79, Tryz.ntmps79
    go_wp2_with (go_at_call 101; refine (HP.out _).mono ?_; rintro e w' ⟨rfl, rfl⟩)
    go_ret
    exact ⟨rfl, Below.refl _ _⟩
  · have h2 := pv_iff.1 hp
    obtain ⟨m, rfl⟩ := Int.eq_ofNat_of_zero_le h2.1
    have E := Lib.hid (hexT_ok (n := m) (by omega))
    have hP := fun w => iprintValid_any (m : Int) w
    rw [hp] at hP
    have HP := Lib.hid hP
    have HF := Lib.hid (FormatInt_any m w (by omega) ht)
    clear ht hp hP h2
    rw [E.out]
    go_enter Tryz.func79, Tryz.ntmps79
    go_wp2_with (first
      | (go_at_call 101; refine (HP.out _).mono ?_; rintro e w' ⟨rfl, rfl⟩)
      | (go_at_call 104; refine HF.out.mono ?_; rintro e w1 ⟨rfl, hb⟩; have HB := Lib.hid hb; clear hb))
    go_ret
    exact ⟨rfl, HB.out⟩
end Go.Proofs.YtokelopllbaikaaGreatDoor

/- Laws' walks: FnExactSpotOf, FnExactFoldName, FnFoldName. -/
set_option linter.unusedVariables false
namespace Go.Proofs.YtokelopllbaikaaGreatDoor
open Go.RowKit
attribute [local go_sem] mk_toList

/-- A law's end: true, and nothing that was there has turned. -/
def LawOk (w : World) (e : Ending) (w' : World) : Prop := e = .returned (.bool true) ∧ Below w.heap.size w w'

set_option maxHeartbeats 2000000 in
set_option maxRecDepth 100000 in
theorem alive_any (w : World) : Calls Tryz.prog 10 #[] w fun e w' => e = .returned (.bool true) ∧ w = w' := by
  have h1 : wordV (bs ⟨#[97, 49]⟩) = true := by decide
  have h2 : wordV (bs ⟨#[49, 97]⟩) = false := by decide
  go_enter Tryz.func10, Tryz.ntmps10
  go_wp2_with (go_at_call 26; refine (iWordValid_any _ _ (by decide)).mono ?_; rintro e w' ⟨rfl, rfl⟩)
  go_ret
  exact ⟨rfl, rfl⟩

/-! ### spots -/
/-! ### folded names -/
end Go.Proofs.YtokelopllbaikaaGreatDoor

/- Arguments that came in, opened into this proof's own words. -/
set_option linter.unusedVariables false
namespace Go.Proofs.YtokelopllbaikaaGreatDoor
open Go.ChangeShapes Go.WideShapes Go.ChangeAt Go.RowKit
open Go.ChangeMaps (open_string shut_string)

theorem own : ownKnob Tryz.prog.godebug = none := by kernel_rfl
theorem laidOut : laidOutB Tryz.prog = true := by kernel_rfl

theorem sl_of_add {α : Type} {enc : α → List Value} {w : World} {size : Nat} {x : Addr} {l : List α} (hsz : 0 < size) (he : ∀ y, (enc y).length = size)
    (hc : ∀ j u, (flat enc l)[j]? = some u → w.cell? (x.add j) = some u) : Sl w enc size (some x) l := by
  intro hn
  obtain ⟨b, o, sp⟩ := x
  have hlen := flat_length he l
  have hpos : 0 < (flat enc l).length := by rw [hlen]; exact Nat.mul_pos hn hsz
  have h0 := hc 0 _ (List.getElem?_eq_getElem hpos)
  have hsp : sp = none := by
    have e : (⟨b, o, sp⟩ : Addr).add 0 = ⟨b, o, sp⟩ := rfl
    rw [e] at h0
    unfold World.cell? at h0
    split at h0
    · cases sp with
      | none => rfl
      | some s => simp at h0
    · cases h0
  subst hsp
  refine ⟨b, o, rfl, fun j u hu => ?_⟩
  have := hc j u hu
  have hadd : (⟨b, o, none⟩ : Addr).add j = ⟨b, o + j, none⟩ := by unfold Addr.add; split <;> simp_all
  rw [hadd] at this; exact this

section
variable {H : Type} {enc : TypeId × Value → H} {W : World} {a : Option Addr} {n c : Nat} {d : DataW H} {p : List MemPlace}
theorem openBytes (h : DataW.Trod enc Tryz.prog W 0 (fun _ => true) true 22 (.slice a n c) d p) : BytesIn W a n c := by
  obtain ⟨fuel, hf⟩ := h
  rcases open_ints Tryz.underlying22 Tryz.underlying5 (by kernel_rfl) hf with ⟨hcs, _⟩ | ⟨x, l, cp, zs, hcs, _, hl, hm, hz, _, hcell, hwz⟩
  · simp [Value.cells] at hcs
    obtain ⟨rfl, rfl, rfl⟩ := hcs
    exact ⟨[], rfl, Nat.le_refl _, by unfold maxLen; omega, Sl.none_⟩
  · simp [Value.cells] at hcs
    obtain ⟨rfl, rfl, rfl⟩ := hcs
    simp at hz
    refine ⟨(zs.take n).map fun z => UInt8.ofNat z.toNat, by simp; omega, hl, hm, sl_of_add (by omega) (fun _ => rfl) fun j u hu => ?_⟩
    have hj : j < n := by
      have := (List.getElem?_eq_some_iff.1 hu).1
      rw [flat_length (size := 1) (fun _ => rfl)] at this
      simp at this; omega
    have hjl : j < ((zs.take n).map fun z => UInt8.ofNat z.toNat).length := by simp; omega
    have hg := flat_get (enc := encB) (size := 1) (fun _ => rfl) _ j hjl 0 (by omega)
    simp only [Nat.mul_one, Nat.add_zero] at hg
    rw [hg] at hu
    simp [encB] at hu
    rw [hcell j (by omega), ← hu]
    have hmem : zs.getD j 0 ∈ zs := by
      rw [List.getD_eq_getElem?_getD, List.getElem?_eq_getElem (by omega)]; exact List.getElem_mem _
    have hwf := hwz _ hmem
    have hb : 0 ≤ zs.getD j 0 ∧ zs.getD j 0 ≤ 255 := bounds_u8 hwf
    have hgd : zs.getD j 0 = zs[j]'(by omega) := by rw [List.getD_eq_getElem?_getD, List.getElem?_eq_getElem (by omega)]; rfl
    rw [hgd] at hb ⊢
    congr 2
    omega
end
end Go.Proofs.YtokelopllbaikaaGreatDoor

/- Arguments that came in, opened: structs by value, slices of strings, numbers, structs. -/
set_option linter.unusedVariables false
namespace Go.Proofs.YtokelopllbaikaaGreatDoor
open Go.ChangeShapes Go.WideShapes Go.ChangeAt Go.RowKit
open Go.ChangeMaps (open_string shut_string)
section
variable {H : Type} {enc : TypeId × Value → H} {W : World} {a : Option Addr} {n c : Nat} {d : DataW H} {p : List MemPlace}


end
end Go.Proofs.YtokelopllbaikaaGreatDoor
