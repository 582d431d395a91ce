/- The reader of drawn inputs: 'l20Open', 'pick', 'odd'. -/
import Derived.Test.YtokelopllbaikaaGreatDoorGa1
import Derived.Laws.BitsAllLaws
import Derived.Laws.BitsLemmas
set_option linter.unusedVariables false
namespace Go.Proofs.YtokelopllbaikaaGreatDoor
open Go.RowKit

def encB (c : UInt8) : List Value := [.int .u8 (c.toNat : Int)]
theorem Sl.getB {w : World} {A : Option Addr} {l : List UInt8} {k : Nat} (h : Sl w encB 1 A l) (hk : k < l.length) :
    ∃ b o, A = some ⟨b, o, none⟩ ∧ w.cell? ⟨b, o + k, none⟩ = some (.int .u8 (l[k].toNat : Int)) := by
  obtain ⟨b, o, e, hc⟩ := h.get (fun _ => rfl) hk
  exact ⟨b, o, e, by simpa using hc 0 _ (by omega) rfl⟩

/-- w' is w with new blocks, and with writes to block g alone. -/
def Only (g : Nat) (w w' : World) : Prop := w.grownBy w' (some g)
section
variable {g : Nat} {w w1 w2 : World}
theorem Only.refl (g : Nat) (w : World) : Only g w w := ⟨rfl, rfl, rfl, Nat.le_refl _, fun _ _ _ => rfl⟩
theorem Only.trans (h : Only g w w1) (h2 : Only g w1 w2) : Only g w w2 :=
  ⟨h2.os.trans h.os, h2.tape.trans h.tape, h2.output.trans h.output, Nat.le_trans h.size h2.size, fun k hk hne => (h2.block k (Nat.lt_of_lt_of_le hk h.size) hne).trans (h.block k hk hne)⟩
theorem Only.of_below (h : Below w.heap.size w w1) : Only g w w1 := ⟨h.os, h.tape, h.output, h.size, fun k hk _ => h.block k hk⟩
theorem Only.drewN (h : Only g w w1) (n : Nat) : Only g w (w1.drewN n) := ⟨h.os, h.tape, h.output, h.size, h.block⟩
theorem Only.alloc (h : Only g w w1) (o : Obj) : Only g w (w1.alloc o) := h.trans (Only.of_below ((Below.refl _ _).alloc (Nat.le_refl _) o))
theorem Only.setCell (h : Only g w w1) {p : Addr} (hp : p.block = g) (u : Value) : Only g w (w1.setCell p u) :=
  h.trans ⟨rfl, rfl, rfl, by simp [World.setCell], fun k hk hne => Below.heap_setCell _ _ _ _ (by rintro rfl; exact hne (by rw [hp]))⟩
/-- Above the reader's block nothing turns: what is below the reader's block neither. -/
theorem Only.below {B : Nat} (h : Only g w w1) (hB : B ≤ g) (hs : B ≤ w.heap.size) : Below B w w1 :=
  ⟨h.os, h.tape, h.output, h.size, fun k hk => h.block k (by omega) (by intro e; injection e; omega)⟩
theorem Only.cell (h : Only g w w1) {b o : Nat} {u : Value} (hb : b ≠ g) (hc : w.cell? ⟨b, o, none⟩ = some u) : w1.cell? ⟨b, o, none⟩ = some u := by
  have hlt := World.block_lt_of_cell? w _ hc
  rw [World.cell?_of_block (w := w) (h.block b hlt (by intro e; injection e; contradiction))]; exact hc
end
theorem Sl.only {α : Type} {enc : α → List Value} {w w' : World} {g size : Nat} {A : Option Addr} {l : List α} (h : Sl w enc size A l) (ho : Only g w w') (hb : 0 < l.length → ∀ b o, A = some ⟨b, o, none⟩ → b ≠ g) : Sl w' enc size A l := by
  intro hn
  obtain ⟨b, o, e, hc⟩ := h hn
  exact ⟨b, o, e, fun j u hu => ho.cell (hb hn b o e) (hc j u hu)⟩
theorem Own.only {α : Type} {enc : α → List Value} {w w' : World} {g base size : Nat} {E : TypeId} {v : Value} {l : List α} (h : Own w base E size enc v l) (ho : Only g w w') (hb : g < base) : Own w' base E size enc v l := by
  refine World.ownsRow.kept h (row := some g) ho ?_
  cases hv : v.ownBlock with
  | none => exact .inl rfl
  | some k => right; intro e; injection e with e; have := (World.ownsRow.lt h k hv).1; omega

/-- The reader in block g: it has read p bytes so far. -/
def Rdr (w : World) (g p : Nat) : Prop :=
  ∃ (A : Option Addr) (c : Nat) (l : List UInt8), w.heap[g]? = some (.cells #[.slice A l.length c, .int .i64 p] 97 (0, 0)) ∧ Sl w encB 1 A l ∧ l.length ≤ 2000 ∧ (0 < l.length → ∀ b o, A = some ⟨b, o, none⟩ → b < g)
theorem Rdr.lt {w : World} {g p : Nat} (h : Rdr w g p) : g < w.heap.size := by
  obtain ⟨A, c, l, hg, _⟩ := h
  exact (Array.getElem?_eq_some_iff.1 hg).1
theorem Rdr.below {w w' : World} {g p : Nat} (h : Rdr w g p) (hb : Below w.heap.size w w') : Rdr w' g p := by
  have hlt := h.lt
  obtain ⟨A, c, l, hg, hs, hl, hne⟩ := h
  exact ⟨A, c, l, (hb.block g hlt).trans hg, hs.below hb, hl, hne⟩
theorem Rdr.under {w w' : World} {g p B : Nat} (h : Rdr w g p) (hg : g < B) (hb : Below B w w') : Rdr w' g p := by
  obtain ⟨A, c, l, hh, hsl, hl, hne⟩ := h
  refine ⟨A, c, l, (hb.block g hg).trans hh, ?_, hl, hne⟩
  intro hn
  obtain ⟨b, o, e, hc⟩ := hsl hn
  refine ⟨b, o, e, fun j u hu => ?_⟩
  have hbB := hne hn b o e
  rw [hb.cell (p := ⟨b, o + j, none⟩) (show b < B by omega)]; exact hc j u hu
theorem Rdr.alloc {w : World} {g p : Nat} (h : Rdr w g p) (o : Obj) : Rdr (w.alloc o) g p := h.below ((Below.refl _ _).alloc (Nat.le_refl _) o)
theorem Rdr.step {w : World} {g p : Nat} (h : Rdr w g p) : Rdr (w.setCell ⟨g, 1, none⟩ (.int .i64 ((p + 1 : Nat) : Int))) g (p + 1) := by
  have hlt := h.lt
  obtain ⟨A, c, l, hg, hs, hl, hne⟩ := h
  refine ⟨A, c, l, ?_, hs.only ((Only.refl g w).setCell rfl _) (fun hn b o e => Nat.ne_of_lt (hne hn b o e)), hl, hne⟩
  rw [heap_setCell_same w g 1 _ 97 _ hg]
  rfl

theorem i64_xor_nn (a b : Int) (ha : 0 ≤ a) (hb : 0 ≤ b) (ha' : a < 9223372036854775808) (hb' : b < 9223372036854775808) : 0 ≤ bits .xor .i64 a b := by
  obtain ⟨x, rfl⟩ := Int.eq_ofNat_of_zero_le ha
  obtain ⟨y, rfl⟩ := Int.eq_ofNat_of_zero_le hb
  have hx : x ^^^ y < 2 ^ 63 := Nat.xor_lt_two_pow (by omega) (by omega)
  show 0 ≤ IntKind.i64.wrap ((BitVec.ofInt 64 (x : Int) ^^^ BitVec.ofInt 64 (y : Int)).toNat : Int)
  have e : ∀ n : Nat, n < 9223372036854775808 → (BitVec.ofInt 64 (n : Int)).toNat = n := fun n hn => by
    rw [BitVec.ofInt_natCast, BitVec.toNat_ofNat]; exact Nat.mod_eq_of_lt (by omega)
  rw [BitVec.toNat_xor, e x (by omega), e y (by omega), IntKind.wrap_i64]
  omega

theorem mod_pick {x n : Int} (hx : 0 ≤ x) (hn : 1 ≤ n) : ∃ m : Nat, x % n = m ∧ (m : Int) < n := by
  have h1 := Int.emod_nonneg x (show n ≠ 0 by omega)
  have h2 := Int.emod_lt_of_pos x (show 0 < n by omega)
  exact ⟨(x % n).toNat, by omega, by omega⟩

def Picked (n : Int) (w : World) (g p : Nat) (e : Ending) (w' : World) : Prop :=
  ∃ x : Nat, e = .returned (.int .i64 x) ∧ (x = 0 ∨ (x : Int) < n) ∧ Only g w w' ∧ Rdr w' g (p + 1)

set_option maxHeartbeats 2000000 in
set_option maxRecDepth 100000 in
theorem pick_any (n : Int) (g p : Nat) (w : World) (hr : Rdr w g p) (hp : p ≤ 1000000000) (hn : n ≤ 1000000000) :
    Calls Tryz.prog 53 #[.pointer (some ⟨g, 0, none⟩), .int .i64 n] w (Picked n w g p) := by
  have hr2 := hr.step
  have hlt := hr.lt
  obtain ⟨A, c, l, hg, hs, hl, hne⟩ := hr
  have hc0 : w.cell? ⟨g, 0, none⟩ = some (.slice A l.length c) := by rw [cell_of_row w g 0 _ _ _ hg]; rfl
  have hc1 : w.cell? ⟨g, 1, none⟩ = some (.int .i64 p) := by rw [cell_of_row w g 1 _ _ _ hg]; rfl
  have hf1 : w.frozen? ⟨g, 1, none⟩ = false := by simp [World.frozen?, hg]
  have hO := (Only.refl g w).setCell (p := ⟨g, 1, none⟩) rfl (.int .i64 ((p + 1 : Nat) : Int))
  have e1 : ((p + 1 : Nat) : Int) = (p : Int) + 1 := by omega
  rw [e1] at hO hr2
  have HR := Lib.hid hr2
  have HO := Lib.hid hO
  have HN := Lib.hid hne
  have HG := Lib.hid hg
  clear hr2 hO hne hg e1
  by_cases h1 : n < 1
  · go_enter Tryz.func53, Tryz.ntmps53
    go_wp2
    go_ret
    exact ⟨0, rfl, .inl rfl, HO.out, HR.out⟩
  · by_cases h0 : l.length = 0
    · have hz : ((l.length : Int) == 0) = true := by simp [h0]
      go_enter Tryz.func53, Tryz.ntmps53
      go_wp2
      go_ret
      exact ⟨0, rfl, .inl rfl, HO.out, HR.out⟩
    · have hz : ((l.length : Int) == 0) = false := beq_eq_false_iff_ne.2 (by omega)
      have hpos : 0 < l.length := by omega
      by_cases hk : p < l.length
      · obtain ⟨b, o, rfl, hc⟩ := hs.getB hk
        have hbne : b ≠ g := Nat.ne_of_lt (HN.out hpos b o rfl)
        have hby := l[p].toNat_lt
        go_enter Tryz.func53, Tryz.ntmps53
        go_wp2
        go_ret
        obtain ⟨m, e, hm⟩ := mod_pick (x := (l[p].toNat : Int)) (by omega) (show 1 ≤ n by omega)
        exact ⟨m, ret_int e, .inr hm, HO.out, HR.out⟩
      · have hj1 : p % l.length < l.length := Nat.mod_lt _ hpos
        have hj2 : (p * 7 + 3) % l.length < l.length := Nat.mod_lt _ hpos
        obtain ⟨b, o, rfl, hc⟩ := hs.getB hj1
        obtain ⟨b', o', e, hc'⟩ := hs.getB hj2
        have hbb : b' = b ∧ o' = o := by injection e with e; injection e with e1 e2; exact ⟨e1.symm, e2.symm⟩
        obtain ⟨rfl, rfl⟩ := hbb
        have hbne : b' ≠ g := Nat.ne_of_lt (HN.out hpos b' o' rfl)
        have hby1 := l[p % l.length].toNat_lt
        have hby2 := l[(p * 7 + 3) % l.length].toNat_lt
        clear e
        have q1 : ((p : Int)).tmod (l.length : Int) = ((p % l.length : Nat) : Int) := by rw [Int.tmod_eq_emod_of_nonneg (by omega)]; rfl
        have q2 : IntKind.i64.wrap ((p : Int) * 7) = (p : Int) * 7 := IntWalk.i64_in _ (by omega)
        have q3 : IntKind.i64.wrap ((p : Int) * 7 + 3) = (p : Int) * 7 + 3 := IntWalk.i64_in _ (by omega)
        have q4 : ((p : Int) * 7 + 3).tmod (l.length : Int) = (((p * 7 + 3) % l.length : Nat) : Int) := by rw [Int.tmod_eq_emod_of_nonneg (by omega)]; rfl
        have q5 : (0 : Int) ≤ ((p % l.length : Nat) : Int) := by omega
        have q6 : (0 : Int) ≤ (((p * 7 + 3) % l.length : Nat) : Int) := by omega
        generalize p % l.length = j1 at *
        generalize (p * 7 + 3) % l.length = j2 at *
        have q7 : 0 ≤ (p : Int) / (l.length : Int) := Int.ediv_nonneg (by omega) (by omega)
        have q8 : (p : Int) / (l.length : Int) ≤ 1000000000 := Int.le_trans (Int.ediv_le_self _ (by omega)) (by omega)
        have q9 := i64_xor_nn ((l[j1].toNat : Int) * 131 + (l[j2].toNat : Int) * 1117 + (p : Int) * 29 + (p : Int) / (l.length : Int) * 53) (((l[j1].toNat : Int) * 131 + (l[j2].toNat : Int) * 1117 + (p : Int) * 29 + (p : Int) / (l.length : Int) * 53) / 64) (by omega) (by omega) (by omega) (by omega)
        go_enter Tryz.func53, Tryz.ntmps53
        go_wp2
        go_quiet (fail)
        go_wp2
        go_ret
        obtain ⟨m, e, hm⟩ := mod_pick q9 (show 1 ≤ n by omega)
        exact ⟨m, ret_int e, .inr hm, HO.out.drewN _, HR.out⟩

def OddR (w : World) (g p : Nat) (e : Ending) (w' : World) : Prop :=
  ∃ (x : Bool) (p' : Nat), e = .returned (.bool x) ∧ Only g w w' ∧ Rdr w' g p' ∧ p' ≤ p + 1
set_option maxHeartbeats 2000000 in
set_option maxRecDepth 100000 in
theorem odd_any (n : Int) (g p : Nat) (w : World) (hr : Rdr w g p) (hp : p ≤ 1000000000) (hn : n ≤ 1000000000) :
    Calls Tryz.prog 50 #[.pointer (some ⟨g, 0, none⟩), .int .i64 n] w (OddR w g p) := by
  have HR := Lib.hid hr
  clear hr
  by_cases h0 : 0 < n
  · go_enter Tryz.func50, Tryz.ntmps50
    go_wp2_with (go_at_call 53; refine (pick_any _ _ _ _ HR.out hp hn).mono ?_; rintro e w1 ⟨x, rfl, hx, ho, hr1⟩; have HX := Lib.hid hx; clear hx)
    go_ret
    exact ⟨_, _, rfl, ho, hr1, Nat.le_refl _⟩
  · go_enter Tryz.func50, Tryz.ntmps50
    go_wp2
    go_ret
    exact ⟨_, _, rfl, Only.refl _ _, HR.out, by omega⟩
/-- 'odd(0)' is false, and reads nothing. -/
theorem odd0_any (g p : Nat) (w : World) (hr : Rdr w g p) (hp : p ≤ 1000000000) :
    Calls Tryz.prog 50 #[.pointer (some ⟨g, 0, none⟩), .int .i64 0] w fun e w' => e = .returned (.bool false) ∧ w = w' := by
  have HR := Lib.hid hr
  clear hr
  go_enter Tryz.func50, Tryz.ntmps50
  go_wp2
  go_ret
  exact ⟨rfl, rfl⟩

/-- What is told of a slice of bytes that came in. -/
def BytesIn (w : World) (A : Option Addr) (n c : Nat) : Prop := ∃ l : List UInt8, l.length = n ∧ n ≤ c ∧ c ≤ maxLen ∧ Sl w encB 1 A l
def Opened (w : World) (e : Ending) (w' : World) : Prop := e = .returned (.pointer (some ⟨w.heap.size, 0, none⟩)) ∧ Below w.heap.size w w' ∧ Rdr w' w.heap.size 0 ∧ w'.heap.size = w.heap.size + 1
theorem Sl.takeB {w : World} {A : Option Addr} {l : List UInt8} (h : Sl w encB 1 A l) (k : Nat) : Sl w encB 1 A (l.take k) := by
  intro hn
  obtain ⟨b, o, e, hc⟩ := h (by rw [List.length_take] at hn; omega)
  refine ⟨b, o, e, fun j u hu => hc j u ?_⟩
  have hf : flat encB l = flat encB (l.take k) ++ flat encB (l.drop k) := by rw [← flat_append, List.take_append_drop]
  rw [hf, List.getElem?_append_left (List.getElem?_eq_some_iff.1 hu).1]; exact hu
theorem rdr_new {w : World} {A : Option Addr} {l : List UInt8} {c : Nat} (h : Sl w encB 1 A l) (hl : l.length ≤ 2000) : Rdr (w.alloc (.cells #[.slice A l.length c, .int .i64 0] 97)) w.heap.size 0 := by
  refine ⟨A, c, l, heap_alloc_new w _, h.alloc _, hl, fun hn b o e => ?_⟩
  obtain ⟨b', o', e', hc⟩ := h hn
  have hx : (flat encB l)[0]? = some ((flat encB l)[0]'(by rw [flat_length (size := 1) (fun _ => rfl)]; omega)) := List.getElem?_eq_getElem _
  have := World.block_lt_of_cell? w _ (hc 0 _ hx)
  rw [e] at e'; injection e' with e'; injection e' with e1 _
  rw [← e1] at this; simpa using this
set_option maxHeartbeats 2000000 in
set_option maxRecDepth 100000 in
theorem l20Open_any (A : Option Addr) (n c : Nat) (w : World) (hb : BytesIn w A n c) :
    Calls Tryz.prog 48 #[.slice A n c] w (Opened w) := by
  obtain ⟨l, rfl, hc, hm, hs⟩ := hb
  have HS := Lib.hid hs
  clear hs
  unfold maxLen at hm
  by_cases h : l.length ≤ 2000
  · go_enter Tryz.func48, Tryz.ntmps48
    go_wp2
    go_ret
    exact ⟨rfl, (Below.refl _ _).alloc (Nat.le_refl _) _, rdr_new HS.out h, by simp⟩
  · have h2 : (l.take 2000).length = 2000 := by rw [List.length_take]; omega
    have hr := rdr_new (c := c) (HS.out.takeB 2000) (by rw [h2]; omega)
    rw [h2] at hr
    have HRR := Lib.hid hr
    clear hr h2
    go_enter Tryz.func48, Tryz.ntmps48
    go_wp2
    go_ret
    exact ⟨rfl, (Below.refl _ _).alloc (Nat.le_refl _) _, HRR.out, by simp⟩
end Go.Proofs.YtokelopllbaikaaGreatDoor
