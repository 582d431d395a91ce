/- The reader of drawn inputs: 'l20Open', 'pick', 'odd'. -/
import Derived.Test.YtjadgjlidejjpaaDoorW1
import Derived.Laws.BitsAllLaws
import Derived.Laws.BitsLemmas
set_option linter.unusedVariables false
namespace Go.Proofs.YtjadgjlidejjpaaDoor
open Go.RowKit

def encB (c : UInt8) : List Value := [.int .u8 (c.toNat : Int)]
theorem Sl.getB {w : World} {A : Option Addr} {l : List UInt8} {k : Nat} (h : Sl w encB 1 A l) (hk : k < l.length) :
    ∃ b o, A = some ⟨b, o, none⟩ ∧ w.cell? ⟨b, o + k, none⟩ = some (.int .u8 (l[k].toNat : Int)) := by
  obtain ⟨b, o, e, hc⟩ := h.get (fun _ => rfl) hk
  exact ⟨b, o, e, by simpa using hc 0 _ (by omega) rfl⟩

/-- w' is w with new blocks, and with writes to block g alone. -/
def Only (g : Nat) (w w' : World) : Prop := w.grownBy w' (some g)
section
variable {g : Nat} {w w1 w2 : World}
theorem Only.refl (g : Nat) (w : World) : Only g w w := ⟨rfl, rfl, rfl, Nat.le_refl _, fun _ _ _ => rfl⟩
theorem Only.trans (h : Only g w w1) (h2 : Only g w1 w2) : Only g w w2 :=
  ⟨h2.os.trans h.os, h2.tape.trans h.tape, h2.output.trans h.output, Nat.le_trans h.size h2.size, fun k hk hne => (h2.block k (Nat.lt_of_lt_of_le hk h.size) hne).trans (h.block k hk hne)⟩
theorem Only.of_below (h : Below w.heap.size w w1) : Only g w w1 := ⟨h.os, h.tape, h.output, h.size, fun k hk _ => h.block k hk⟩
theorem Only.drewN (h : Only g w w1) (n : Nat) : Only g w (w1.drewN n) := ⟨h.os, h.tape, h.output, h.size, h.block⟩
theorem Only.alloc (h : Only g w w1) (o : Obj) : Only g w (w1.alloc o) := h.trans (Only.of_below ((Below.refl _ _).alloc (Nat.le_refl _) o))
theorem Only.setCell (h : Only g w w1) {p : Addr} (hp : p.block = g) (u : Value) : Only g w (w1.setCell p u) :=
  h.trans ⟨rfl, rfl, rfl, by simp [World.setCell], fun k hk hne => Below.heap_setCell _ _ _ _ (by rintro rfl; exact hne (by rw [hp]))⟩
/-- Above the reader's block nothing turns: what is below the reader's block neither. -/
theorem Only.below {B : Nat} (h : Only g w w1) (hB : B ≤ g) (hs : B ≤ w.heap.size) : Below B w w1 :=
  ⟨h.os, h.tape, h.output, h.size, fun k hk => h.block k (by omega) (by intro e; injection e; omega)⟩
theorem Only.cell (h : Only g w w1) {b o : Nat} {u : Value} (hb : b ≠ g) (hc : w.cell? ⟨b, o, none⟩ = some u) : w1.cell? ⟨b, o, none⟩ = some u := by
  have hlt := World.block_lt_of_cell? w _ hc
  rw [World.cell?_of_block (w := w) (h.block b hlt (by intro e; injection e; contradiction))]; exact hc
end
theorem Sl.only {α : Type} {enc : α → List Value} {w w' : World} {g size : Nat} {A : Option Addr} {l : List α} (h : Sl w enc size A l) (ho : Only g w w') (hb : 0 < l.length → ∀ b o, A = some ⟨b, o, none⟩ → b ≠ g) : Sl w' enc size A l := by
  intro hn
  obtain ⟨b, o, e, hc⟩ := h hn
  exact ⟨b, o, e, fun j u hu => ho.cell (hb hn b o e) (hc j u hu)⟩
theorem Own.only {α : Type} {enc : α → List Value} {w w' : World} {g base size : Nat} {E : TypeId} {v : Value} {l : List α} (h : Own w base E size enc v l) (ho : Only g w w') (hb : g < base) : Own w' base E size enc v l := by
  refine World.ownsRow.kept h (row := some g) ho ?_
  cases hv : v.ownBlock with
  | none => exact .inl rfl
  | some k => right; intro e; injection e with e; have := (World.ownsRow.lt h k hv).1; omega

theorem i64_xor_nn (a b : Int) (ha : 0 ≤ a) (hb : 0 ≤ b) (ha' : a < 9223372036854775808) (hb' : b < 9223372036854775808) : 0 ≤ bits .xor .i64 a b := by
  obtain ⟨x, rfl⟩ := Int.eq_ofNat_of_zero_le ha
  obtain ⟨y, rfl⟩ := Int.eq_ofNat_of_zero_le hb
  have hx : x ^^^ y < 2 ^ 63 := Nat.xor_lt_two_pow (by omega) (by omega)
  show 0 ≤ IntKind.i64.wrap ((BitVec.ofInt 64 (x : Int) ^^^ BitVec.ofInt 64 (y : Int)).toNat : Int)
  have e : ∀ n : Nat, n < 9223372036854775808 → (BitVec.ofInt 64 (n : Int)).toNat = n := fun n hn => by
    rw [BitVec.ofInt_natCast, BitVec.toNat_ofNat]; exact Nat.mod_eq_of_lt (by omega)
  rw [BitVec.toNat_xor, e x (by omega), e y (by omega), IntKind.wrap_i64]
  omega

theorem mod_pick {x n : Int} (hx : 0 ≤ x) (hn : 1 ≤ n) : ∃ m : Nat, x % n = m ∧ (m : Int) < n := by
  have h1 := Int.emod_nonneg x (show n ≠ 0 by omega)
  have h2 := Int.emod_lt_of_pos x (show 0 < n by omega)
  exact ⟨(x % n).toNat, by omega, by omega⟩

/-- What is told of a slice of bytes that came in. -/
def BytesIn (w : World) (A : Option Addr) (n c : Nat) : Prop := ∃ l : List UInt8, l.length = n ∧ n ≤ c ∧ c ≤ maxLen ∧ Sl w encB 1 A l
theorem Sl.takeB {w : World} {A : Option Addr} {l : List UInt8} (h : Sl w encB 1 A l) (k : Nat) : Sl w encB 1 A (l.take k) := by
  intro hn
  obtain ⟨b, o, e, hc⟩ := h (by rw [List.length_take] at hn; omega)
  refine ⟨b, o, e, fun j u hu => hc j u ?_⟩
  have hf : flat encB l = flat encB (l.take k) ++ flat encB (l.drop k) := by rw [← flat_append, List.take_append_drop]
  rw [hf, List.getElem?_append_left (List.getElem?_eq_some_iff.1 hu).1]; exact hu
end Go.Proofs.YtjadgjlidejjpaaDoor
