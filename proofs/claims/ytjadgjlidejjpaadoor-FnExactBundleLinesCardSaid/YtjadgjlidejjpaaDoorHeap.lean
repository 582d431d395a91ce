/- Words for memory: a slice that reads as a list; rows of the call's own; an append of one element. Plain theorems, no program in sight. -/
import Derived.WalkKit
import Derived.WalkLawsBesides
import Derived.WalkSpells
import Derived.Deep.AppendLies
import Derived.Deep.Draws
import Derived.Maps.AppendAt
import Derived.Lib.Hide
import Derived.Deep.QuietTactic
set_option linter.unusedVariables false
namespace Go.Proofs.YtjadgjlidejjpaaDoor
open Go.RowKit

/-- The cells of a list of elements, one after the other. -/
def flat {α : Type} (enc : α → List Value) (l : List α) : List Value := l.flatMap enc
theorem flat_nil {α : Type} (enc : α → List Value) : flat enc [] = [] := rfl
theorem flat_append {α : Type} (enc : α → List Value) (l m : List α) : flat enc (l ++ m) = flat enc l ++ flat enc m := by simp [flat]
theorem flat_snoc {α : Type} (enc : α → List Value) (l : List α) (x : α) : flat enc (l ++ [x]) = flat enc l ++ enc x := by simp [flat]
theorem flat_cons {α : Type} (enc : α → List Value) (l : List α) (x : α) : flat enc (x :: l) = enc x ++ flat enc l := by simp [flat]
theorem flat_length {α : Type} {enc : α → List Value} {size : Nat} (he : ∀ x, (enc x).length = size) (l : List α) : (flat enc l).length = l.length * size := by
  induction l with
  | nil => simp [flat]
  | cons x r ih => rw [flat_cons, List.length_append, he, ih, List.length_cons, Nat.succ_mul, Nat.add_comm]
theorem flat_get {α : Type} {enc : α → List Value} {size : Nat} (he : ∀ x, (enc x).length = size) (l : List α) : ∀ (k : Nat) (hk : k < l.length) (j : Nat), j < size → (flat enc l)[k * size + j]? = (enc l[k])[j]? := by
  induction l with
  | nil => intro k hk; simp at hk
  | cons x r ih =>
    intro k hk j hj
    rw [flat_cons]
    cases k with
    | zero => simp only [Nat.zero_mul, Nat.zero_add, List.getElem_cons_zero]; rw [List.getElem?_append_left (by rw [he]; exact hj)]
    | succ k =>
      rw [List.getElem?_append_right (by rw [he, Nat.succ_mul]; omega), he]
      have e : (k + 1) * size + j - size = k * size + j := by rw [Nat.succ_mul]; omega
      rw [e, ih k (by simpa using hk) j hj]; simp

def encI (x : Int) : List Value := [.int .i64 x]
def encS (s : ByteArray) : List Value := [.string s]
abbrev Pc := Int × ByteArray
def encP (p : Pc) : List Value := [.int .i64 p.1, .string p.2]
abbrev En := ByteArray × Int
def encE (p : En) : List Value := [.string p.1, .int .i64 p.2]
abbrev Vr := Int × Int × ByteArray
def encV (v : Vr) : List Value := [.int .i64 v.1, .int .i64 v.2.1, .string v.2.2]
abbrev Tg := ByteArray × Int × Int × Int
def encT (v : Tg) : List Value := [.string v.1, .int .i64 v.2.1, .int .i64 v.2.2.1, .int .i64 v.2.2.2]

/-- The slice value '.slice A n c' holds the elements l ('size' cells each); n is l's length. -/
def Sl {α : Type} (w : World) (enc : α → List Value) (size : Nat) (A : Option Addr) (l : List α) : Prop :=
  0 < l.length → ∃ b o, A = some ⟨b, o, none⟩ ∧ ∀ j u, (flat enc l)[j]? = some u → w.cell? ⟨b, o + j, none⟩ = some u

section
variable {α : Type} {enc : α → List Value} {w w' : World} {B size : Nat} {A : Option Addr} {l : List α}
theorem Sl.none_ : Sl w enc size A [] := fun h => absurd h (by simp)
theorem Sl.keep (h : Sl w enc size A l) (hk : ∀ p : Addr, p.block < w.heap.size → w'.cell? p = w.cell? p) : Sl w' enc size A l := by
  intro hn
  obtain ⟨b, o, e, hc⟩ := h hn
  refine ⟨b, o, e, fun j u hu => ?_⟩
  have hcc := hc j u hu
  rw [hk _ (World.block_lt_of_cell? w _ hcc)]; exact hcc
theorem Sl.below (h : Sl w enc size A l) (hb : Below w.heap.size w w') : Sl w' enc size A l := h.keep fun _ hp => hb.cell hp
theorem Sl.drew (h : Sl w enc size A l) : Sl w.drew enc size A l := h
theorem Sl.drewN (h : Sl w enc size A l) (k : Nat) : Sl (w.drewN k) enc size A l := h
theorem Sl.alloc (h : Sl w enc size A l) (o : Obj) : Sl (w.alloc o) enc size A l := h.keep fun p hp => World.cell?_alloc_lt w o p hp
theorem Sl.get {k : Nat} (h : Sl w enc size A l) (he : ∀ x, (enc x).length = size) (hk : k < l.length) :
    ∃ b o, A = some ⟨b, o, none⟩ ∧ ∀ j u, j < size → (enc l[k])[j]? = some u → w.cell? ⟨b, o + (k * size + j), none⟩ = some u := by
  obtain ⟨b, o, e, hc⟩ := h (by omega)
  refine ⟨b, o, e, fun j u hj hu => hc _ u ?_⟩
  rw [flat_get he l k hk j hj]; exact hu
end

theorem Sl.getI {w : World} {A : Option Addr} {l : List Int} {k : Nat} (h : Sl w encI 1 A l) (hk : k < l.length) :
    ∃ b o, A = some ⟨b, o, none⟩ ∧ w.cell? ⟨b, o + k, none⟩ = some (.int .i64 l[k]) := by
  obtain ⟨b, o, e, hc⟩ := h.get (fun _ => rfl) hk
  exact ⟨b, o, e, by simpa using hc 0 _ (by omega) rfl⟩
theorem Sl.getS {w : World} {A : Option Addr} {l : List ByteArray} {k : Nat} (h : Sl w encS 1 A l) (hk : k < l.length) :
    ∃ b o, A = some ⟨b, o, none⟩ ∧ w.cell? ⟨b, o + k, none⟩ = some (.string l[k]) := by
  obtain ⟨b, o, e, hc⟩ := h.get (fun _ => rfl) hk
  exact ⟨b, o, e, by simpa using hc 0 _ (by omega) rfl⟩
theorem Sl.getP {w : World} {A : Option Addr} {l : List Pc} {k : Nat} (h : Sl w encP 2 A l) (hk : k < l.length) :
    ∃ b o, A = some ⟨b, o, none⟩ ∧ w.cell? ⟨b, o + k * 2, none⟩ = some (.int .i64 l[k].1) ∧ w.cell? ⟨b, o + k * 2 + 1, none⟩ = some (.string l[k].2) := by
  obtain ⟨b, o, e, hc⟩ := h.get (fun _ => rfl) hk
  exact ⟨b, o, e, by simpa using hc 0 _ (by omega) rfl, by simpa [Nat.add_assoc] using hc 1 _ (by omega) rfl⟩
theorem Sl.getE {w : World} {A : Option Addr} {l : List En} {k : Nat} (h : Sl w encE 2 A l) (hk : k < l.length) :
    ∃ b o, A = some ⟨b, o, none⟩ ∧ w.cell? ⟨b, o + k * 2, none⟩ = some (.string l[k].1) ∧ w.cell? ⟨b, o + k * 2 + 1, none⟩ = some (.int .i64 l[k].2) := by
  obtain ⟨b, o, e, hc⟩ := h.get (fun _ => rfl) hk
  exact ⟨b, o, e, by simpa using hc 0 _ (by omega) rfl, by simpa [Nat.add_assoc] using hc 1 _ (by omega) rfl⟩
theorem Sl.getV {w : World} {A : Option Addr} {l : List Vr} {k : Nat} (h : Sl w encV 3 A l) (hk : k < l.length) :
    ∃ b o, A = some ⟨b, o, none⟩ ∧ w.cell? ⟨b, o + k * 3, none⟩ = some (.int .i64 l[k].1) ∧ w.cell? ⟨b, o + k * 3 + 1, none⟩ = some (.int .i64 l[k].2.1) ∧ w.cell? ⟨b, o + k * 3 + 2, none⟩ = some (.string l[k].2.2) := by
  obtain ⟨b, o, e, hc⟩ := h.get (fun _ => rfl) hk
  exact ⟨b, o, e, by simpa using hc 0 _ (by omega) rfl, by simpa [Nat.add_assoc] using hc 1 _ (by omega) rfl, by simpa [Nat.add_assoc] using hc 2 _ (by omega) rfl⟩
theorem Sl.getT {w : World} {A : Option Addr} {l : List Tg} {k : Nat} (h : Sl w encT 4 A l) (hk : k < l.length) :
    ∃ b o, A = some ⟨b, o, none⟩ ∧ w.cell? ⟨b, o + k * 4, none⟩ = some (.string l[k].1) ∧ w.cell? ⟨b, o + k * 4 + 1, none⟩ = some (.int .i64 l[k].2.1) ∧ w.cell? ⟨b, o + k * 4 + 2, none⟩ = some (.int .i64 l[k].2.2.1) ∧ w.cell? ⟨b, o + k * 4 + 3, none⟩ = some (.int .i64 l[k].2.2.2) := by
  obtain ⟨b, o, e, hc⟩ := h.get (fun _ => rfl) hk
  exact ⟨b, o, e, by simpa using hc 0 _ (by omega) rfl, by simpa [Nat.add_assoc] using hc 1 _ (by omega) rfl, by simpa [Nat.add_assoc] using hc 2 _ (by omega) rfl, by simpa [Nat.add_assoc] using hc 3 _ (by omega) rfl⟩

/-! ### rows of the call's own -/
/-- The slice value v owns a row, in a block from 'base' on, that holds the elements l. -/
def Own {α : Type} (w : World) (base : Nat) (E : TypeId) (size : Nat) (enc : α → List Value) (v : Value) (l : List α) : Prop :=
  w.ownsRow base E size v l.length (flat enc l)

section
variable {α : Type} {enc : α → List Value} {w w' : World} {B base size : Nat} {E : TypeId} {v : Value} {l : List α}
theorem Own.nil : Own w base E size enc (.slice none 0 0) [] := World.ownsRow_nil _ _ _ _
theorem Own.made (hb : base ≤ w.heap.size) : Own (w.alloc (.cells #[] E)) base E size enc (.slice (some ⟨w.heap.size, 0, none⟩) 0 0) [] :=
  World.ownsRow_made _ _ 0 hb (by unfold maxLen; omega) (by simp)
theorem Own.below (h : Own w base E size enc v l) (hb : Below w.heap.size w w') : Own w' base E size enc v l :=
  World.ownsRow.kept h (row := none) ⟨hb.os, hb.tape, hb.output, hb.size, fun k hk _ => hb.block k hk⟩ (by cases hv : v.ownBlock <;> simp)
theorem Own.alloc (h : Own w base E size enc v l) (o : Obj) : Own (w.alloc o) base E size enc v l := World.ownsRow.alloc h o
theorem Own.drew (h : Own w base E size enc v l) : Own w.drew base E size enc v l := h
theorem Own.drewN (h : Own w base E size enc v l) (k : Nat) : Own (w.drewN k) base E size enc v l := h
theorem Own.mono {base' : Nat} (h : Own w base E size enc v l) (hb : base' ≤ base) : Own w base' E size enc v l := by
  refine ⟨h.1, ?_⟩
  rcases h.2 with h2 | ⟨g, cap, cur, hv, hg, r⟩
  · exact .inl h2
  · exact .inr ⟨g, cap, cur, hv, Nat.le_trans hb hg, r⟩
/-- An owned row is a slice that reads as its list. -/
theorem Own.sl (h : Own w base E size enc v l) : ∃ A c, v = .slice A l.length c ∧ l.length ≤ c ∧ Sl w enc size A l ∧ (l = [] ∧ A = none ∨ ∃ g, A = some ⟨g, 0, none⟩ ∧ base ≤ g ∧ g < w.heap.size) := by
  rcases h.2 with ⟨hv, hn⟩ | ⟨g, cap, cur, hv, hg, hh, hnc, hcm, hsz, ht⟩
  · have hl : l = [] := List.eq_nil_of_length_eq_zero hn
    subst hl
    exact ⟨none, 0, hv, Nat.le_refl _, Sl.none_, .inl ⟨rfl, rfl⟩⟩
  · refine ⟨some ⟨g, 0, none⟩, cap, hv, hnc, fun _ => ⟨g, 0, rfl, fun j u hu => ?_⟩, .inr ⟨g, rfl, hg, (Array.getElem?_eq_some_iff.1 hh).1⟩⟩
    have hc := World.ownsRow.cells h (g := g) (by rw [hv]; rfl) j u hu
    have hadd : (⟨g, 0, none⟩ : Addr).add j = ⟨g, 0 + j, none⟩ := by unfold Addr.add; split <;> simp_all
    rw [hadd] at hc; exact hc
end

/-- The result is a slice of the call's own. -/
def OwnRes {α : Type} (E : TypeId) (size : Nat) (enc : α → List Value) (l : List α) (w : World) (e : Ending) (w' : World) : Prop :=
  ∃ v, e = .returned v ∧ Own w' w.heap.size E size enc v l ∧ Below w.heap.size w w'
/-! ### worlds -/
section
variable {w w1 : World} {B : Nat}
theorem Below_drewN (h : Below B w w1) (n : Nat) : Below B w (w1.drewN n) := ⟨h.os, h.tape, h.output, h.size, h.block⟩
theorem Below_of_drewN {n : Nat} (h : Below (w.drewN n).heap.size (w.drewN n) w1) : Below w.heap.size w w1 := ⟨h.os, h.tape, h.output, h.size, h.block⟩
theorem Below_of_alloc {o : Obj} (h : Below (w.alloc o).heap.size (w.alloc o) w1) : Below w.heap.size w w1 :=
  ((Below.refl _ _).alloc (Nat.le_refl _) o).trans (h.mono (by simp))
theorem Below_then (h : Below B w w1) {w2 : World} (h2 : Below w1.heap.size w1 w2) (hB : B ≤ w.heap.size) : Below B w w2 :=
  h.trans (h2.mono (Nat.le_trans hB h.size))
theorem Below_cells (hb : Below w.heap.size w w1) : ∀ b o u, w.cell? ⟨b, o, none⟩ = some u → w1.cell? ⟨b, o, none⟩ = some u :=
  fun _ _ _ h => (hb.cell (World.block_lt_of_cell? w _ h)).trans h
end

/-- 'append(v, x)' of one element onto a row of the call's own: x lies in a new block. -/
theorem wpList_app1 {P : Program} {α : Type} {enc : α → List Value} {ops : Array Oper} {rest : List Oper} {o : Oper} {a : Act} {Q : Exit → Act → World → Prop} {w0 wr : World} {B base size bytes : Nat} {t E : TypeId} {i : TypeInfo} {z : Value} {v : Value} {l : List α}
    (ht : P.underlying t = some (.slice E)) (hi : P.info? E = some i) (hz : i.zero = some z) (hsize : i.size = size) (hby : i.bytes = bytes) (hzs : z.cells.size = size) (hsz : 0 < size) (hb200 : bytes ≤ 256)
    (hgd : o.guard = none) (s x : Operand) (ho : o.op = .call { callee := .builtin .append, args := #[s, x], argTypes := #[t, t] })
    (hs : a.eval s = v) (hx : a.eval x = .slice (some ⟨wr.heap.size, 0, none⟩) 1 1)
    (hown : Own wr base E size enc v l) (hb : Below B w0 wr) (hB : B ≤ base) (hbase : base ≤ wr.heap.size) (hn : l.length ≤ 16777216) (y : α) (cells : Array Value) (hcl : cells = (enc y).toArray) (hce : (enc y).length = size) (h1 : ∀ u ∈ enc y, u.oneCell' = true)
    (h : ∀ v' w', Own w' base E size enc v' (l ++ [y]) → Below B w0 w' → wpList P ops Q rest (a.put o.dst v') w') : wpList P ops Q (o :: rest) a (wr.alloc (.cells cells E)) := by
  subst hcl
  refine wpList_append_own _ hgd s x t ho base E i z size bytes ht hi hz hsize hby hzs hsz v l.length (flat enc l) hs (World.ownsRow.alloc hown _) ⟨wr.heap.size, 0, none⟩ 1 1 (enc y) hx (by rw [hce, Nat.one_mul]) ?_ h1 ?_ ?_ ?_ ?_
  · intro j u hu
    have hadd : (⟨wr.heap.size, 0, none⟩ : Addr).add j = ⟨wr.heap.size, j, none⟩ := by unfold Addr.add; split <;> simp_all
    rw [hadd, cell_of_row _ _ j _ E (0, 0) (heap_alloc_new wr _)]
    simpa using hu
  · unfold maxLen; omega
  · have := Nat.mul_le_mul_left (l.length + 1) hb200; omega
  · simp; omega
  · intro v' w' hown' hg _
    refine h v' w' ?_ ((hb.alloc (Nat.le_trans hB hbase) _).grown hg (by simp; omega) (fun k hk => ?_))
    · show w'.ownsRow base E size v' (l ++ [y]).length (flat enc (l ++ [y]))
      rw [flat_snoc, List.length_append]; exact hown'
    · exact Nat.le_trans hB (World.ownsRow.lt hown k hk).1

/-- A list of bytes as a string. -/
def mk (l : List UInt8) : ByteArray := ⟨l.toArray⟩
theorem mk_size (l : List UInt8) : (mk l).size = l.length := by simp [mk, ByteArray.size]
theorem mk_bs (s : ByteArray) : mk s.data.toList = s := by cases s; rfl
theorem bs_mk (l : List UInt8) : (mk l).data.toList = l := rfl
theorem mk_toList (l : List UInt8) : (mk l).toList = l := by rw [ByteArray.toList_eq]; rfl
theorem mk_append (a b : List UInt8) : mk a ++ mk b = mk (a ++ b) := by
  apply ByteArray.ext; simp [mk]
theorem encode_byte (c : UInt8) (h : c.toNat < 128) : Utf8.encode (c.toNat : Int) = mk [c] := by
  have hv : Utf8.valid (c.toNat : Int) = true := by unfold Utf8.valid; simp; omega
  unfold Utf8.encode
  simp only [hv, if_true, Int.toNat_natCast]
  rw [if_pos (by omega)]
  simp [mk]
theorem i32_byte (c : UInt8) : IntKind.i32.wrap (c.toNat : Int) = c.toNat := by
  have := c.toNat_lt
  rw [IntKind.wrap_i32]; omega
theorem quiet_left {P : Program} {f : FuncId} {args : Array Value} {w : World} {n : Nat} {v : Value}
    (h : Calls P f args (w.drewN n) fun e w' => e = .returned v ∧ w.drewN n = w') : Calls P f args (w.drewN n) fun e w'' => e = .returned v ∧ ∃ m, w'' = w.drewN m :=
  h.mono fun _ _ ⟨he, hm⟩ => ⟨he, n, hm.symm⟩
theorem ret_int {k : IntKind} {a b : Int} (h : a = b) : Ending.returned (.int k a) = .returned (.int k b) := by rw [h]
theorem ret_bool {a b : Bool} (h : a = b) : Ending.returned (.bool a) = .returned (.bool b) := by rw [h]
theorem ret_str {a b : ByteArray} (h : a = b) : Ending.returned (.string a) = .returned (.string b) := by rw [h]
theorem int_eq {k : IntKind} {a b : Int} (h : a = b) : Value.int k a = .int k b := by rw [h]
end Go.Proofs.YtjadgjlidejjpaaDoor
