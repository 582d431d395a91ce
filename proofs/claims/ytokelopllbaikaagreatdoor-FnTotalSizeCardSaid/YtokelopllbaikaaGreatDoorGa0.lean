/- Texts in one: Heap, Pure, So, Vp, Wp, Ws. -/
import Derived.WalkKit
import Derived.WalkLawsBesides
import Derived.WalkSpells
import Derived.Deep.AppendLies
import Derived.Deep.Draws
import Derived.Maps.AppendAt
import Derived.Lib.Hide
import Derived.Deep.QuietTactic
import Derived.Lib.Split
/- Words for memory: a slice that reads as a list; rows of the call's own; an append of one element. Plain theorems, no program in sight. -/
set_option linter.unusedVariables false
namespace Go.Proofs.YtokelopllbaikaaGreatDoor
open Go.RowKit

/-- The cells of a list of elements, one after the other. -/
def flat {α : Type} (enc : α → List Value) (l : List α) : List Value := l.flatMap enc
theorem flat_append {α : Type} (enc : α → List Value) (l m : List α) : flat enc (l ++ m) = flat enc l ++ flat enc m := by simp [flat]
theorem flat_snoc {α : Type} (enc : α → List Value) (l : List α) (x : α) : flat enc (l ++ [x]) = flat enc l ++ enc x := by simp [flat]
theorem flat_cons {α : Type} (enc : α → List Value) (l : List α) (x : α) : flat enc (x :: l) = enc x ++ flat enc l := by simp [flat]
theorem flat_length {α : Type} {enc : α → List Value} {size : Nat} (he : ∀ x, (enc x).length = size) (l : List α) : (flat enc l).length = l.length * size := by
  induction l with
  | nil => simp [flat]
  | cons x r ih => rw [flat_cons, List.length_append, he, ih, List.length_cons, Nat.succ_mul, Nat.add_comm]
theorem flat_get {α : Type} {enc : α → List Value} {size : Nat} (he : ∀ x, (enc x).length = size) (l : List α) : ∀ (k : Nat) (hk : k < l.length) (j : Nat), j < size → (flat enc l)[k * size + j]? = (enc l[k])[j]? := by
  induction l with
  | nil => intro k hk; simp at hk
  | cons x r ih =>
    intro k hk j hj
    rw [flat_cons]
    cases k with
    | zero => simp only [Nat.zero_mul, Nat.zero_add, List.getElem_cons_zero]; rw [List.getElem?_append_left (by rw [he]; exact hj)]
    | succ k =>
      rw [List.getElem?_append_right (by rw [he, Nat.succ_mul]; omega), he]
      have e : (k + 1) * size + j - size = k * size + j := by rw [Nat.succ_mul]; omega
      rw [e, ih k (by simpa using hk) j hj]; simp

def encI (x : Int) : List Value := [.int .i64 x]
def encS (s : ByteArray) : List Value := [.string s]
abbrev Pc := Int × ByteArray
def encP (p : Pc) : List Value := [.int .i64 p.1, .string p.2]
abbrev En := ByteArray × Int
def encE (p : En) : List Value := [.string p.1, .int .i64 p.2]
abbrev Vr := Int × Int × ByteArray
abbrev Tg := ByteArray × Int × Int × Int
/-- The slice value '.slice A n c' holds the elements l ('size' cells each); n is l's length. -/
def Sl {α : Type} (w : World) (enc : α → List Value) (size : Nat) (A : Option Addr) (l : List α) : Prop :=
  0 < l.length → ∃ b o, A = some ⟨b, o, none⟩ ∧ ∀ j u, (flat enc l)[j]? = some u → w.cell? ⟨b, o + j, none⟩ = some u

section
variable {α : Type} {enc : α → List Value} {w w' : World} {B size : Nat} {A : Option Addr} {l : List α}
theorem Sl.none_ : Sl w enc size A [] := fun h => absurd h (by simp)
theorem Sl.keep (h : Sl w enc size A l) (hk : ∀ p : Addr, p.block < w.heap.size → w'.cell? p = w.cell? p) : Sl w' enc size A l := by
  intro hn
  obtain ⟨b, o, e, hc⟩ := h hn
  refine ⟨b, o, e, fun j u hu => ?_⟩
  have hcc := hc j u hu
  rw [hk _ (World.block_lt_of_cell? w _ hcc)]; exact hcc
theorem Sl.below (h : Sl w enc size A l) (hb : Below w.heap.size w w') : Sl w' enc size A l := h.keep fun _ hp => hb.cell hp
theorem Sl.drew (h : Sl w enc size A l) : Sl w.drew enc size A l := h
theorem Sl.drewN (h : Sl w enc size A l) (k : Nat) : Sl (w.drewN k) enc size A l := h
theorem Sl.alloc (h : Sl w enc size A l) (o : Obj) : Sl (w.alloc o) enc size A l := h.keep fun p hp => World.cell?_alloc_lt w o p hp
theorem Sl.get {k : Nat} (h : Sl w enc size A l) (he : ∀ x, (enc x).length = size) (hk : k < l.length) :
    ∃ b o, A = some ⟨b, o, none⟩ ∧ ∀ j u, j < size → (enc l[k])[j]? = some u → w.cell? ⟨b, o + (k * size + j), none⟩ = some u := by
  obtain ⟨b, o, e, hc⟩ := h (by omega)
  refine ⟨b, o, e, fun j u hj hu => hc _ u ?_⟩
  rw [flat_get he l k hk j hj]; exact hu
end

theorem Sl.getI {w : World} {A : Option Addr} {l : List Int} {k : Nat} (h : Sl w encI 1 A l) (hk : k < l.length) :
    ∃ b o, A = some ⟨b, o, none⟩ ∧ w.cell? ⟨b, o + k, none⟩ = some (.int .i64 l[k]) := by
  obtain ⟨b, o, e, hc⟩ := h.get (fun _ => rfl) hk
  exact ⟨b, o, e, by simpa using hc 0 _ (by omega) rfl⟩
theorem Sl.getS {w : World} {A : Option Addr} {l : List ByteArray} {k : Nat} (h : Sl w encS 1 A l) (hk : k < l.length) :
    ∃ b o, A = some ⟨b, o, none⟩ ∧ w.cell? ⟨b, o + k, none⟩ = some (.string l[k]) := by
  obtain ⟨b, o, e, hc⟩ := h.get (fun _ => rfl) hk
  exact ⟨b, o, e, by simpa using hc 0 _ (by omega) rfl⟩
theorem Sl.getP {w : World} {A : Option Addr} {l : List Pc} {k : Nat} (h : Sl w encP 2 A l) (hk : k < l.length) :
    ∃ b o, A = some ⟨b, o, none⟩ ∧ w.cell? ⟨b, o + k * 2, none⟩ = some (.int .i64 l[k].1) ∧ w.cell? ⟨b, o + k * 2 + 1, none⟩ = some (.string l[k].2) := by
  obtain ⟨b, o, e, hc⟩ := h.get (fun _ => rfl) hk
  exact ⟨b, o, e, by simpa using hc 0 _ (by omega) rfl, by simpa [Nat.add_assoc] using hc 1 _ (by omega) rfl⟩
theorem Sl.getE {w : World} {A : Option Addr} {l : List En} {k : Nat} (h : Sl w encE 2 A l) (hk : k < l.length) :
    ∃ b o, A = some ⟨b, o, none⟩ ∧ w.cell? ⟨b, o + k * 2, none⟩ = some (.string l[k].1) ∧ w.cell? ⟨b, o + k * 2 + 1, none⟩ = some (.int .i64 l[k].2) := by
  obtain ⟨b, o, e, hc⟩ := h.get (fun _ => rfl) hk
  exact ⟨b, o, e, by simpa using hc 0 _ (by omega) rfl, by simpa [Nat.add_assoc] using hc 1 _ (by omega) rfl⟩
/-! ### rows of the call's own -/
/-- The slice value v owns a row, in a block from 'base' on, that holds the elements l. -/
def Own {α : Type} (w : World) (base : Nat) (E : TypeId) (size : Nat) (enc : α → List Value) (v : Value) (l : List α) : Prop :=
  w.ownsRow base E size v l.length (flat enc l)

section
variable {α : Type} {enc : α → List Value} {w w' : World} {B base size : Nat} {E : TypeId} {v : Value} {l : List α}
theorem Own.nil : Own w base E size enc (.slice none 0 0) [] := World.ownsRow_nil _ _ _ _
theorem Own.made (hb : base ≤ w.heap.size) : Own (w.alloc (.cells #[] E)) base E size enc (.slice (some ⟨w.heap.size, 0, none⟩) 0 0) [] :=
  World.ownsRow_made _ _ 0 hb (by unfold maxLen; omega) (by simp)
theorem Own.below (h : Own w base E size enc v l) (hb : Below w.heap.size w w') : Own w' base E size enc v l :=
  World.ownsRow.kept h (row := none) ⟨hb.os, hb.tape, hb.output, hb.size, fun k hk _ => hb.block k hk⟩ (by cases hv : v.ownBlock <;> simp)
theorem Own.alloc (h : Own w base E size enc v l) (o : Obj) : Own (w.alloc o) base E size enc v l := World.ownsRow.alloc h o
theorem Own.drew (h : Own w base E size enc v l) : Own w.drew base E size enc v l := h
theorem Own.drewN (h : Own w base E size enc v l) (k : Nat) : Own (w.drewN k) base E size enc v l := h
theorem Own.mono {base' : Nat} (h : Own w base E size enc v l) (hb : base' ≤ base) : Own w base' E size enc v l := by
  refine ⟨h.1, ?_⟩
  rcases h.2 with h2 | ⟨g, cap, cur, hv, hg, r⟩
  · exact .inl h2
  · exact .inr ⟨g, cap, cur, hv, Nat.le_trans hb hg, r⟩
/-- An owned row is a slice that reads as its list. -/
theorem Own.sl (h : Own w base E size enc v l) : ∃ A c, v = .slice A l.length c ∧ l.length ≤ c ∧ Sl w enc size A l ∧ (l = [] ∧ A = none ∨ ∃ g, A = some ⟨g, 0, none⟩ ∧ base ≤ g ∧ g < w.heap.size) := by
  rcases h.2 with ⟨hv, hn⟩ | ⟨g, cap, cur, hv, hg, hh, hnc, hcm, hsz, ht⟩
  · have hl : l = [] := List.eq_nil_of_length_eq_zero hn
    subst hl
    exact ⟨none, 0, hv, Nat.le_refl _, Sl.none_, .inl ⟨rfl, rfl⟩⟩
  · refine ⟨some ⟨g, 0, none⟩, cap, hv, hnc, fun _ => ⟨g, 0, rfl, fun j u hu => ?_⟩, .inr ⟨g, rfl, hg, (Array.getElem?_eq_some_iff.1 hh).1⟩⟩
    have hc := World.ownsRow.cells h (g := g) (by rw [hv]; rfl) j u hu
    have hadd : (⟨g, 0, none⟩ : Addr).add j = ⟨g, 0 + j, none⟩ := by unfold Addr.add; split <;> simp_all
    rw [hadd] at hc; exact hc
end

/-- The result is a slice of the call's own. -/
def OwnRes {α : Type} (E : TypeId) (size : Nat) (enc : α → List Value) (l : List α) (w : World) (e : Ending) (w' : World) : Prop :=
  ∃ v, e = .returned v ∧ Own w' w.heap.size E size enc v l ∧ Below w.heap.size w w'
/-! ### worlds -/
section
variable {w w1 : World} {B : Nat}
theorem Below_drewN (h : Below B w w1) (n : Nat) : Below B w (w1.drewN n) := ⟨h.os, h.tape, h.output, h.size, h.block⟩
theorem Below_of_alloc {o : Obj} (h : Below (w.alloc o).heap.size (w.alloc o) w1) : Below w.heap.size w w1 :=
  ((Below.refl _ _).alloc (Nat.le_refl _) o).trans (h.mono (by simp))
theorem Below_then (h : Below B w w1) {w2 : World} (h2 : Below w1.heap.size w1 w2) (hB : B ≤ w.heap.size) : Below B w w2 :=
  h.trans (h2.mono (Nat.le_trans hB h.size))
theorem Below_cells (hb : Below w.heap.size w w1) : ∀ b o u, w.cell? ⟨b, o, none⟩ = some u → w1.cell? ⟨b, o, none⟩ = some u :=
  fun _ _ _ h => (hb.cell (World.block_lt_of_cell? w _ h)).trans h
end

/-- 'append(v, x)' of one element onto a row of the call's own: x lies in a new block. -/
theorem wpList_app1 {P : Program} {α : Type} {enc : α → List Value} {ops : Array Oper} {rest : List Oper} {o : Oper} {a : Act} {Q : Exit → Act → World → Prop} {w0 wr : World} {B base size bytes : Nat} {t E : TypeId} {i : TypeInfo} {z : Value} {v : Value} {l : List α}
    (ht : P.underlying t = some (.slice E)) (hi : P.info? E = some i) (hz : i.zero = some z) (hsize : i.size = size) (hby : i.bytes = bytes) (hzs : z.cells.size = size) (hsz : 0 < size) (hb200 : bytes ≤ 256)
    (hgd : o.guard = none) (s x : Operand) (ho : o.op = .call { callee := .builtin .append, args := #[s, x], argTypes := #[t, t] })
    (hs : a.eval s = v) (hx : a.eval x = .slice (some ⟨wr.heap.size, 0, none⟩) 1 1)
    (hown : Own wr base E size enc v l) (hb : Below B w0 wr) (hB : B ≤ base) (hbase : base ≤ wr.heap.size) (hn : l.length ≤ 16777216) (y : α) (cells : Array Value) (hcl : cells = (enc y).toArray) (hce : (enc y).length = size) (h1 : ∀ u ∈ enc y, u.oneCell' = true)
    (h : ∀ v' w', Own w' base E size enc v' (l ++ [y]) → Below B w0 w' → wpList P ops Q rest (a.put o.dst v') w') : wpList P ops Q (o :: rest) a (wr.alloc (.cells cells E)) := by
  subst hcl
  refine wpList_append_own _ hgd s x t ho base E i z size bytes ht hi hz hsize hby hzs hsz v l.length (flat enc l) hs (World.ownsRow.alloc hown _) ⟨wr.heap.size, 0, none⟩ 1 1 (enc y) hx (by rw [hce, Nat.one_mul]) ?_ h1 ?_ ?_ ?_ ?_
  · intro j u hu
    have hadd : (⟨wr.heap.size, 0, none⟩ : Addr).add j = ⟨wr.heap.size, j, none⟩ := by unfold Addr.add; split <;> simp_all
    rw [hadd, cell_of_row _ _ j _ E (0, 0) (heap_alloc_new wr _)]
    simpa using hu
  · unfold maxLen; omega
  · have := Nat.mul_le_mul_left (l.length + 1) hb200; omega
  · simp; omega
  · intro v' w' hown' hg _
    refine h v' w' ?_ ((hb.alloc (Nat.le_trans hB hbase) _).grown hg (by simp; omega) (fun k hk => ?_))
    · show w'.ownsRow base E size v' (l ++ [y]).length (flat enc (l ++ [y]))
      rw [flat_snoc, List.length_append]; exact hown'
    · exact Nat.le_trans hB (World.ownsRow.lt hown k hk).1

/-- A list of bytes as a string. -/
def mk (l : List UInt8) : ByteArray := ⟨l.toArray⟩
theorem mk_size (l : List UInt8) : (mk l).size = l.length := by simp [mk, ByteArray.size]
theorem mk_bs (s : ByteArray) : mk s.data.toList = s := by cases s; rfl
theorem mk_toList (l : List UInt8) : (mk l).toList = l := by rw [ByteArray.toList_eq]; rfl
theorem mk_append (a b : List UInt8) : mk a ++ mk b = mk (a ++ b) := by
  apply ByteArray.ext; simp [mk]
theorem i32_byte (c : UInt8) : IntKind.i32.wrap (c.toNat : Int) = c.toNat := by
  have := c.toNat_lt
  rw [IntKind.wrap_i32]; omega
theorem ret_int {k : IntKind} {a b : Int} (h : a = b) : Ending.returned (.int k a) = .returned (.int k b) := by rw [h]
theorem ret_bool {a b : Bool} (h : a = b) : Ending.returned (.bool a) = .returned (.bool b) := by rw [h]
theorem ret_str {a b : ByteArray} (h : a = b) : Ending.returned (.string a) = .returned (.string b) := by rw [h]
theorem int_eq {k : IntKind} {a b : Int} (h : a = b) : Value.int k a = .int k b := by rw [h]
end Go.Proofs.YtokelopllbaikaaGreatDoor

/- What the program computes, in plain Lean on lists and integers: words, prints, trees, versions, filters, damage, spots, names, tags, searches. No program in sight. -/
set_option linter.unusedVariables false
namespace Go.Proofs.YtokelopllbaikaaGreatDoor
abbrev Bs := List UInt8

/-! ### words and prints -/
def inI (n lo hi : Int) : Bool := decide (lo ≤ n ∧ n ≤ hi)
def pv (n : Int) : Bool := inI n 0 16777212
def smallC (c : UInt8) : Bool := inI c.toNat 97 122
def digitC (c : UInt8) : Bool := inI c.toNat 48 57
def okC (c : UInt8) : Bool := decide (32 ≤ (c.toNat : Int) ∧ (c.toNat : Int) ≤ 126)
def textV (s : Bs) : Bool := decide (s.length ≤ 60) && s.all okC
def wordV (s : Bs) : Bool := decide (1 ≤ s.length ∧ s.length ≤ 8) && !digitC (s.headD 0) && s.all (fun c => smallC c || digitC c)
def hash (n : Int) (s : Bs) : Int := s.foldl (fun n c => (n * 257 + c.toNat) % 16777213) n
def foldC (c : UInt8) : UInt8 := if 65 ≤ (c.toNat : Int) ∧ (c.toNat : Int) ≤ 90 then c + 32 else c
def fineC (c : UInt8) : Bool := smallC (foldC c) || digitC (foldC c)
def foldName (s : Bs) : Bs := if 1 ≤ s.length ∧ s.length ≤ 8 ∧ s.all fineC = true then s.map foldC else []
def prOf (s : Bs) : Int := if textV s then hash 1 s else -1
def prPair (a b : Int) : Int := if pv a && pv b then (a * 7919 + b * 104729 + 3) % 16777213 else -1
def prList (l : List Int) : Int := if l.length ≤ 20 ∧ l.all pv = true then l.foldl prPair 5 else -1

theorem inI_true {n lo hi : Int} (h : lo ≤ n ∧ n ≤ hi) : inI n lo hi = true := by simp [inI, h]
theorem inI_false {n lo hi : Int} (h : ¬ (lo ≤ n ∧ n ≤ hi)) : inI n lo hi = false := by simp [inI]; omega
theorem pv_iff {n : Int} : pv n = true ↔ 0 ≤ n ∧ n ≤ 16777212 := by simp [pv, inI]
theorem hash_bd (s : Bs) : ∀ n : Int, 0 ≤ n → n ≤ 16777212 → 0 ≤ hash n s ∧ hash n s ≤ 16777212 := by
  induction s with
  | nil => intro n h1 h2; exact ⟨h1, h2⟩
  | cons c r ih =>
    intro n h1 h2
    have := ih ((n * 257 + c.toNat) % 16777213) (by omega) (by omega)
    simpa [hash] using this
theorem hash_snoc (n : Int) (s : Bs) (c : UInt8) : hash n (s ++ [c]) = (hash n s * 257 + c.toNat) % 16777213 := by simp [hash, List.foldl_append]
theorem prOf_bd (s : Bs) : -1 ≤ prOf s ∧ prOf s ≤ 16777212 := by
  unfold prOf; split
  · have := hash_bd s 1 (by omega) (by omega); omega
  · omega
theorem prOf_pv {s : Bs} (h : textV s = true) : pv (prOf s) = true := by
  unfold prOf; rw [if_pos h]; exact pv_iff.2 (hash_bd s 1 (by omega) (by omega))
theorem prOf_bad {s : Bs} (h : textV s = false) : prOf s = -1 := by unfold prOf; simp [h]
/-! ### trees -/
def lvlUp : List Int → List Int
  | a :: b :: r => prPair a b :: lvlUp r
  | [a] => [a]
  | [] => []
def proofF : Nat → List Int → Nat → List Int
  | 0, _, _ => []
  | f + 1, l, n => if 1 < l.length then (if n ^^^ 1 < l.length then l.getD (n ^^^ 1) 0 else -1) :: proofF f (lvlUp l) (n / 2) else []
end Go.Proofs.YtokelopllbaikaaGreatDoor

/- Stores of pieces, in plain Lean. No program in sight. -/
set_option linter.unusedVariables false
namespace Go.Proofs.YtokelopllbaikaaGreatDoor
--BEGIN
abbrev tx (s : ByteArray) : Bs := s.data.toList
def pieceOk (p : Pc) : Bool := textV (tx p.2) && (prOf (tx p.2) == p.1)
def pc0 : Pc := (0, ⟨#[]⟩)
def storeAt (l : List Pc) (k : Nat) : Bool := pieceOk (l.getD k pc0) && (k == 0 || decide ((l.getD (k - 1) pc0).1 < (l.getD k pc0).1))
def storeV (l : List Pc) : Bool := decide (l.length ≤ 40) && (List.range l.length).all (storeAt l)
theorem getD_pc {l : List Pc} {k : Nat} (h : k < l.length) : l.getD k pc0 = l[k] := by rw [List.getD_eq_getElem?_getD, List.getElem?_eq_getElem h]; rfl
theorem pieceOk_iff {p : Pc} : pieceOk p = true ↔ textV (tx p.2) = true ∧ prOf (tx p.2) = p.1 := by unfold pieceOk; rw [Bool.and_eq_true, beq_iff_eq]
def Sorted (l : List Pc) : Prop := l.Pairwise fun a b => a.1 < b.1
theorem storeV_iff {l : List Pc} : storeV l = true ↔ l.length ≤ 40 ∧ (∀ p ∈ l, pieceOk p = true) ∧ Sorted l := by
  unfold storeV
  rw [Bool.and_eq_true, decide_eq_true_eq, List.all_eq_true]
  constructor
  · rintro ⟨h1, h2⟩
    have hk : ∀ k (h : k < l.length), pieceOk l[k] = true ∧ (k = 0 ∨ (l.getD (k - 1) pc0).1 < l[k].1) := by
      intro k h
      have := h2 k (List.mem_range.2 h)
      unfold storeAt at this
      rw [Bool.and_eq_true, Bool.or_eq_true, beq_iff_eq, decide_eq_true_eq, getD_pc h] at this
      exact this
    refine ⟨h1, fun p hp => ?_, ?_⟩
    · obtain ⟨k, h, rfl⟩ := List.getElem_of_mem hp; exact (hk k h).1
    · refine List.pairwise_iff_getElem.2 ?_
      have aux : ∀ j (hj : j < l.length) i (hi : i < l.length), i < j → l[i].1 < l[j].1 := by
        intro j
        induction j with
        | zero => intro _ i _ h; omega
        | succ j ih =>
          intro hj i hi hij
          have h3 := (hk (j + 1) hj).2
          have h4 : l.getD (j + 1 - 1) pc0 = l[j] := getD_pc (k := j) (by omega)
          rw [h4] at h3
          rcases h3 with h3 | h3
          · omega
          · by_cases e : i = j
            · subst e; exact h3
            · have := ih (by omega) i hi (by omega); omega
      exact fun i j hi hj hij => aux j hj i hi hij
  · rintro ⟨h1, h2, h3⟩
    refine ⟨h1, fun k hk => ?_⟩
    rw [List.mem_range] at hk
    unfold storeAt
    rw [Bool.and_eq_true, Bool.or_eq_true, beq_iff_eq, decide_eq_true_eq, getD_pc hk]
    refine ⟨h2 _ (by simp), ?_⟩
    by_cases e : k = 0
    · exact .inl e
    · right
      rw [getD_pc (k := k - 1) (by omega)]
      exact List.pairwise_iff_getElem.1 h3 (k - 1) k (by omega) hk (by omega)
theorem storeV_len {l : List Pc} (h : storeV l = true) : l.length ≤ 40 := (storeV_iff.1 h).1
theorem storeV_sorted {l : List Pc} (h : storeV l = true) : Sorted l := (storeV_iff.1 h).2.2
theorem storeV_piece {l : List Pc} (h : storeV l = true) {p : Pc} (hp : p ∈ l) : pieceOk p = true := (storeV_iff.1 h).2.1 p hp
theorem storeV_bad {l : List Pc} {k : Nat} (h : k < l.length) (hb : storeAt l k = false) : storeV l = false := by
  cases hv : storeV l
  · rfl
  · unfold storeV at hv
    rw [Bool.and_eq_true, List.all_eq_true] at hv
    rw [hv.2 k (List.mem_range.2 h)] at hb; cases hb
theorem storeV_long {l : List Pc} (h : ¬ l.length ≤ 40) : storeV l = false := by
  unfold storeV; rw [decide_eq_false h]; rfl
def StoreUpto (l : List Pc) (k : Nat) : Prop := ∀ j, j < k → storeAt l j = true
theorem StoreUpto.zero (l : List Pc) : StoreUpto l 0 := fun j h => by omega
theorem StoreUpto.succ {l : List Pc} {k : Nat} (h : StoreUpto l k) (hk : storeAt l k = true) : StoreUpto l (k + 1) := fun j hj => by
  by_cases e : j = k
  · subst e; exact hk
  · exact h j (by omega)
theorem StoreUpto.done {l : List Pc} {k : Nat} (h : StoreUpto l k) (hk : ¬ k < l.length) (hl : l.length ≤ 40) : storeV l = true := by
  unfold storeV; rw [decide_eq_true hl, Bool.true_and, List.all_eq_true]
  intro j hj; rw [List.mem_range] at hj; exact h j (by omega)
theorem storeV_sub {l m : List Pc} (h : storeV l = true) (hs : m.Sublist l) : storeV m = true := by
  obtain ⟨h1, h2, h3⟩ := storeV_iff.1 h
  exact storeV_iff.2 ⟨Nat.le_trans hs.length_le h1, fun p hp => h2 p (hs.subset hp), h3.sublist hs⟩

/-! ### where a print stands -/
def below (l : List Pc) (p : Int) : Nat := (l.takeWhile fun x => decide (x.1 < p)).length
theorem below_le (l : List Pc) (p : Int) : below l p ≤ l.length := (List.takeWhile_sublist _).length_le
theorem below_of : ∀ (l : List Pc) (p : Int) (i : Nat), i ≤ l.length → (∀ t (h : t < l.length), t < i → l[t].1 < p) → (∀ h : i < l.length, ¬ l[i].1 < p) → below l p = i
  | [], p, i, hi, _, _ => by simp at hi; subst hi; rfl
  | x :: r, p, 0, _, _, h2 => by
    have := h2 (by simp)
    simp at this
    unfold below; rw [List.takeWhile_cons]
    rw [if_neg (by simpa using this)]; rfl
  | x :: r, p, i + 1, hi, h1, h2 => by
    have h0 := h1 0 (by simp) (by omega)
    simp at h0
    have ih := below_of r p i (by simpa using hi) (fun t h ht => h1 (t + 1) (Nat.succ_lt_succ h) (Nat.succ_lt_succ ht)) (fun h => h2 (Nat.succ_lt_succ h))
    unfold below at ih ⊢
    rw [List.takeWhile_cons, if_pos (by simpa using h0), List.length_cons, ih]
theorem below_lt : ∀ (l : List Pc) (p : Int) (t : Nat) (h : t < l.length), t < below l p → l[t].1 < p
  | x :: r, p, t, h, ht => by
    unfold below at ht
    rw [List.takeWhile_cons] at ht
    split at ht
    · rename_i hx
      cases t with
      | zero => simpa using hx
      | succ t => simpa using below_lt r p t (by simpa using h) (by unfold below; simpa using ht)
    · simp at ht
theorem below_ge : ∀ (l : List Pc) (p : Int) (h : below l p < l.length), ¬ l[below l p].1 < p
  | [], p, h => by simp at h
  | x :: r, p, h => by
    by_cases hx : x.1 < p
    · have e : below (x :: r) p = below r p + 1 := by unfold below; rw [List.takeWhile_cons, if_pos (by simpa using hx)]; rfl
      have h' : below r p < r.length := by rw [e] at h; simpa using h
      have := below_ge r p h'
      simp only [e, List.getElem_cons_succ]; exact this
    · have e : below (x :: r) p = 0 := by unfold below; rw [List.takeWhile_cons, if_neg (by simpa using hx)]; rfl
      simp only [e, List.getElem_cons_zero]; exact hx
def hereP (l : List Pc) (p : Int) : Bool := decide (below l p < l.length) && decide ((l.getD (below l p) pc0).1 = p)
def getT (l : List Pc) (p : Int) : Option ByteArray := (l.find? fun x => x.1 == p).map (·.2)
theorem getT_some {l : List Pc} {p : Int} {t : ByteArray} (h : getT l p = some t) : (p, t) ∈ l := by
  unfold getT at h
  obtain ⟨x, hx, rfl⟩ := Option.map_eq_some_iff.1 h
  have h1 := List.mem_of_find?_eq_some hx
  have h2 := List.find?_some hx
  simp at h2
  rw [← h2]; exact h1
theorem getT_none {l : List Pc} {p : Int} (h : getT l p = none) : ∀ x ∈ l, x.1 ≠ p := by
  unfold getT at h
  rw [Option.map_eq_none_iff, List.find?_eq_none] at h
  intro x hx e; exact h x hx (by simp [e])
theorem getT_none_iff {l : List Pc} {p : Int} : getT l p = none ↔ ∀ x ∈ l, x.1 ≠ p := by
  refine ⟨getT_none, fun h => ?_⟩
  unfold getT
  rw [Option.map_eq_none_iff, List.find?_eq_none]
  intro x hx; simpa using h x hx
theorem sorted_inj {l : List Pc} (h : Sorted l) {a b : Pc} (ha : a ∈ l) (hb : b ∈ l) (e : a.1 = b.1) : a = b := by
  obtain ⟨i, hi, rfl⟩ := List.getElem_of_mem ha
  obtain ⟨j, hj, rfl⟩ := List.getElem_of_mem hb
  have hp := List.pairwise_iff_getElem.1 h
  by_cases h1 : i < j
  · have := hp i j hi hj h1; omega
  · by_cases h2 : j < i
    · have := hp j i hj hi h2; omega
    · have : i = j := by omega
      subst this; rfl
theorem getT_mem {l : List Pc} (hs : Sorted l) {p : Int} {t : ByteArray} (h : (p, t) ∈ l) : getT l p = some t := by
  cases hg : getT l p with
  | none => exact absurd rfl (getT_none hg _ h)
  | some u =>
    have := sorted_inj hs (getT_some hg) h rfl
    injection this with _ e; rw [e]
theorem below_sorted {l : List Pc} (hs : Sorted l) {p : Int} {t : Nat} (h : t < l.length) (ht : below l p ≤ t) : ¬ l[t].1 < p := by
  by_cases e : below l p = t
  · subst e; exact below_ge l p h
  · have h1 := below_ge l p (by omega)
    have h2 := List.pairwise_iff_getElem.1 hs (below l p) t (by omega) h (by omega)
    omega
theorem getT_here {l : List Pc} (hs : Sorted l) {p : Int} : getT l p = if hereP l p then some (l.getD (below l p) pc0).2 else none := by
  unfold hereP
  by_cases hlt : below l p < l.length
  · rw [decide_eq_true hlt, Bool.true_and, getD_pc hlt]
    by_cases e : l[below l p].1 = p
    · rw [decide_eq_true e, if_pos rfl]
      exact getT_mem hs (by
        have e2 : (p, l[below l p].2) = l[below l p] := Prod.ext e.symm rfl
        rw [e2]; exact List.getElem_mem hlt)
    · rw [decide_eq_false e, if_neg (by simp)]
      refine getT_none_iff.2 fun x hx hxe => ?_
      obtain ⟨t, ht, rfl⟩ := List.getElem_of_mem hx
      by_cases h1 : t < below l p
      · have := below_lt l p t ht h1; omega
      · have h2 := below_ge l p hlt
        by_cases e2 : below l p = t
        · subst e2; exact e hxe
        · have h3 := List.pairwise_iff_getElem.1 hs (below l p) t hlt ht (by omega)
          omega
  · rw [decide_eq_false hlt, Bool.false_and, if_neg (by simp)]
    refine getT_none_iff.2 fun x hx hxe => ?_
    obtain ⟨t, ht, rfl⟩ := List.getElem_of_mem hx
    have := below_lt l p t ht (by omega)
    omega

/-! ### one text more -/
def putT (l : List Pc) (t : ByteArray) : List Pc × Int × Bool :=
  if storeV l then
    if textV (tx t) then
      match getT l (prOf (tx t)) with
      | some u => if u = t then (l, prOf (tx t), true) else (l, -1, false)
      | none => if l.length = 40 then (l, -1, false) else (l.take (below l (prOf (tx t))) ++ (prOf (tx t), t) :: l.drop (below l (prOf (tx t))), prOf (tx t), true)
    else (l, -1, false)
  else ([], -1, false)
theorem putT_bad {l : List Pc} {t : ByteArray} (h : storeV l = false) : putT l t = ([], -1, false) := by unfold putT; rw [h]; rfl
theorem putT_text {l : List Pc} {t : ByteArray} (h : storeV l = true) (ht : textV (tx t) = false) : putT l t = (l, -1, false) := by unfold putT; rw [h, ht]; rfl
theorem putT_there {l : List Pc} {t : ByteArray} (h : storeV l = true) (ht : textV (tx t) = true) (hg : getT l (prOf (tx t)) = some t) : putT l t = (l, prOf (tx t), true) := by
  unfold putT; rw [h, ht, hg]; simp
theorem putT_clash {l : List Pc} {t u : ByteArray} (h : storeV l = true) (ht : textV (tx t) = true) (hg : getT l (prOf (tx t)) = some u) (hne : u ≠ t) : putT l t = (l, -1, false) := by
  unfold putT; rw [h, ht, hg]; simp [hne]
theorem putT_full {l : List Pc} {t : ByteArray} (h : storeV l = true) (ht : textV (tx t) = true) (hg : getT l (prOf (tx t)) = none) (hl : l.length = 40) : putT l t = (l, -1, false) := by
  unfold putT; rw [h, ht, hg]; simp [hl]
theorem putT_new {l : List Pc} {t : ByteArray} (h : storeV l = true) (ht : textV (tx t) = true) (hg : getT l (prOf (tx t)) = none) (hl : l.length ≠ 40) :
    putT l t = (l.take (below l (prOf (tx t))) ++ (prOf (tx t), t) :: l.drop (below l (prOf (tx t))), prOf (tx t), true) := by
  unfold putT; rw [h, ht, hg]; simp [hl]
theorem insert_sorted {l : List Pc} (hs : Sorted l) {x : Pc} (hx : ∀ y ∈ l, y.1 ≠ x.1) : Sorted (l.take (below l x.1) ++ x :: l.drop (below l x.1)) := by
  unfold Sorted
  rw [List.pairwise_append, List.pairwise_cons]
  have hlo : ∀ a ∈ l.take (below l x.1), a.1 < x.1 := by
    intro a ha
    obtain ⟨t, ht, rfl⟩ := List.getElem_of_mem ha
    rw [List.length_take] at ht
    rw [List.getElem_take]
    exact below_lt l x.1 t (by omega) (by omega)
  have hhi : ∀ b ∈ l.drop (below l x.1), x.1 < b.1 := by
    intro b hb
    have hm := List.mem_of_mem_drop hb
    obtain ⟨t, ht, rfl⟩ := List.getElem_of_mem hb
    rw [List.length_drop] at ht
    rw [List.getElem_drop] at hm ⊢
    have h1 := below_sorted hs (p := x.1) (t := below l x.1 + t) (by omega) (by omega)
    have h2 := hx _ hm
    omega
  refine ⟨hs.sublist (List.take_sublist _ _), ⟨hhi, hs.sublist (List.drop_sublist _ _)⟩, fun a ha b hb => ?_⟩
  have h1 := hlo a ha
  rcases List.mem_cons.1 hb with rfl | hb
  · exact h1
  · have := hhi b hb; omega
/-- What a text that was put brings. -/
structure PutOk (l : List Pc) (t : ByteArray) (l' : List Pc) : Prop where
  valid : storeV l' = true
  mem : ∀ p, p ∈ l' ↔ p ∈ l ∨ p = (prOf (tx t), t)
  text : textV (tx t) = true
  len : l'.length ≤ l.length + 1
theorem putT_ok {l : List Pc} {t : ByteArray} (hok : (putT l t).2.2 = true) : storeV l = true ∧ PutOk l t (putT l t).1 ∧ (putT l t).2.1 = prOf (tx t) := by
  cases h : storeV l
  · rw [putT_bad h] at hok; cases hok
  cases ht : textV (tx t)
  · rw [putT_text h ht] at hok; cases hok
  cases hg : getT l (prOf (tx t)) with
  | some u =>
    by_cases e : u = t
    · subst e
      rw [putT_there h ht hg]
      refine ⟨rfl, ⟨h, fun p => ⟨.inl, fun hp => hp.elim id fun e => ?_⟩, ht, by simp⟩, rfl⟩
      rw [e]; exact getT_some hg
    · rw [putT_clash h ht hg e] at hok; cases hok
  | none =>
    by_cases hl : l.length = 40
    · rw [putT_full h ht hg hl] at hok; cases hok
    · rw [putT_new h ht hg hl]
      have hmem : ∀ p, p ∈ (l.take (below l (prOf (tx t))) ++ (prOf (tx t), t) :: l.drop (below l (prOf (tx t)))) ↔ p ∈ l ∨ p = (prOf (tx t), t) := by
        intro p
        rw [List.mem_append, List.mem_cons]
        constructor
        · rintro (hp | rfl | hp)
          · exact .inl (List.mem_of_mem_take hp)
          · exact .inr rfl
          · exact .inl (List.mem_of_mem_drop hp)
        · rintro (hp | rfl)
          · rw [← List.take_append_drop (below l (prOf (tx t))) l, List.mem_append] at hp
            rcases hp with hp | hp
            · exact .inl hp
            · exact .inr (.inr hp)
          · exact .inr (.inl rfl)
      have hlen : (l.take (below l (prOf (tx t))) ++ (prOf (tx t), t) :: l.drop (below l (prOf (tx t)))).length = l.length + 1 := by
        have := below_le l (prOf (tx t)); simp; omega
      refine ⟨rfl, ⟨storeV_iff.2 ⟨by have := storeV_len h; rw [hlen]; omega, fun p hp => ?_, insert_sorted (storeV_sorted h) (x := (prOf (tx t), t)) (getT_none hg)⟩, hmem, ht, by rw [hlen]; omega⟩, rfl⟩
      rcases (hmem p).1 hp with hp | rfl
      · exact storeV_piece h hp
      · exact pieceOk_iff.2 ⟨ht, rfl⟩
theorem putT_no {l : List Pc} {t : ByteArray} (h : storeV l = true) (hok : (putT l t).2.2 = false) : putT l t = (l, -1, false) := by
  cases ht : textV (tx t)
  · exact putT_text h ht
  cases hg : getT l (prOf (tx t)) with
  | some u =>
    by_cases e : u = t
    · subst e
      rw [putT_there h ht hg] at hok; cases hok
    · exact putT_clash h ht hg e
  | none =>
    by_cases hl : l.length = 40
    · exact putT_full h ht hg hl
    · rw [putT_new h ht hg hl] at hok; cases hok
theorem putT_len (l : List Pc) (t : ByteArray) : (putT l t).1.length ≤ 40 := by
  cases h : storeV l
  · rw [putT_bad h]; simp
  · cases hok : (putT l t).2.2
    · rw [putT_no h hok]; exact storeV_len h
    · exact storeV_len (putT_ok hok).2.1.valid
/-- When a text can be put. -/
theorem putT_can {l : List Pc} {t : ByteArray} : (putT l t).2.2 = true ↔ storeV l = true ∧ textV (tx t) = true ∧ (∀ u, (prOf (tx t), u) ∈ l → u = t) ∧ ((prOf (tx t), t) ∈ l ∨ l.length < 40) := by
  constructor
  · intro hok
    cases h : storeV l
    · rw [putT_bad h] at hok; cases hok
    cases ht : textV (tx t)
    · rw [putT_text h ht] at hok; cases hok
    refine ⟨rfl, rfl, ?_⟩
    cases hg : getT l (prOf (tx t)) with
    | some u =>
      by_cases e : u = t
      · subst e
        exact ⟨fun v hv => by have := getT_mem (storeV_sorted h) hv; rw [hg] at this; injection this with e; exact e.symm, .inl (getT_some hg)⟩
      · rw [putT_clash h ht hg e] at hok; cases hok
    | none =>
      by_cases hl : l.length = 40
      · rw [putT_full h ht hg hl] at hok; cases hok
      · exact ⟨fun v hv => absurd rfl (getT_none hg _ hv), .inr (by have := storeV_len h; omega)⟩
  · rintro ⟨h, ht, h1, h2⟩
    cases hg : getT l (prOf (tx t)) with
    | some u =>
      have := h1 u (getT_some hg)
      subst this
      rw [putT_there h ht hg]
    | none =>
      rw [putT_new h ht hg]
      rcases h2 with h2 | h2
      · exact absurd rfl (getT_none hg _ h2)
      · omega
/-- Two stores with the same pieces are the same. -/
theorem sorted_ext : ∀ {a b : List Pc}, Sorted a → Sorted b → (∀ p, p ∈ a ↔ p ∈ b) → a = b := by
  intro a b ha hb h
  have na : a.Nodup := ha.imp (fun h e => by subst e; omega)
  have nb : b.Nodup := hb.imp (fun h e => by subst e; omega)
  have hp : a.Perm b := (List.perm_ext_iff_of_nodup na nb).2 h
  exact hp.eq_of_pairwise (le := fun x y : Pc => x.1 < y.1) (fun x y _ _ h1 h2 => by omega) ha hb
theorem store_ext {a b : List Pc} (ha : storeV a = true) (hb : storeV b = true) (h : ∀ p, p ∈ a ↔ p ∈ b) : a = b := sorted_ext (storeV_sorted ha) (storeV_sorted hb) h
/-! ### the right pieces of a list -/
--END
end Go.Proofs.YtokelopllbaikaaGreatDoor

/- Versions and tags in plain Lean. -/
set_option linter.unusedVariables false
namespace Go.Proofs.YtokelopllbaikaaGreatDoor

def verAt (k : Nat) (v : Vr) : Bool := pv v.1 && (decide (-1 ≤ v.2.1) && (decide (v.2.1 < k) && wordV v.2.2.data.toList))
def versFrom : Nat → List Vr → Bool
  | _, [] => true
  | k, v :: r => verAt k v && versFrom (k + 1) r
def versV (l : List Vr) : Bool := decide (l.length ≤ 12) && versFrom 0 l
def makeTag (l : List Vr) (name : ByteArray) (n : Int) : Option Tg :=
  if wordV name.data.toList && versV l && decide (0 ≤ n ∧ n < l.length) then some (name, n, (l.getD n.toNat (0, 0, name)).1, prList [prOf name.data.toList, n, (l.getD n.toNat (0, 0, name)).1]) else none
theorem makeTag_ok {l : List Vr} {name : ByteArray} {k : Nat} (hw : wordV name.data.toList = true) (hv : versV l = true) (hk : k < l.length) : makeTag l name k = some (name, (k : Int), l[k].1, prList [prOf name.data.toList, (k : Int), l[k].1]) := by
  have e : l.getD k (0, 0, name) = l[k] := by rw [List.getD_eq_getElem?_getD, List.getElem?_eq_getElem hk]; rfl
  unfold makeTag
  rw [hw, hv, if_pos (by simp; omega), Int.toNat_natCast, e]
theorem makeTag_none {l : List Vr} {name : ByteArray} {n : Int} (h : wordV name.data.toList = false ∨ versV l = false ∨ n < 0 ∨ (l.length : Int) ≤ n) : makeTag l name n = none := by
  unfold makeTag
  rw [if_neg]
  intro hh
  simp only [Bool.and_eq_true, decide_eq_true_eq] at hh
  rcases h with h | h | h | h
  · rw [h] at hh; cases hh.1.1
  · rw [h] at hh; cases hh.1.2
  · omega
  · omega
end Go.Proofs.YtokelopllbaikaaGreatDoor

/- Words of a text, and repaired pieces, in plain Lean. -/
set_option linter.unusedVariables false
namespace Go.Proofs.YtokelopllbaikaaGreatDoor

end Go.Proofs.YtokelopllbaikaaGreatDoor

/- Cutting a text at a byte, in plain Lean: the library's words and ours. -/
set_option linter.unusedVariables false
namespace Go.Proofs.YtokelopllbaikaaGreatDoor
open Go.Lib (splitK index indexByte)
theorem index_hit (x : UInt8) (r : Bs) : index (x :: r) [x] = 0 := by rw [Go.Lib.index_one, indexByte]; simp
theorem index_skip {x c : UInt8} (h : c ≠ x) (r : Bs) : index (c :: r) [x] = if index r [x] == -1 then -1 else index r [x] + 1 := by
  rw [Go.Lib.index_one, Go.Lib.index_one, indexByte]
  have : (c == x) = false := by simpa using h
  rw [this]; simp
theorem index_nil (x : UInt8) : index [] [x] = -1 := rfl
theorem splitK_hit (x : UInt8) (k : Nat) (r : Bs) : splitK [x] 0 (k + 1) (x :: r) = [] :: splitK [x] 0 k r := by
  rw [splitK, index_hit]; rfl
theorem splitK_ne (x : UInt8) : ∀ (k : Nat) (s : Bs), splitK [x] 0 k s ≠ []
  | 0, s => by simp [splitK]
  | k + 1, s => by rw [splitK]; split <;> simp
/-- One byte more ahead, which is not the one at which it is cut. -/
def onHead (c : UInt8) : List Bs → List Bs
  | [] => []
  | p :: ps => (c :: p) :: ps
theorem splitK_skip {x c : UInt8} (h : c ≠ x) : ∀ (k : Nat) (r : Bs), splitK [x] 0 k (c :: r) = onHead c (splitK [x] 0 k r)
  | 0, r => rfl
  | k + 1, r => by
    have hge := Go.Lib.index_ge r [x]
    rw [splitK, splitK, index_skip h]
    by_cases e : index r [x] = -1
    · simp [e, onHead]
    · have e1 : (index r [x] == -1) = false := by simpa using e
      have e2 : (index r [x] + 1 == -1) = false := by simp; omega
      rw [e1]
      simp only [Bool.false_eq_true, if_false, e2]
      have e3 : (index r [x] + 1).toNat = (index r [x]).toNat + 1 := by omega
      rw [e3]
      simp [onHead]
end Go.Proofs.YtokelopllbaikaaGreatDoor
