/- Written by merge.py: Pure, Heap, Ty, W1, Rd, Open, Sl, Open2, Fi, Dr1, Fi2, Ap, Eq, Far, W2, Mk, W3, St, SPiece. -/
import Derived.WalkKit
import Derived.WalkLawsBesides
import Derived.WalkSpells
import Derived.Deep.AppendLies
import Derived.Deep.Draws
import Derived.Maps.AppendAt
import Derived.Lib.Hide
import Derived.Deep.QuietTactic
import Derived.Test.YtaghiefokmapmaaGreatDoorChecked
import Derived.Outline
import Derived.BigQuiet
import Derived.Laws.BitsAllLaws
import Derived.Laws.BitsLemmas
import Derived.Test.YtaghiefokmapmaaGreatDoorRows
import Derived.ProofKit
import Derived.OpenShut
import Derived.ShutString
import Derived.ChangeOld
import Derived.SliceStrings
import Derived.Lib.SmallJoins
/- What the program computes, in plain Lean on lists and integers: words, prints, trees, versions, filters, damage, spots, names, tags, searches. No program in sight. -/
set_option linter.unusedVariables false
namespace Go.Proofs.YtaghiefokmapmaaGreatDoor
abbrev Bs := List UInt8

/-! ### words and prints -/
def inI (n lo hi : Int) : Bool := decide (lo ≤ n ∧ n ≤ hi)
def pv (n : Int) : Bool := inI n 0 16777212
def smallC (c : UInt8) : Bool := inI c.toNat 97 122
def digitC (c : UInt8) : Bool := inI c.toNat 48 57
def okC (c : UInt8) : Bool := decide (32 ≤ (c.toNat : Int) ∧ (c.toNat : Int) ≤ 126)
def textV (s : Bs) : Bool := decide (s.length ≤ 60) && s.all okC
def wordV (s : Bs) : Bool := decide (1 ≤ s.length ∧ s.length ≤ 8) && !digitC (s.headD 0) && s.all (fun c => smallC c || digitC c)
def hash (n : Int) (s : Bs) : Int := s.foldl (fun n c => (n * 257 + c.toNat) % 16777213) n
def foldC (c : UInt8) : UInt8 := if 65 ≤ (c.toNat : Int) ∧ (c.toNat : Int) ≤ 90 then c + 32 else c
def fineC (c : UInt8) : Bool := smallC (foldC c) || digitC (foldC c)
def foldName (s : Bs) : Bs := if 1 ≤ s.length ∧ s.length ≤ 8 ∧ s.all fineC = true then s.map foldC else []
def prOf (s : Bs) : Int := if textV s then hash 1 s else -1
def prPair (a b : Int) : Int := if pv a && pv b then (a * 7919 + b * 104729 + 3) % 16777213 else -1
def prList (l : List Int) : Int := if l.length ≤ 20 ∧ l.all pv = true then l.foldl prPair 5 else -1

theorem inI_true {n lo hi : Int} (h : lo ≤ n ∧ n ≤ hi) : inI n lo hi = true := by simp [inI, h]
theorem inI_false {n lo hi : Int} (h : ¬ (lo ≤ n ∧ n ≤ hi)) : inI n lo hi = false := by simp [inI]; omega
theorem pv_iff {n : Int} : pv n = true ↔ 0 ≤ n ∧ n ≤ 16777212 := by simp [pv, inI]
theorem pv_false {n : Int} : pv n = false ↔ ¬ (0 ≤ n ∧ n ≤ 16777212) := by
  cases h : pv n
  · simp only [true_iff]; intro hh; rw [pv_iff.2 hh] at h; cases h
  · simp only [Bool.true_eq_false, false_iff, Decidable.not_not]; exact pv_iff.1 h

theorem hash_bd (s : Bs) : ∀ n : Int, 0 ≤ n → n ≤ 16777212 → 0 ≤ hash n s ∧ hash n s ≤ 16777212 := by
  induction s with
  | nil => intro n h1 h2; exact ⟨h1, h2⟩
  | cons c r ih =>
    intro n h1 h2
    have := ih ((n * 257 + c.toNat) % 16777213) (by omega) (by omega)
    simpa [hash] using this
theorem hash_snoc (n : Int) (s : Bs) (c : UInt8) : hash n (s ++ [c]) = (hash n s * 257 + c.toNat) % 16777213 := by simp [hash, List.foldl_append]
theorem prOf_bd (s : Bs) : -1 ≤ prOf s ∧ prOf s ≤ 16777212 := by
  unfold prOf; split
  · have := hash_bd s 1 (by omega) (by omega); omega
  · omega
theorem prOf_pv {s : Bs} (h : textV s = true) : pv (prOf s) = true := by
  unfold prOf; rw [if_pos h]; exact pv_iff.2 (hash_bd s 1 (by omega) (by omega))
theorem prOf_bad {s : Bs} (h : textV s = false) : prOf s = -1 := by unfold prOf; simp [h]
theorem prPair_bd (a b : Int) : -1 ≤ prPair a b ∧ prPair a b ≤ 16777212 := by
  unfold prPair; split <;> omega
theorem prPair_pv {a b : Int} (ha : pv a = true) (hb : pv b = true) : pv (prPair a b) = true := by
  unfold prPair; rw [ha, hb]; simp only [Bool.and_self, if_true]; exact pv_iff.2 (by omega)

/-! ### trees -/
def lvlUp : List Int → List Int
  | a :: b :: r => prPair a b :: lvlUp r
  | [a] => [a]
  | [] => []
def leavesV (l : List Int) : Bool := decide (1 ≤ l.length ∧ l.length ≤ 16) && l.all pv
/-- The top after at most 'f' levels. -/
def topF : Nat → List Int → Int
  | 0, l => l.headD 0
  | f + 1, l => if 1 < l.length then topF f (lvlUp l) else l.headD 0
def treeRoot (l : List Int) : Int := if leavesV l then topF 5 l else -1
def proofF : Nat → List Int → Nat → List Int
  | 0, _, _ => []
  | f + 1, l, n => if 1 < l.length then (if n ^^^ 1 < l.length then l.getD (n ^^^ 1) 0 else -1) :: proofF f (lvlUp l) (n / 2) else []
def treeProof (l : List Int) (n : Int) : List Int := if leavesV l ∧ 0 ≤ n ∧ n < l.length then proofF 5 l n.toNat else []

end Go.Proofs.YtaghiefokmapmaaGreatDoor

/- Words for memory: a slice that reads as a list; rows of the call's own; an append of one element. Plain theorems, no program in sight. -/
set_option linter.unusedVariables false
namespace Go.Proofs.YtaghiefokmapmaaGreatDoor
open Go.RowKit

/-- The cells of a list of elements, one after the other. -/
def flat {α : Type} (enc : α → List Value) (l : List α) : List Value := l.flatMap enc
theorem flat_nil {α : Type} (enc : α → List Value) : flat enc [] = [] := rfl
theorem flat_append {α : Type} (enc : α → List Value) (l m : List α) : flat enc (l ++ m) = flat enc l ++ flat enc m := by simp [flat]
theorem flat_snoc {α : Type} (enc : α → List Value) (l : List α) (x : α) : flat enc (l ++ [x]) = flat enc l ++ enc x := by simp [flat]
theorem flat_cons {α : Type} (enc : α → List Value) (l : List α) (x : α) : flat enc (x :: l) = enc x ++ flat enc l := by simp [flat]
theorem flat_length {α : Type} {enc : α → List Value} {size : Nat} (he : ∀ x, (enc x).length = size) (l : List α) : (flat enc l).length = l.length * size := by
  induction l with
  | nil => simp [flat]
  | cons x r ih => rw [flat_cons, List.length_append, he, ih, List.length_cons, Nat.succ_mul, Nat.add_comm]
theorem flat_get {α : Type} {enc : α → List Value} {size : Nat} (he : ∀ x, (enc x).length = size) (l : List α) : ∀ (k : Nat) (hk : k < l.length) (j : Nat), j < size → (flat enc l)[k * size + j]? = (enc l[k])[j]? := by
  induction l with
  | nil => intro k hk; simp at hk
  | cons x r ih =>
    intro k hk j hj
    rw [flat_cons]
    cases k with
    | zero => simp only [Nat.zero_mul, Nat.zero_add, List.getElem_cons_zero]; rw [List.getElem?_append_left (by rw [he]; exact hj)]
    | succ k =>
      rw [List.getElem?_append_right (by rw [he, Nat.succ_mul]; omega), he]
      have e : (k + 1) * size + j - size = k * size + j := by rw [Nat.succ_mul]; omega
      rw [e, ih k (by simpa using hk) j hj]; simp

def encI (x : Int) : List Value := [.int .i64 x]
def encS (s : ByteArray) : List Value := [.string s]
abbrev Pc := Int × ByteArray
def encP (p : Pc) : List Value := [.int .i64 p.1, .string p.2]
abbrev En := ByteArray × Int
def encE (p : En) : List Value := [.string p.1, .int .i64 p.2]
abbrev Vr := Int × Int × ByteArray
def encV (v : Vr) : List Value := [.int .i64 v.1, .int .i64 v.2.1, .string v.2.2]
abbrev Tg := ByteArray × Int × Int × Int
def encT (v : Tg) : List Value := [.string v.1, .int .i64 v.2.1, .int .i64 v.2.2.1, .int .i64 v.2.2.2]

/-- The slice value '.slice A n c' holds the elements l ('size' cells each); n is l's length. -/
def Sl {α : Type} (w : World) (enc : α → List Value) (size : Nat) (A : Option Addr) (l : List α) : Prop :=
  0 < l.length → ∃ b o, A = some ⟨b, o, none⟩ ∧ ∀ j u, (flat enc l)[j]? = some u → w.cell? ⟨b, o + j, none⟩ = some u

section
variable {α : Type} {enc : α → List Value} {w w' : World} {B size : Nat} {A : Option Addr} {l : List α}
theorem Sl.none_ : Sl w enc size A [] := fun h => absurd h (by simp)
theorem Sl.keep (h : Sl w enc size A l) (hk : ∀ p : Addr, p.block < w.heap.size → w'.cell? p = w.cell? p) : Sl w' enc size A l := by
  intro hn
  obtain ⟨b, o, e, hc⟩ := h hn
  refine ⟨b, o, e, fun j u hu => ?_⟩
  have hcc := hc j u hu
  rw [hk _ (World.block_lt_of_cell? w _ hcc)]; exact hcc
theorem Sl.below (h : Sl w enc size A l) (hb : Below w.heap.size w w') : Sl w' enc size A l := h.keep fun _ hp => hb.cell hp
theorem Sl.drew (h : Sl w enc size A l) : Sl w.drew enc size A l := h
theorem Sl.drewN (h : Sl w enc size A l) (k : Nat) : Sl (w.drewN k) enc size A l := h
theorem Sl.alloc (h : Sl w enc size A l) (o : Obj) : Sl (w.alloc o) enc size A l := h.keep fun p hp => World.cell?_alloc_lt w o p hp
theorem Sl.get {k : Nat} (h : Sl w enc size A l) (he : ∀ x, (enc x).length = size) (hk : k < l.length) :
    ∃ b o, A = some ⟨b, o, none⟩ ∧ ∀ j u, j < size → (enc l[k])[j]? = some u → w.cell? ⟨b, o + (k * size + j), none⟩ = some u := by
  obtain ⟨b, o, e, hc⟩ := h (by omega)
  refine ⟨b, o, e, fun j u hj hu => hc _ u ?_⟩
  rw [flat_get he l k hk j hj]; exact hu
end

theorem Sl.getI {w : World} {A : Option Addr} {l : List Int} {k : Nat} (h : Sl w encI 1 A l) (hk : k < l.length) :
    ∃ b o, A = some ⟨b, o, none⟩ ∧ w.cell? ⟨b, o + k, none⟩ = some (.int .i64 l[k]) := by
  obtain ⟨b, o, e, hc⟩ := h.get (fun _ => rfl) hk
  exact ⟨b, o, e, by simpa using hc 0 _ (by omega) rfl⟩
theorem Sl.getS {w : World} {A : Option Addr} {l : List ByteArray} {k : Nat} (h : Sl w encS 1 A l) (hk : k < l.length) :
    ∃ b o, A = some ⟨b, o, none⟩ ∧ w.cell? ⟨b, o + k, none⟩ = some (.string l[k]) := by
  obtain ⟨b, o, e, hc⟩ := h.get (fun _ => rfl) hk
  exact ⟨b, o, e, by simpa using hc 0 _ (by omega) rfl⟩
theorem Sl.getP {w : World} {A : Option Addr} {l : List Pc} {k : Nat} (h : Sl w encP 2 A l) (hk : k < l.length) :
    ∃ b o, A = some ⟨b, o, none⟩ ∧ w.cell? ⟨b, o + k * 2, none⟩ = some (.int .i64 l[k].1) ∧ w.cell? ⟨b, o + k * 2 + 1, none⟩ = some (.string l[k].2) := by
  obtain ⟨b, o, e, hc⟩ := h.get (fun _ => rfl) hk
  exact ⟨b, o, e, by simpa using hc 0 _ (by omega) rfl, by simpa [Nat.add_assoc] using hc 1 _ (by omega) rfl⟩
theorem Sl.getE {w : World} {A : Option Addr} {l : List En} {k : Nat} (h : Sl w encE 2 A l) (hk : k < l.length) :
    ∃ b o, A = some ⟨b, o, none⟩ ∧ w.cell? ⟨b, o + k * 2, none⟩ = some (.string l[k].1) ∧ w.cell? ⟨b, o + k * 2 + 1, none⟩ = some (.int .i64 l[k].2) := by
  obtain ⟨b, o, e, hc⟩ := h.get (fun _ => rfl) hk
  exact ⟨b, o, e, by simpa using hc 0 _ (by omega) rfl, by simpa [Nat.add_assoc] using hc 1 _ (by omega) rfl⟩
theorem Sl.getV {w : World} {A : Option Addr} {l : List Vr} {k : Nat} (h : Sl w encV 3 A l) (hk : k < l.length) :
    ∃ b o, A = some ⟨b, o, none⟩ ∧ w.cell? ⟨b, o + k * 3, none⟩ = some (.int .i64 l[k].1) ∧ w.cell? ⟨b, o + k * 3 + 1, none⟩ = some (.int .i64 l[k].2.1) ∧ w.cell? ⟨b, o + k * 3 + 2, none⟩ = some (.string l[k].2.2) := by
  obtain ⟨b, o, e, hc⟩ := h.get (fun _ => rfl) hk
  exact ⟨b, o, e, by simpa using hc 0 _ (by omega) rfl, by simpa [Nat.add_assoc] using hc 1 _ (by omega) rfl, by simpa [Nat.add_assoc] using hc 2 _ (by omega) rfl⟩
theorem Sl.getT {w : World} {A : Option Addr} {l : List Tg} {k : Nat} (h : Sl w encT 4 A l) (hk : k < l.length) :
    ∃ b o, A = some ⟨b, o, none⟩ ∧ w.cell? ⟨b, o + k * 4, none⟩ = some (.string l[k].1) ∧ w.cell? ⟨b, o + k * 4 + 1, none⟩ = some (.int .i64 l[k].2.1) ∧ w.cell? ⟨b, o + k * 4 + 2, none⟩ = some (.int .i64 l[k].2.2.1) ∧ w.cell? ⟨b, o + k * 4 + 3, none⟩ = some (.int .i64 l[k].2.2.2) := by
  obtain ⟨b, o, e, hc⟩ := h.get (fun _ => rfl) hk
  exact ⟨b, o, e, by simpa using hc 0 _ (by omega) rfl, by simpa [Nat.add_assoc] using hc 1 _ (by omega) rfl, by simpa [Nat.add_assoc] using hc 2 _ (by omega) rfl, by simpa [Nat.add_assoc] using hc 3 _ (by omega) rfl⟩

/-! ### rows of the call's own -/
/-- The slice value v owns a row, in a block from 'base' on, that holds the elements l. -/
def Own {α : Type} (w : World) (base : Nat) (E : TypeId) (size : Nat) (enc : α → List Value) (v : Value) (l : List α) : Prop :=
  w.ownsRow base E size v l.length (flat enc l)

section
variable {α : Type} {enc : α → List Value} {w w' : World} {B base size : Nat} {E : TypeId} {v : Value} {l : List α}
theorem Own.nil : Own w base E size enc (.slice none 0 0) [] := World.ownsRow_nil _ _ _ _
theorem Own.made (hb : base ≤ w.heap.size) : Own (w.alloc (.cells #[] E)) base E size enc (.slice (some ⟨w.heap.size, 0, none⟩) 0 0) [] :=
  World.ownsRow_made _ _ 0 hb (by unfold maxLen; omega) (by simp)
theorem Own.below (h : Own w base E size enc v l) (hb : Below w.heap.size w w') : Own w' base E size enc v l :=
  World.ownsRow.kept h (row := none) ⟨hb.os, hb.tape, hb.output, hb.size, fun k hk _ => hb.block k hk⟩ (by cases hv : v.ownBlock <;> simp)
theorem Own.alloc (h : Own w base E size enc v l) (o : Obj) : Own (w.alloc o) base E size enc v l := World.ownsRow.alloc h o
theorem Own.drew (h : Own w base E size enc v l) : Own w.drew base E size enc v l := h
theorem Own.drewN (h : Own w base E size enc v l) (k : Nat) : Own (w.drewN k) base E size enc v l := h
theorem Own.mono {base' : Nat} (h : Own w base E size enc v l) (hb : base' ≤ base) : Own w base' E size enc v l := by
  refine ⟨h.1, ?_⟩
  rcases h.2 with h2 | ⟨g, cap, cur, hv, hg, r⟩
  · exact .inl h2
  · exact .inr ⟨g, cap, cur, hv, Nat.le_trans hb hg, r⟩
/-- An owned row is a slice that reads as its list. -/
theorem Own.sl (h : Own w base E size enc v l) : ∃ A c, v = .slice A l.length c ∧ l.length ≤ c ∧ Sl w enc size A l ∧ (l = [] ∧ A = none ∨ ∃ g, A = some ⟨g, 0, none⟩ ∧ base ≤ g ∧ g < w.heap.size) := by
  rcases h.2 with ⟨hv, hn⟩ | ⟨g, cap, cur, hv, hg, hh, hnc, hcm, hsz, ht⟩
  · have hl : l = [] := List.eq_nil_of_length_eq_zero hn
    subst hl
    exact ⟨none, 0, hv, Nat.le_refl _, Sl.none_, .inl ⟨rfl, rfl⟩⟩
  · refine ⟨some ⟨g, 0, none⟩, cap, hv, hnc, fun _ => ⟨g, 0, rfl, fun j u hu => ?_⟩, .inr ⟨g, rfl, hg, (Array.getElem?_eq_some_iff.1 hh).1⟩⟩
    have hc := World.ownsRow.cells h (g := g) (by rw [hv]; rfl) j u hu
    have hadd : (⟨g, 0, none⟩ : Addr).add j = ⟨g, 0 + j, none⟩ := by unfold Addr.add; split <;> simp_all
    rw [hadd] at hc; exact hc
end

/-- The result is a slice of the call's own. -/
def OwnRes {α : Type} (E : TypeId) (size : Nat) (enc : α → List Value) (l : List α) (w : World) (e : Ending) (w' : World) : Prop :=
  ∃ v, e = .returned v ∧ Own w' w.heap.size E size enc v l ∧ Below w.heap.size w w'
/-! ### worlds -/
section
variable {w w1 : World} {B : Nat}
theorem Below_drewN (h : Below B w w1) (n : Nat) : Below B w (w1.drewN n) := ⟨h.os, h.tape, h.output, h.size, h.block⟩
theorem Below_of_drewN {n : Nat} (h : Below (w.drewN n).heap.size (w.drewN n) w1) : Below w.heap.size w w1 := ⟨h.os, h.tape, h.output, h.size, h.block⟩
theorem Below_of_alloc {o : Obj} (h : Below (w.alloc o).heap.size (w.alloc o) w1) : Below w.heap.size w w1 :=
  ((Below.refl _ _).alloc (Nat.le_refl _) o).trans (h.mono (by simp))
theorem Below_then (h : Below B w w1) {w2 : World} (h2 : Below w1.heap.size w1 w2) (hB : B ≤ w.heap.size) : Below B w w2 :=
  h.trans (h2.mono (Nat.le_trans hB h.size))
theorem Below_cells (hb : Below w.heap.size w w1) : ∀ b o u, w.cell? ⟨b, o, none⟩ = some u → w1.cell? ⟨b, o, none⟩ = some u :=
  fun _ _ _ h => (hb.cell (World.block_lt_of_cell? w _ h)).trans h
end

/-- 'append(v, x)' of one element onto a row of the call's own: x lies in a new block. -/
theorem wpList_app1 {P : Program} {α : Type} {enc : α → List Value} {ops : Array Oper} {rest : List Oper} {o : Oper} {a : Act} {Q : Exit → Act → World → Prop} {w0 wr : World} {B base size bytes : Nat} {t E : TypeId} {i : TypeInfo} {z : Value} {v : Value} {l : List α}
    (ht : P.underlying t = some (.slice E)) (hi : P.info? E = some i) (hz : i.zero = some z) (hsize : i.size = size) (hby : i.bytes = bytes) (hzs : z.cells.size = size) (hsz : 0 < size) (hb200 : bytes ≤ 256)
    (hgd : o.guard = none) (s x : Operand) (ho : o.op = .call { callee := .builtin .append, args := #[s, x], argTypes := #[t, t] })
    (hs : a.eval s = v) (hx : a.eval x = .slice (some ⟨wr.heap.size, 0, none⟩) 1 1)
    (hown : Own wr base E size enc v l) (hb : Below B w0 wr) (hB : B ≤ base) (hbase : base ≤ wr.heap.size) (hn : l.length ≤ 16777216) (y : α) (cells : Array Value) (hcl : cells = (enc y).toArray) (hce : (enc y).length = size) (h1 : ∀ u ∈ enc y, u.oneCell' = true)
    (h : ∀ v' w', Own w' base E size enc v' (l ++ [y]) → Below B w0 w' → wpList P ops Q rest (a.put o.dst v') w') : wpList P ops Q (o :: rest) a (wr.alloc (.cells cells E)) := by
  subst hcl
  refine wpList_append_own _ hgd s x t ho base E i z size bytes ht hi hz hsize hby hzs hsz v l.length (flat enc l) hs (World.ownsRow.alloc hown _) ⟨wr.heap.size, 0, none⟩ 1 1 (enc y) hx (by rw [hce, Nat.one_mul]) ?_ h1 ?_ ?_ ?_ ?_
  · intro j u hu
    have hadd : (⟨wr.heap.size, 0, none⟩ : Addr).add j = ⟨wr.heap.size, j, none⟩ := by unfold Addr.add; split <;> simp_all
    rw [hadd, cell_of_row _ _ j _ E (0, 0) (heap_alloc_new wr _)]
    simpa using hu
  · unfold maxLen; omega
  · have := Nat.mul_le_mul_left (l.length + 1) hb200; omega
  · simp; omega
  · intro v' w' hown' hg _
    refine h v' w' ?_ ((hb.alloc (Nat.le_trans hB hbase) _).grown hg (by simp; omega) (fun k hk => ?_))
    · show w'.ownsRow base E size v' (l ++ [y]).length (flat enc (l ++ [y]))
      rw [flat_snoc, List.length_append]; exact hown'
    · exact Nat.le_trans hB (World.ownsRow.lt hown k hk).1

/-- A list of bytes as a string. -/
def mk (l : List UInt8) : ByteArray := ⟨l.toArray⟩
theorem mk_size (l : List UInt8) : (mk l).size = l.length := by simp [mk, ByteArray.size]
theorem mk_bs (s : ByteArray) : mk s.data.toList = s := by cases s; rfl
theorem bs_mk (l : List UInt8) : (mk l).data.toList = l := rfl
theorem mk_toList (l : List UInt8) : (mk l).toList = l := by rw [ByteArray.toList_eq]; rfl
theorem mk_append (a b : List UInt8) : mk a ++ mk b = mk (a ++ b) := by
  apply ByteArray.ext; simp [mk]
theorem encode_byte (c : UInt8) (h : c.toNat < 128) : Utf8.encode (c.toNat : Int) = mk [c] := by
  have hv : Utf8.valid (c.toNat : Int) = true := by unfold Utf8.valid; simp; omega
  unfold Utf8.encode
  simp only [hv, if_true, Int.toNat_natCast]
  rw [if_pos (by omega)]
  simp [mk]
theorem i32_byte (c : UInt8) : IntKind.i32.wrap (c.toNat : Int) = c.toNat := by
  have := c.toNat_lt
  rw [IntKind.wrap_i32]; omega
theorem quiet_left {P : Program} {f : FuncId} {args : Array Value} {w : World} {n : Nat} {v : Value}
    (h : Calls P f args (w.drewN n) fun e w' => e = .returned v ∧ w.drewN n = w') : Calls P f args (w.drewN n) fun e w'' => e = .returned v ∧ ∃ m, w'' = w.drewN m :=
  h.mono fun _ _ ⟨he, hm⟩ => ⟨he, n, hm.symm⟩
theorem ret_int {k : IntKind} {a b : Int} (h : a = b) : Ending.returned (.int k a) = .returned (.int k b) := by rw [h]
theorem ret_bool {a b : Bool} (h : a = b) : Ending.returned (.bool a) = .returned (.bool b) := by rw [h]
theorem ret_str {a b : ByteArray} (h : a = b) : Ending.returned (.string a) = .returned (.string b) := by rw [h]
theorem int_eq {k : IntKind} {a b : Int} (h : a = b) : Value.int k a = .int k b := by rw [h]
end Go.Proofs.YtaghiefokmapmaaGreatDoor

/- The element types' rows of this program's table, and 'append' of one element at each type. -/
set_option linter.unusedVariables false
namespace Go.Proofs.YtaghiefokmapmaaGreatDoor
open Go.RowKit
theorem int_info : (Tryz.prog.info? 3).map (fun i => (i.zero, i.size, i.bytes)) = some (some (.int .i64 0), 1, 8) := by kernel_rfl
theorem str_info : (Tryz.prog.info? 9).map (fun i => (i.zero, i.size, i.bytes)) = some (some (.string ⟨#[]⟩), 1, 16) := by kernel_rfl
theorem pc_info : (Tryz.prog.info? 90).map (fun i => (i.zero, i.size, i.bytes)) = some (some (.agg #[.int .i64 0, .string ⟨#[]⟩]), 2, 24) := by kernel_rfl
section
variable {ops : Array Oper} {rest : List Oper} {o : Oper} {a : Act} {Q : Exit → Act → World → Prop} {w0 wr : World} {base : Nat} {v : Value}
theorem app_int {l : List Int} {y : Int} {s x : Operand} (hgd : o.guard = none) (ho : o.op = .call { callee := .builtin .append, args := #[s, x], argTypes := #[164, 164] })
    (hs : a.eval s = v) (hx : a.eval x = .slice (some ⟨wr.heap.size, 0, none⟩) 1 1)
    (hown : Own wr w0.heap.size 3 1 encI v l) (hb : Below w0.heap.size w0 wr) (hn : l.length ≤ 16777216)
    (h : ∀ v' w', Own w' w0.heap.size 3 1 encI v' (l ++ [y]) → Below w0.heap.size w0 w' → wpList Tryz.prog ops Q rest (a.put o.dst v') w') :
    wpList Tryz.prog ops Q (o :: rest) a (wr.alloc (.cells #[.int .i64 y] 3)) := by
  obtain ⟨i0, hi0, hz0, hz1, hz2⟩ := info_parts int_info
  exact wpList_app1 Tryz.underlying164 hi0 hz0 hz1 hz2 rfl (by decide) (by decide) hgd s x ho hs hx hown hb (Nat.le_refl _) hb.size hn y _ rfl rfl (by intro u hu; simp [encI] at hu; subst hu; rfl) h
theorem app_str {l : List ByteArray} {y : ByteArray} {s x : Operand} (hgd : o.guard = none) (ho : o.op = .call { callee := .builtin .append, args := #[s, x], argTypes := #[26, 26] })
    (hs : a.eval s = v) (hx : a.eval x = .slice (some ⟨wr.heap.size, 0, none⟩) 1 1)
    (hown : Own wr w0.heap.size 9 1 encS v l) (hb : Below w0.heap.size w0 wr) (hn : l.length ≤ 16777216)
    (h : ∀ v' w', Own w' w0.heap.size 9 1 encS v' (l ++ [y]) → Below w0.heap.size w0 w' → wpList Tryz.prog ops Q rest (a.put o.dst v') w') :
    wpList Tryz.prog ops Q (o :: rest) a (wr.alloc (.cells #[.string y] 9)) := by
  obtain ⟨i0, hi0, hz0, hz1, hz2⟩ := info_parts str_info
  exact wpList_app1 Tryz.underlying26 hi0 hz0 hz1 hz2 rfl (by decide) (by decide) hgd s x ho hs hx hown hb (Nat.le_refl _) hb.size hn y _ rfl rfl (by intro u hu; simp [encS] at hu; subst hu; rfl) h
theorem app_pc {l : List Pc} {y : Pc} {s x : Operand} (hgd : o.guard = none) (ho : o.op = .call { callee := .builtin .append, args := #[s, x], argTypes := #[28, 28] })
    (hs : a.eval s = v) (hx : a.eval x = .slice (some ⟨wr.heap.size, 0, none⟩) 1 1)
    (hown : Own wr w0.heap.size 90 2 encP v l) (hb : Below w0.heap.size w0 wr) (hn : l.length ≤ 16777216)
    (h : ∀ v' w', Own w' w0.heap.size 90 2 encP v' (l ++ [y]) → Below w0.heap.size w0 w' → wpList Tryz.prog ops Q rest (a.put o.dst v') w') :
    wpList Tryz.prog ops Q (o :: rest) a (wr.alloc (.cells #[.int .i64 y.1, .string y.2] 90)) := by
  obtain ⟨i0, hi0, hz0, hz1, hz2⟩ := info_parts pc_info
  exact wpList_app1 Tryz.underlying28 hi0 hz0 hz1 hz2 rfl (by decide) (by decide) hgd s x ho hs hx hown hb (Nat.le_refl _) hb.size hn y _ rfl rfl (by intro u hu; simp [encP] at hu; rcases hu with rfl | rfl <;> rfl) h
end
end Go.Proofs.YtaghiefokmapmaaGreatDoor

/- Walks: words and prints, of the program and of the reference. -/
set_option linter.unusedVariables false
namespace Go.Proofs.YtaghiefokmapmaaGreatDoor
open Go.RowKit

abbrev bs (s : ByteArray) : Bs := s.data.toList

theorem sl1In_any (n lo hi : Int) (w : World) :
    Calls Tryz.prog 83 #[.int .i64 n, .int .i64 lo, .int .i64 hi] w fun e w' => e = .returned (.bool (inI n lo hi)) ∧ w = w' := by
  by_cases h1 : lo ≤ n <;> by_cases h2 : n ≤ hi <;> go_enter Tryz.func83, Tryz.ntmps83 <;> go_wp2 <;> go_ret <;> simp [inI, h1, h2]
theorem iprintValid_any (n : Int) (w : World) :
    Calls Tryz.prog 130 #[.int .i64 n] w fun e w' => e = .returned (.bool (pv n)) ∧ w = w' := by
  by_cases h1 : 0 ≤ n <;> by_cases h2 : n ≤ 16777212 <;> go_enter Tryz.func130, Tryz.ntmps130 <;> go_wp2 <;> go_ret <;> simp [pv, inI, h1, h2]
theorem iisSmall_any (c : Int) (w : World) :
    Calls Tryz.prog 162 #[.int .u8 c] w fun e w' => e = .returned (.bool (inI c 97 122)) ∧ w = w' := by
  by_cases h1 : 97 ≤ c <;> by_cases h2 : c ≤ 122 <;> go_enter Tryz.func162, Tryz.ntmps162 <;> go_wp2 <;> go_ret <;> simp [inI, h1, h2]
theorem iisDigit_any (c : Int) (w : World) :
    Calls Tryz.prog 156 #[.int .u8 c] w fun e w' => e = .returned (.bool (inI c 48 57)) ∧ w = w' := by
  by_cases h1 : 48 ≤ c <;> by_cases h2 : c ≤ 57 <;> go_enter Tryz.func156, Tryz.ntmps156 <;> go_wp2 <;> go_ret <;> simp [inI, h1, h2]

/-! ### texts -/
theorem size_bs (s : ByteArray) : (bs s).length = s.size := rfl
theorem get_bs (s : ByteArray) (k : Nat) (h : k < s.size) : (bs s)[k] = s[k] := rfl
theorem textV_bad {s : ByteArray} {k : Nat} (h : k < s.size) (hb : okC s[k] = false) : textV (bs s) = false := by
  unfold textV
  rw [Bool.and_eq_false_iff]; right
  rw [List.all_eq_false]
  exact ⟨s[k], by simp [bs, ByteArray.getElem_eq_getElem_data], by simp [hb]⟩
def AllUpto (p : UInt8 → Bool) (s : ByteArray) (k : Nat) : Prop := ∀ j (hj : j < s.size), j < k → p s[j] = true
theorem AllUpto.zero (p : UInt8 → Bool) (s : ByteArray) : AllUpto p s 0 := fun _ _ h => absurd h (by omega)
theorem AllUpto.succ {p : UInt8 → Bool} {s : ByteArray} {k : Nat} (hk : k < s.size) (h : AllUpto p s k) (hc : p s[k] = true) : AllUpto p s (k + 1) := by
  intro j hj hlt
  by_cases e : j = k
  · subst e; exact hc
  · exact h j hj (by omega)
theorem AllUpto.all {p : UInt8 → Bool} {s : ByteArray} {k : Nat} (hk : ¬ k < s.size) (h : AllUpto p s k) : (bs s).all p = true := by
  rw [List.all_eq_true]
  intro c hc
  obtain ⟨j, hj, rfl⟩ := List.getElem_of_mem hc
  exact h j hj (by have : j < s.size := hj; omega)
theorem textV_good {s : ByteArray} {k : Nat} (hk : ¬ k < s.size) (h : AllUpto okC s k) (hl : s.size ≤ 60) : textV (bs s) = true := by
  unfold textV
  rw [h.all hk]; simpa using hl
theorem textV_long {s : ByteArray} (hl : ¬ s.size ≤ 60) : textV (bs s) = false := by
  unfold textV
  rw [Bool.and_eq_false_iff]; left
  simpa using hl
theorem textV_size {s : ByteArray} (h : textV (bs s) = true) : s.size ≤ 60 := by
  unfold textV at h
  rw [Bool.and_eq_true] at h
  simpa using h.1
theorem okC_lo {c : UInt8} (h : (c.toNat : Int) < 32) : okC c = false := by simp [okC]; omega
theorem okC_hi {c : UInt8} (h : 126 < (c.toNat : Int)) : okC c = false := by simp [okC]; omega
theorem okC_yes {c : UInt8} (h : 32 ≤ (c.toNat : Int)) (h' : (c.toNat : Int) ≤ 126) : okC c = true := by simp [okC]; omega

set_option maxHeartbeats 2000000 in
set_option maxRecDepth 100000 in
theorem iTextValid_any (s : ByteArray) (w : World) (hs : s.size ≤ 16777216) :
    Calls Tryz.prog 120 #[.string s] w fun e w' => e = .returned (.bool (textV (bs s))) ∧ w = w' := by
  by_cases hl : s.size ≤ 60
  · go_enter Tryz.func120, Tryz.ntmps120
    go_wp2
    go_loop [3] (fun i => ∃ k : Nat, k ≤ s.size ∧ i = .int .i64 k ∧ AllUpto okC s k) (fun i => s.size - (intOf i).toNat)
    case atStart => exact ⟨0, Nat.zero_le _, rfl, AllUpto.zero _ s⟩
    case round =>
      obtain ⟨k, hk, rfl, ho⟩ := hrel
      by_cases hlt : k < s.size
      · by_cases h1 : 32 ≤ (s[k].toNat : Int)
        · by_cases h2 : (s[k].toNat : Int) ≤ 126
          · go_wp2
            go_round
            case rel => exact ⟨k + 1, by omega, by go_num, ho.succ hlt (okC_yes h1 h2)⟩
            case measure => simp [intOf]; omega
          · go_wp2
            go_ret
            exact ⟨ret_bool (textV_bad hlt (okC_hi h2)).symm, rfl⟩
        · go_wp2
          go_ret
          exact ⟨ret_bool (textV_bad hlt (okC_lo h1)).symm, rfl⟩
      · go_wp2
        go_ret
        exact ⟨ret_bool (textV_good hlt ho hl).symm, rfl⟩
  · go_enter Tryz.func120, Tryz.ntmps120
    go_wp2
    go_ret
    exact ⟨ret_bool (textV_long hl).symm, rfl⟩

set_option maxHeartbeats 2000000 in
set_option maxRecDepth 100000 in
theorem sTextValid_any (s : ByteArray) (w : World) (hs : s.size ≤ 16777216) :
    Calls Tryz.prog 133 #[.string s] w fun e w' => e = .returned (.bool (textV (bs s))) ∧ w = w' := by
  go_enter Tryz.func133, Tryz.ntmps133
  go_wp2
  go_loop [3] (fun i => ∃ k : Nat, k ≤ s.size ∧ i = .int .i64 k ∧ AllUpto okC s k) (fun i => s.size - (intOf i).toNat)
  case atStart => exact ⟨0, Nat.zero_le _, rfl, AllUpto.zero _ s⟩
  case round =>
    obtain ⟨k, hk, rfl, ho⟩ := hrel
    by_cases hlt : k < s.size
    · by_cases h1 : 32 ≤ (s[k].toNat : Int)
      · by_cases h2 : (s[k].toNat : Int) ≤ 126
        · go_wp2
          go_round
          case rel => exact ⟨k + 1, by omega, by go_num, ho.succ hlt (okC_yes h1 h2)⟩
          case measure => simp [intOf]; omega
        · go_wp2
          go_ret
          exact ⟨ret_bool (textV_bad hlt (okC_hi h2)).symm, rfl⟩
      · go_wp2
        go_ret
        exact ⟨ret_bool (textV_bad hlt (okC_lo h1)).symm, rfl⟩
    · by_cases hl : s.size ≤ 60
      · go_wp2
        go_ret
        exact ⟨ret_bool (by rw [textV_good hlt ho hl]; simp; omega), rfl⟩
      · go_wp2
        go_ret
        exact ⟨ret_bool (by rw [textV_long hl]; simp; omega), rfl⟩

/-! ### prints -/
theorem hash_take {s : ByteArray} {k : Nat} (h : k < s.size) (n : Int) : hash n ((bs s).take (k + 1)) = (hash n ((bs s).take k) * 257 + (s[k].toNat : Int)) % 16777213 := by
  rw [List.take_succ_eq_append_getElem (by exact h), hash_snoc, get_bs s k h]
theorem hash_done {s : ByteArray} {k : Nat} (h : ¬ k < s.size) (ht : textV (bs s) = true) : hash 1 ((bs s).take k) = prOf (bs s) := by
  rw [List.take_of_length_le (by rw [size_bs]; omega)]; unfold prOf; rw [if_pos ht]

set_option maxHeartbeats 2000000 in
set_option maxRecDepth 100000 in
theorem iPrintOf_any (s : ByteArray) (w : World) (hs : s.size ≤ 16777216) :
    Calls Tryz.prog 121 #[.string s] w fun e w' => e = .returned (.int .i64 (prOf (bs s))) ∧ w = w' := by
  cases ht : textV (bs s)
  · go_enter Tryz.func121, Tryz.ntmps121
    go_wp2_with (go_at_call 120; refine (iTextValid_any _ _ hs).mono ?_; rintro e w' ⟨rfl, rfl⟩)
    go_ret
    exact ⟨ret_int (prOf_bad ht).symm, rfl⟩
  · go_enter Tryz.func121, Tryz.ntmps121
    go_wp2_with (go_at_call 120; refine (iTextValid_any _ _ hs).mono ?_; rintro e w' ⟨rfl, rfl⟩)
    go_loop [3, 4] (fun n i => ∃ (k : Nat) (h : Int), k ≤ s.size ∧ i = .int .i64 k ∧ n = .int .i64 h ∧ 0 ≤ h ∧ h ≤ 16777212 ∧ Hid (h = hash 1 ((bs s).take k))) (fun _ i => s.size - (intOf i).toNat)
    case atStart => exact ⟨0, 1, Nat.zero_le _, rfl, rfl, by omega, by omega, rfl⟩
    case round =>
      obtain ⟨k, h, hk, rfl, rfl, h0, h1, hh⟩ := hrel
      by_cases hlt : k < s.size
      · have hby := s[k].toNat_lt
        go_wp2
        go_round
        case rel => exact ⟨k + 1, _, by omega, by go_num, rfl, by omega, by omega, by show _ = _; rw [hash_take hlt, ← hh.out]⟩
        case measure => simp [intOf]; omega
      · go_wp2
        go_ret
        exact ⟨ret_int (by rw [hh.out, hash_done hlt ht]), rfl⟩

set_option maxHeartbeats 2000000 in
set_option maxRecDepth 100000 in
theorem sPrintOf_any (s : ByteArray) (w : World) (hs : s.size ≤ 16777216) :
    Calls Tryz.prog 134 #[.string s] w fun e w' => e = .returned (.int .i64 (prOf (bs s))) ∧ w = w' := by
  cases ht : textV (bs s)
  · go_enter Tryz.func134, Tryz.ntmps134
    go_wp2_with (go_at_call 133; refine (sTextValid_any _ _ hs).mono ?_; rintro e w' ⟨rfl, rfl⟩)
    go_ret
    exact ⟨ret_int (prOf_bad ht).symm, rfl⟩
  · go_enter Tryz.func134, Tryz.ntmps134
    go_wp2_with (go_at_call 133; refine (sTextValid_any _ _ hs).mono ?_; rintro e w' ⟨rfl, rfl⟩)
    go_loop [3, 4] (fun n i => ∃ (k : Nat) (h : Int), k ≤ s.size ∧ i = .int .i64 k ∧ n = .int .i64 h ∧ 0 ≤ h ∧ h ≤ 16777212 ∧ Hid (h = hash 1 ((bs s).take k))) (fun _ i => s.size - (intOf i).toNat)
    case atStart => exact ⟨0, 1, Nat.zero_le _, rfl, rfl, by omega, by omega, rfl⟩
    case round =>
      obtain ⟨k, h, hk, rfl, rfl, h0, h1, hh⟩ := hrel
      by_cases hlt : k < s.size
      · have hby := s[k].toNat_lt
        go_wp2
        go_round
        case rel => exact ⟨k + 1, _, by omega, by go_num, rfl, by omega, by omega, by show _ = _; rw [hash_take hlt, ← hh.out, Int.mul_comm]⟩
        case measure => simp [intOf]; omega
      · go_wp2
        go_ret
        exact ⟨ret_int (by rw [hh.out, hash_done hlt ht]), rfl⟩

theorem prPair_bad {a b : Int} (h : pv a = false ∨ pv b = false) : prPair a b = -1 := by
  unfold prPair; rcases h with h | h <;> simp [h]
theorem prPair_ok {a b : Int} (ha : pv a = true) (hb : pv b = true) : prPair a b = (a * 7919 + b * 104729 + 3) % 16777213 := by
  unfold prPair; simp [ha, hb]
end Go.Proofs.YtaghiefokmapmaaGreatDoor

/- The reader of drawn inputs: 'l20Open', 'pick', 'odd'. -/
set_option linter.unusedVariables false
namespace Go.Proofs.YtaghiefokmapmaaGreatDoor
open Go.RowKit

def encB (c : UInt8) : List Value := [.int .u8 (c.toNat : Int)]
theorem Sl.getB {w : World} {A : Option Addr} {l : List UInt8} {k : Nat} (h : Sl w encB 1 A l) (hk : k < l.length) :
    ∃ b o, A = some ⟨b, o, none⟩ ∧ w.cell? ⟨b, o + k, none⟩ = some (.int .u8 (l[k].toNat : Int)) := by
  obtain ⟨b, o, e, hc⟩ := h.get (fun _ => rfl) hk
  exact ⟨b, o, e, by simpa using hc 0 _ (by omega) rfl⟩

/-- w' is w with new blocks, and with writes to block g alone. -/
def Only (g : Nat) (w w' : World) : Prop := w.grownBy w' (some g)
section
variable {g : Nat} {w w1 w2 : World}
theorem Only.refl (g : Nat) (w : World) : Only g w w := ⟨rfl, rfl, rfl, Nat.le_refl _, fun _ _ _ => rfl⟩
theorem Only.trans (h : Only g w w1) (h2 : Only g w1 w2) : Only g w w2 :=
  ⟨h2.os.trans h.os, h2.tape.trans h.tape, h2.output.trans h.output, Nat.le_trans h.size h2.size, fun k hk hne => (h2.block k (Nat.lt_of_lt_of_le hk h.size) hne).trans (h.block k hk hne)⟩
theorem Only.of_below (h : Below w.heap.size w w1) : Only g w w1 := ⟨h.os, h.tape, h.output, h.size, fun k hk _ => h.block k hk⟩
theorem Only.drewN (h : Only g w w1) (n : Nat) : Only g w (w1.drewN n) := ⟨h.os, h.tape, h.output, h.size, h.block⟩
theorem Only.alloc (h : Only g w w1) (o : Obj) : Only g w (w1.alloc o) := h.trans (Only.of_below ((Below.refl _ _).alloc (Nat.le_refl _) o))
theorem Only.setCell (h : Only g w w1) {p : Addr} (hp : p.block = g) (u : Value) : Only g w (w1.setCell p u) :=
  h.trans ⟨rfl, rfl, rfl, by simp [World.setCell], fun k hk hne => Below.heap_setCell _ _ _ _ (by rintro rfl; exact hne (by rw [hp]))⟩
/-- Above the reader's block nothing turns: what is below the reader's block neither. -/
theorem Only.below {B : Nat} (h : Only g w w1) (hB : B ≤ g) (hs : B ≤ w.heap.size) : Below B w w1 :=
  ⟨h.os, h.tape, h.output, h.size, fun k hk => h.block k (by omega) (by intro e; injection e; omega)⟩
theorem Only.cell (h : Only g w w1) {b o : Nat} {u : Value} (hb : b ≠ g) (hc : w.cell? ⟨b, o, none⟩ = some u) : w1.cell? ⟨b, o, none⟩ = some u := by
  have hlt := World.block_lt_of_cell? w _ hc
  rw [World.cell?_of_block (w := w) (h.block b hlt (by intro e; injection e; contradiction))]; exact hc
end
theorem Sl.only {α : Type} {enc : α → List Value} {w w' : World} {g size : Nat} {A : Option Addr} {l : List α} (h : Sl w enc size A l) (ho : Only g w w') (hb : 0 < l.length → ∀ b o, A = some ⟨b, o, none⟩ → b ≠ g) : Sl w' enc size A l := by
  intro hn
  obtain ⟨b, o, e, hc⟩ := h hn
  exact ⟨b, o, e, fun j u hu => ho.cell (hb hn b o e) (hc j u hu)⟩
theorem Own.only {α : Type} {enc : α → List Value} {w w' : World} {g base size : Nat} {E : TypeId} {v : Value} {l : List α} (h : Own w base E size enc v l) (ho : Only g w w') (hb : g < base) : Own w' base E size enc v l := by
  refine World.ownsRow.kept h (row := some g) ho ?_
  cases hv : v.ownBlock with
  | none => exact .inl rfl
  | some k => right; intro e; injection e with e; have := (World.ownsRow.lt h k hv).1; omega

/-- The reader in block g: it has read p bytes so far. -/
def Rdr (w : World) (g p : Nat) : Prop :=
  ∃ (A : Option Addr) (c : Nat) (l : List UInt8), w.heap[g]? = some (.cells #[.slice A l.length c, .int .i64 p] 167 (0, 0)) ∧ Sl w encB 1 A l ∧ l.length ≤ 2000 ∧ (0 < l.length → ∀ b o, A = some ⟨b, o, none⟩ → b < g)
theorem Rdr.lt {w : World} {g p : Nat} (h : Rdr w g p) : g < w.heap.size := by
  obtain ⟨A, c, l, hg, _⟩ := h
  exact (Array.getElem?_eq_some_iff.1 hg).1
theorem Rdr.below {w w' : World} {g p : Nat} (h : Rdr w g p) (hb : Below w.heap.size w w') : Rdr w' g p := by
  have hlt := h.lt
  obtain ⟨A, c, l, hg, hs, hl, hne⟩ := h
  exact ⟨A, c, l, (hb.block g hlt).trans hg, hs.below hb, hl, hne⟩
theorem Rdr.under {w w' : World} {g p B : Nat} (h : Rdr w g p) (hg : g < B) (hb : Below B w w') : Rdr w' g p := by
  obtain ⟨A, c, l, hh, hsl, hl, hne⟩ := h
  refine ⟨A, c, l, (hb.block g hg).trans hh, ?_, hl, hne⟩
  intro hn
  obtain ⟨b, o, e, hc⟩ := hsl hn
  refine ⟨b, o, e, fun j u hu => ?_⟩
  have hbB := hne hn b o e
  rw [hb.cell (p := ⟨b, o + j, none⟩) (show b < B by omega)]; exact hc j u hu
theorem Rdr.alloc {w : World} {g p : Nat} (h : Rdr w g p) (o : Obj) : Rdr (w.alloc o) g p := h.below ((Below.refl _ _).alloc (Nat.le_refl _) o)
theorem Rdr.step {w : World} {g p : Nat} (h : Rdr w g p) : Rdr (w.setCell ⟨g, 1, none⟩ (.int .i64 ((p + 1 : Nat) : Int))) g (p + 1) := by
  have hlt := h.lt
  obtain ⟨A, c, l, hg, hs, hl, hne⟩ := h
  refine ⟨A, c, l, ?_, hs.only ((Only.refl g w).setCell rfl _) (fun hn b o e => Nat.ne_of_lt (hne hn b o e)), hl, hne⟩
  rw [heap_setCell_same w g 1 _ 167 _ hg]
  rfl

theorem i64_xor_nn (a b : Int) (ha : 0 ≤ a) (hb : 0 ≤ b) (ha' : a < 9223372036854775808) (hb' : b < 9223372036854775808) : 0 ≤ bits .xor .i64 a b := by
  obtain ⟨x, rfl⟩ := Int.eq_ofNat_of_zero_le ha
  obtain ⟨y, rfl⟩ := Int.eq_ofNat_of_zero_le hb
  have hx : x ^^^ y < 2 ^ 63 := Nat.xor_lt_two_pow (by omega) (by omega)
  show 0 ≤ IntKind.i64.wrap ((BitVec.ofInt 64 (x : Int) ^^^ BitVec.ofInt 64 (y : Int)).toNat : Int)
  have e : ∀ n : Nat, n < 9223372036854775808 → (BitVec.ofInt 64 (n : Int)).toNat = n := fun n hn => by
    rw [BitVec.ofInt_natCast, BitVec.toNat_ofNat]; exact Nat.mod_eq_of_lt (by omega)
  rw [BitVec.toNat_xor, e x (by omega), e y (by omega), IntKind.wrap_i64]
  omega

theorem mod_pick {x n : Int} (hx : 0 ≤ x) (hn : 1 ≤ n) : ∃ m : Nat, x % n = m ∧ (m : Int) < n := by
  have h1 := Int.emod_nonneg x (show n ≠ 0 by omega)
  have h2 := Int.emod_lt_of_pos x (show 0 < n by omega)
  exact ⟨(x % n).toNat, by omega, by omega⟩

def Picked (n : Int) (w : World) (g p : Nat) (e : Ending) (w' : World) : Prop :=
  ∃ x : Nat, e = .returned (.int .i64 x) ∧ (x = 0 ∨ (x : Int) < n) ∧ Only g w w' ∧ Rdr w' g (p + 1)

set_option maxHeartbeats 2000000 in
set_option maxRecDepth 100000 in
theorem pick_any (n : Int) (g p : Nat) (w : World) (hr : Rdr w g p) (hp : p ≤ 1000000000) (hn : n ≤ 1000000000) :
    Calls Tryz.prog 113 #[.pointer (some ⟨g, 0, none⟩), .int .i64 n] w (Picked n w g p) := by
  have hr2 := hr.step
  have hlt := hr.lt
  obtain ⟨A, c, l, hg, hs, hl, hne⟩ := hr
  have hc0 : w.cell? ⟨g, 0, none⟩ = some (.slice A l.length c) := by rw [cell_of_row w g 0 _ _ _ hg]; rfl
  have hc1 : w.cell? ⟨g, 1, none⟩ = some (.int .i64 p) := by rw [cell_of_row w g 1 _ _ _ hg]; rfl
  have hf1 : w.frozen? ⟨g, 1, none⟩ = false := by simp [World.frozen?, hg]
  have hO := (Only.refl g w).setCell (p := ⟨g, 1, none⟩) rfl (.int .i64 ((p + 1 : Nat) : Int))
  have e1 : ((p + 1 : Nat) : Int) = (p : Int) + 1 := by omega
  rw [e1] at hO hr2
  have HR := Lib.hid hr2
  have HO := Lib.hid hO
  have HN := Lib.hid hne
  have HG := Lib.hid hg
  clear hr2 hO hne hg e1
  by_cases h1 : n < 1
  · go_enter Tryz.func113, Tryz.ntmps113
    go_wp2
    go_ret
    exact ⟨0, rfl, .inl rfl, HO.out, HR.out⟩
  · by_cases h0 : l.length = 0
    · have hz : ((l.length : Int) == 0) = true := by simp [h0]
      go_enter Tryz.func113, Tryz.ntmps113
      go_wp2
      go_ret
      exact ⟨0, rfl, .inl rfl, HO.out, HR.out⟩
    · have hz : ((l.length : Int) == 0) = false := beq_eq_false_iff_ne.2 (by omega)
      have hpos : 0 < l.length := by omega
      by_cases hk : p < l.length
      · obtain ⟨b, o, rfl, hc⟩ := hs.getB hk
        have hbne : b ≠ g := Nat.ne_of_lt (HN.out hpos b o rfl)
        have hby := l[p].toNat_lt
        go_enter Tryz.func113, Tryz.ntmps113
        go_wp2
        go_ret
        obtain ⟨m, e, hm⟩ := mod_pick (x := (l[p].toNat : Int)) (by omega) (show 1 ≤ n by omega)
        exact ⟨m, ret_int e, .inr hm, HO.out, HR.out⟩
      · have hj1 : p % l.length < l.length := Nat.mod_lt _ hpos
        have hj2 : (p * 7 + 3) % l.length < l.length := Nat.mod_lt _ hpos
        obtain ⟨b, o, rfl, hc⟩ := hs.getB hj1
        obtain ⟨b', o', e, hc'⟩ := hs.getB hj2
        have hbb : b' = b ∧ o' = o := by injection e with e; injection e with e1 e2; exact ⟨e1.symm, e2.symm⟩
        obtain ⟨rfl, rfl⟩ := hbb
        have hbne : b' ≠ g := Nat.ne_of_lt (HN.out hpos b' o' rfl)
        have hby1 := l[p % l.length].toNat_lt
        have hby2 := l[(p * 7 + 3) % l.length].toNat_lt
        clear e
        have q1 : ((p : Int)).tmod (l.length : Int) = ((p % l.length : Nat) : Int) := by rw [Int.tmod_eq_emod_of_nonneg (by omega)]; rfl
        have q2 : IntKind.i64.wrap ((p : Int) * 7) = (p : Int) * 7 := IntWalk.i64_in _ (by omega)
        have q3 : IntKind.i64.wrap ((p : Int) * 7 + 3) = (p : Int) * 7 + 3 := IntWalk.i64_in _ (by omega)
        have q4 : ((p : Int) * 7 + 3).tmod (l.length : Int) = (((p * 7 + 3) % l.length : Nat) : Int) := by rw [Int.tmod_eq_emod_of_nonneg (by omega)]; rfl
        have q5 : (0 : Int) ≤ ((p % l.length : Nat) : Int) := by omega
        have q6 : (0 : Int) ≤ (((p * 7 + 3) % l.length : Nat) : Int) := by omega
        generalize p % l.length = j1 at *
        generalize (p * 7 + 3) % l.length = j2 at *
        have q7 : 0 ≤ (p : Int) / (l.length : Int) := Int.ediv_nonneg (by omega) (by omega)
        have q8 : (p : Int) / (l.length : Int) ≤ 1000000000 := Int.le_trans (Int.ediv_le_self _ (by omega)) (by omega)
        have q9 := i64_xor_nn ((l[j1].toNat : Int) * 131 + (l[j2].toNat : Int) * 1117 + (p : Int) * 29 + (p : Int) / (l.length : Int) * 53) (((l[j1].toNat : Int) * 131 + (l[j2].toNat : Int) * 1117 + (p : Int) * 29 + (p : Int) / (l.length : Int) * 53) / 64) (by omega) (by omega) (by omega) (by omega)
        go_enter Tryz.func113, Tryz.ntmps113
        go_wp2
        go_quiet (fail)
        go_wp2
        go_ret
        obtain ⟨m, e, hm⟩ := mod_pick q9 (show 1 ≤ n by omega)
        exact ⟨m, ret_int e, .inr hm, HO.out.drewN _, HR.out⟩

def OddR (w : World) (g p : Nat) (e : Ending) (w' : World) : Prop :=
  ∃ (x : Bool) (p' : Nat), e = .returned (.bool x) ∧ Only g w w' ∧ Rdr w' g p' ∧ p' ≤ p + 1
set_option maxHeartbeats 2000000 in
set_option maxRecDepth 100000 in
theorem odd_any (n : Int) (g p : Nat) (w : World) (hr : Rdr w g p) (hp : p ≤ 1000000000) (hn : n ≤ 1000000000) :
    Calls Tryz.prog 132 #[.pointer (some ⟨g, 0, none⟩), .int .i64 n] w (OddR w g p) := by
  have HR := Lib.hid hr
  clear hr
  by_cases h0 : 0 < n
  · go_enter Tryz.func132, Tryz.ntmps132
    go_wp2_with (go_at_call 113; refine (pick_any _ _ _ _ HR.out hp hn).mono ?_; rintro e w1 ⟨x, rfl, hx, ho, hr1⟩; have HX := Lib.hid hx; clear hx)
    go_ret
    exact ⟨_, _, rfl, ho, hr1, Nat.le_refl _⟩
  · go_enter Tryz.func132, Tryz.ntmps132
    go_wp2
    go_ret
    exact ⟨_, _, rfl, Only.refl _ _, HR.out, by omega⟩
/-- 'odd(0)' is false, and reads nothing. -/
theorem odd0_any (g p : Nat) (w : World) (hr : Rdr w g p) (hp : p ≤ 1000000000) :
    Calls Tryz.prog 132 #[.pointer (some ⟨g, 0, none⟩), .int .i64 0] w fun e w' => e = .returned (.bool false) ∧ w = w' := by
  have HR := Lib.hid hr
  clear hr
  go_enter Tryz.func132, Tryz.ntmps132
  go_wp2
  go_ret
  exact ⟨rfl, rfl⟩

/-- What is told of a slice of bytes that came in. -/
def BytesIn (w : World) (A : Option Addr) (n c : Nat) : Prop := ∃ l : List UInt8, l.length = n ∧ n ≤ c ∧ c ≤ maxLen ∧ Sl w encB 1 A l
def Opened (w : World) (e : Ending) (w' : World) : Prop := e = .returned (.pointer (some ⟨w.heap.size, 0, none⟩)) ∧ Below w.heap.size w w' ∧ Rdr w' w.heap.size 0 ∧ w'.heap.size = w.heap.size + 1
theorem Sl.takeB {w : World} {A : Option Addr} {l : List UInt8} (h : Sl w encB 1 A l) (k : Nat) : Sl w encB 1 A (l.take k) := by
  intro hn
  obtain ⟨b, o, e, hc⟩ := h (by rw [List.length_take] at hn; omega)
  refine ⟨b, o, e, fun j u hu => hc j u ?_⟩
  have hf : flat encB l = flat encB (l.take k) ++ flat encB (l.drop k) := by rw [← flat_append, List.take_append_drop]
  rw [hf, List.getElem?_append_left (List.getElem?_eq_some_iff.1 hu).1]; exact hu
theorem rdr_new {w : World} {A : Option Addr} {l : List UInt8} {c : Nat} (h : Sl w encB 1 A l) (hl : l.length ≤ 2000) : Rdr (w.alloc (.cells #[.slice A l.length c, .int .i64 0] 167)) w.heap.size 0 := by
  refine ⟨A, c, l, heap_alloc_new w _, h.alloc _, hl, fun hn b o e => ?_⟩
  obtain ⟨b', o', e', hc⟩ := h hn
  have hx : (flat encB l)[0]? = some ((flat encB l)[0]'(by rw [flat_length (size := 1) (fun _ => rfl)]; omega)) := List.getElem?_eq_getElem _
  have := World.block_lt_of_cell? w _ (hc 0 _ hx)
  rw [e] at e'; injection e' with e'; injection e' with e1 _
  rw [← e1] at this; simpa using this
set_option maxHeartbeats 2000000 in
set_option maxRecDepth 100000 in
theorem l20Open_any (A : Option Addr) (n c : Nat) (w : World) (hb : BytesIn w A n c) :
    Calls Tryz.prog 112 #[.slice A n c] w (Opened w) := by
  obtain ⟨l, rfl, hc, hm, hs⟩ := hb
  have HS := Lib.hid hs
  clear hs
  unfold maxLen at hm
  by_cases h : l.length ≤ 2000
  · go_enter Tryz.func112, Tryz.ntmps112
    go_wp2
    go_ret
    exact ⟨rfl, (Below.refl _ _).alloc (Nat.le_refl _) _, rdr_new HS.out h, by simp⟩
  · have h2 : (l.take 2000).length = 2000 := by rw [List.length_take]; omega
    have hr := rdr_new (c := c) (HS.out.takeB 2000) (by rw [h2]; omega)
    rw [h2] at hr
    have HRR := Lib.hid hr
    clear hr h2
    go_enter Tryz.func112, Tryz.ntmps112
    go_wp2
    go_ret
    exact ⟨rfl, (Below.refl _ _).alloc (Nat.le_refl _) _, HRR.out, by simp⟩
end Go.Proofs.YtaghiefokmapmaaGreatDoor

/- Arguments that came in, opened into this proof's own words. -/
set_option linter.unusedVariables false
namespace Go.Proofs.YtaghiefokmapmaaGreatDoor
open Go.ChangeShapes Go.WideShapes Go.ChangeAt Go.RowKit
open Go.ChangeMaps (open_string shut_string)

theorem own : ownKnob Tryz.prog.godebug = none := by kernel_rfl
theorem laidOut : laidOutB Tryz.prog = true := by kernel_rfl

theorem sl_of_add {α : Type} {enc : α → List Value} {w : World} {size : Nat} {x : Addr} {l : List α} (hsz : 0 < size) (he : ∀ y, (enc y).length = size)
    (hc : ∀ j u, (flat enc l)[j]? = some u → w.cell? (x.add j) = some u) : Sl w enc size (some x) l := by
  intro hn
  obtain ⟨b, o, sp⟩ := x
  have hlen := flat_length he l
  have hpos : 0 < (flat enc l).length := by rw [hlen]; exact Nat.mul_pos hn hsz
  have h0 := hc 0 _ (List.getElem?_eq_getElem hpos)
  have hsp : sp = none := by
    have e : (⟨b, o, sp⟩ : Addr).add 0 = ⟨b, o, sp⟩ := rfl
    rw [e] at h0
    unfold World.cell? at h0
    split at h0
    · cases sp with
      | none => rfl
      | some s => simp at h0
    · cases h0
  subst hsp
  refine ⟨b, o, rfl, fun j u hu => ?_⟩
  have := hc j u hu
  have hadd : (⟨b, o, none⟩ : Addr).add j = ⟨b, o + j, none⟩ := by unfold Addr.add; split <;> simp_all
  rw [hadd] at this; exact this

section
variable {H : Type} {enc : TypeId × Value → H} {W : World} {a : Option Addr} {n c : Nat} {d : DataW H} {p : List MemPlace}
theorem openBytes (h : DataW.Trod enc Tryz.prog W 0 (fun _ => true) true 56 (.slice a n c) d p) : BytesIn W a n c := by
  obtain ⟨fuel, hf⟩ := h
  rcases open_ints Tryz.underlying56 Tryz.underlying5 (by kernel_rfl) hf with ⟨hcs, _⟩ | ⟨x, l, cp, zs, hcs, _, hl, hm, hz, _, hcell, hwz⟩
  · simp [Value.cells] at hcs
    obtain ⟨rfl, rfl, rfl⟩ := hcs
    exact ⟨[], rfl, Nat.le_refl _, by unfold maxLen; omega, Sl.none_⟩
  · simp [Value.cells] at hcs
    obtain ⟨rfl, rfl, rfl⟩ := hcs
    simp at hz
    refine ⟨(zs.take n).map fun z => UInt8.ofNat z.toNat, by simp; omega, hl, hm, sl_of_add (by omega) (fun _ => rfl) fun j u hu => ?_⟩
    have hj : j < n := by
      have := (List.getElem?_eq_some_iff.1 hu).1
      rw [flat_length (size := 1) (fun _ => rfl)] at this
      simp at this; omega
    have hjl : j < ((zs.take n).map fun z => UInt8.ofNat z.toNat).length := by simp; omega
    have hg := flat_get (enc := encB) (size := 1) (fun _ => rfl) _ j hjl 0 (by omega)
    simp only [Nat.mul_one, Nat.add_zero] at hg
    rw [hg] at hu
    simp [encB] at hu
    rw [hcell j (by omega), ← hu]
    have hmem : zs.getD j 0 ∈ zs := by
      rw [List.getD_eq_getElem?_getD, List.getElem?_eq_getElem (by omega)]; exact List.getElem_mem _
    have hwf := hwz _ hmem
    have hb : 0 ≤ zs.getD j 0 ∧ zs.getD j 0 ≤ 255 := bounds_u8 hwf
    have hgd : zs.getD j 0 = zs[j]'(by omega) := by rw [List.getD_eq_getElem?_getD, List.getElem?_eq_getElem (by omega)]; rfl
    rw [hgd] at hb ⊢
    congr 2
    omega
end
end Go.Proofs.YtaghiefokmapmaaGreatDoor

/- Slices of the law's own: made and filled; sizes. -/
set_option linter.unusedVariables false
namespace Go.Proofs.YtaghiefokmapmaaGreatDoor
open Go.RowKit

/-- Block g is a row of N cells whose first cells are 'done'. -/
def Filled (wr : World) (g N : Nat) (E : TypeId) (done : List Value) : Prop :=
  ∃ cs : Array Value, wr.heap[g]? = some (.cells cs E (0, 0)) ∧ cs.size = N ∧ done.length ≤ N ∧ cs.toList.take done.length = done
section
variable {wr : World} {g N : Nat} {E : TypeId} {done : List Value}
theorem Filled.cell (h : Filled wr g N E done) {j : Nat} (hj : j < N) : ∃ u, wr.cell? ⟨g, j, none⟩ = some u := by
  obtain ⟨cs, hg, hs, _, _⟩ := h
  exact ⟨cs[j], by rw [cell_of_row wr g j cs E (0, 0) hg, Array.getElem?_eq_getElem (by omega)]⟩
theorem Filled.free (h : Filled wr g N E done) (j : Nat) : wr.frozen? ⟨g, j, none⟩ = false := by
  obtain ⟨cs, hg, _⟩ := h
  exact frozen_of_row wr g j cs E hg
theorem Filled.store (h : Filled wr g N E done) (u : Value) (hj : done.length < N) : Filled (wr.setCell ⟨g, done.length, none⟩ u) g N E (done ++ [u]) := by
  obtain ⟨cs, hg, hs, hd, ht⟩ := h
  refine ⟨cs.setIfInBounds done.length u, heap_setCell_same wr g _ cs E u hg, by simpa using hs, by simp; omega, ?_⟩
  rw [List.length_append, List.length_singleton, Array.toList_setIfInBounds, List.take_succ_eq_append_getElem (by simp; omega)]
  rw [List.take_set_of_le (by omega), ht]
  simp
theorem Filled.drew (h : Filled wr g N E done) : Filled wr.drew g N E done := h
theorem Filled.drewN (h : Filled wr g N E done) (n : Nat) : Filled (wr.drewN n) g N E done := h
theorem Filled.below (h : Filled wr g N E done) {w' : World} (hb : Below wr.heap.size wr w') : Filled w' g N E done := by
  obtain ⟨cs, hg, r⟩ := h
  exact ⟨cs, (hb.block g (Array.getElem?_eq_some_iff.1 hg).1).trans hg, r⟩
theorem Filled.own {α : Type} {enc : α → List Value} {l : List α} {size base : Nat} (h : Filled wr g (l.length * size) E (flat enc l)) (he : ∀ x, (enc x).length = size) (hb : base ≤ g) (hm : l.length ≤ maxLen) :
    Own wr base E size enc (.slice (some ⟨g, 0, none⟩) l.length l.length) l := by
  obtain ⟨cs, hg, hs, hd, ht⟩ := h
  refine ⟨flat_length he l, .inr ⟨g, l.length, cs, rfl, hb, hg, Nat.le_refl _, hm, hs, ?_⟩⟩
  rw [← flat_length he l]; exact ht
end
theorem Filled.made (w : World) (z : Array Value) (N : Nat) (E : TypeId) : Filled (w.alloc (.cells (madeCells z N) E)) w.heap.size N E [] :=
  ⟨_, heap_alloc_new w _, size_madeCells z N, Nat.zero_le _, rfl⟩
theorem make_row {P : Program} (t e : TypeId) (i : TypeInfo) (z : Value) (ht : P.underlying t = some (.slice e)) (hi : P.info? e = some i) (hz : i.zero = some z) (n : Nat) (hn : n ≤ 16777216) (hb : i.bytes ≤ 256) (w : World) :
    (Instr.makeSlice t (.int .i64 (n : Int)) (.int .i64 (n : Int))).run P w = .ok (.slice (some ⟨w.heap.size, 0, none⟩) n n) (w.alloc (.cells (madeCells z.cells (n * i.size)) e)) := by
  have hbb : (i.bytes : Int) * (n : Int) ≤ 281474976710656 := by
    have h : i.bytes * n ≤ 256 * 16777216 := Nat.mul_le_mul hb hn
    have h2 : ((i.bytes * n : Nat) : Int) ≤ 281474976710656 := by omega
    rwa [Int.natCast_mul] at h2
  have hr := run_make (P := P) w t e i z ht hi hz .i64 .i64 (n : Int) (n : Int) (by omega) (Int.le_refl _) hbb (by omega)
  simpa using hr

/-! ### slices of strings -/
theorem flatS_len (l : List ByteArray) : (flat encS l).length = l.length := by rw [flat_length (size := 1) (fun _ => rfl), Nat.mul_one]
theorem flatS_take {l : List ByteArray} {k : Nat} (h : k < l.length) : flat encS (l.take (k + 1)) = flat encS (l.take k) ++ [.string l[k]] := by
  rw [List.take_succ_eq_append_getElem h, flat_snoc]; rfl
set_option maxHeartbeats 2000000 in
set_option maxRecDepth 100000 in
theorem toStringS_any (A : Option Addr) (c : Nat) (ss : List ByteArray) (w : World) (hs : Sl w encS 1 A ss) (hl : ss.length ≤ 16777216) :
    Calls Tryz.prog 37 #[.slice A ss.length c] w fun e w' => ∃ v, e = .returned v ∧ Own w' w.heap.size 9 1 encS v ss ∧ Below w.heap.size w w' := by
  obtain ⟨i0, hi0, hz0, hz1, hz2⟩ := info_parts str_info
  have hmk := make_row (P := Tryz.prog) 26 9 i0 _ Tryz.underlying26 hi0 hz0 ss.length hl (by omega)
  rw [hz1] at hmk
  have hfl := fun W : World => Filled.made W (Value.string ⟨#[]⟩).cells (ss.length * 1) 9
  have HFL := Lib.hid hfl
  have HS := Lib.hid hs
  clear hs hfl hi0 hz0 hz1 hz2
  generalize madeCells (Value.string ⟨#[]⟩).cells (ss.length * 1) = M at *
  go_enter Tryz.func37, Tryz.ntmps37
  go_wp2
  clear hmk
  go_loopw [4] (fun i wr => ∃ (k : Nat), k ≤ ss.length ∧ i = .int .i64 k ∧ Filled wr w.heap.size (ss.length * 1) 9 (flat encS (ss.take k)) ∧ Below w.heap.size w wr) (fun i _ => ss.length - (intOf i).toNat)
  case atStart => exact ⟨0, Nat.zero_le _, rfl, HFL.out w, (Below.refl _ _).alloc (Nat.le_refl _) _⟩
  case round =>
    obtain ⟨k, hk, rfl, hf, hb⟩ := hrel
    by_cases hlt : k < ss.length
    · obtain ⟨b, o, rfl, hc⟩ := (HS.out.below hb).getS hlt
      obtain ⟨u, hu⟩ := hf.cell (j := k) (by omega)
      have hfr := hf.free k
      have hlen : (flat encS (ss.take k)).length = k := by rw [flatS_len, List.length_take]; omega
      have hst := hf.store (.string ss[k]) (by omega)
      rw [hlen, ← flatS_take hlt] at hst
      have HST := Lib.hid hst
      clear hst hlen
      go_wp2
      first
        | (go_roundw
           case rel => exact ⟨k + 1, by omega, by go_num, HST.out, hb.setCell (Nat.le_refl _) _⟩
           case measure => simp [intOf]; omega)
        | (go_region
           all_goals
             go_wp2
             go_roundw
             case rel => exact ⟨k + 1, by omega, by go_num, HST.out, hb.setCell (Nat.le_refl _) _⟩
             case measure => simp [intOf]; omega)
    · go_wp2
      go_ret
      rw [List.take_of_length_le (by omega)] at hf
      exact ⟨_, rfl, hf.own (fun _ => rfl) (Nat.le_refl _) (by unfold maxLen; omega), hb⟩
/-- What a size check tells: if what is left is not negative, the strings are few and short. -/
def SizedS (ss : List ByteArray) (w : World) (e : Ending) (w' : World) : Prop :=
  ∃ r : Int, e = .returned (.int .i64 r) ∧ r ≤ 1048576 ∧ (0 ≤ r → ss.length ≤ 1048576 ∧ ∀ s ∈ ss, s.size ≤ 1048576) ∧ w = w'
def FitTo (ss : List ByteArray) (k : Nat) : Prop := ∀ s ∈ ss.take k, s.size ≤ 1048576
theorem FitTo.succ {ss : List ByteArray} {k : Nat} (h : FitTo ss k) (hk : k < ss.length) (hs : ss[k].size ≤ 1048576) : FitTo ss (k + 1) := by
  intro s hm
  rw [List.take_succ_eq_append_getElem hk, List.mem_append, List.mem_singleton] at hm
  rcases hm with hm | rfl
  · exact h s hm
  · exact hs
theorem FitTo.all {ss : List ByteArray} {k : Nat} (h : FitTo ss k) (hk : ¬ k < ss.length) : ∀ s ∈ ss, s.size ≤ 1048576 := by
  intro s hm; exact h s (by rw [List.take_of_length_le (by omega)]; exact hm)
set_option maxHeartbeats 2000000 in
set_option maxRecDepth 100000 in
theorem szStringS_any (A : Option Addr) (c : Nat) (ss : List ByteArray) (left : Int) (w : World) (hs : Sl w encS 1 A ss) (hl : ss.length ≤ maxLen) (hm : ∀ s ∈ ss, s.size ≤ maxLen) (h0 : 0 ≤ left) (h1 : left ≤ 1048576) :
    Calls Tryz.prog 35 #[.slice A ss.length c, .int .i64 left] w (SizedS ss w) := by
  have HS := Lib.hid hs
  have HM := Lib.hid hm
  unfold maxLen at hl
  clear hs hm
  by_cases hlen : (ss.length : Int) ≤ left
  · go_enter Tryz.func35, Tryz.ntmps35
    go_wp2
    go_loop [1, 5] (fun v i => ∃ (k : Nat) (L : Int), k ≤ ss.length ∧ i = .int .i64 k ∧ v = .int .i64 L ∧ 0 ≤ L ∧ L ≤ 1048576 ∧ FitTo ss k) (fun _ i => ss.length - (intOf i).toNat)
    case atStart => exact ⟨0, left - ss.length, Nat.zero_le _, rfl, rfl, by omega, by omega, by intro s hs; simp at hs⟩
    case round =>
      obtain ⟨k, L, hk, rfl, rfl, hL0, hL1, hft⟩ := hrel
      by_cases hlt : k < ss.length
      · obtain ⟨b, o, rfl, hc⟩ := HS.out.getS hlt
        have hms := HM.out ss[k] (by simp)
        unfold maxLen at hms
        by_cases hsz : (ss[k].size : Int) ≤ L
        · go_wp2
          go_round
          case rel => exact ⟨k + 1, _, by omega, by go_num, rfl, by omega, by omega, hft.succ hlt (by omega)⟩
          case measure => simp [intOf]; omega
        · go_wp2
          go_ret
          exact ⟨-1, rfl, by omega, fun h => absurd h (by omega), rfl⟩
      · go_wp2
        go_ret
        exact ⟨L, rfl, hL1, fun _ => ⟨by omega, hft.all hlt⟩, rfl⟩
  · go_enter Tryz.func35, Tryz.ntmps35
    go_wp2
    go_ret
    exact ⟨-1, rfl, by omega, fun h => absurd h (by omega), rfl⟩
/-- What is told of a slice of numbers that came in. -/
def IntsIn (w : World) (A : Option Addr) (n c : Nat) : Prop := ∃ l : List Int, l.length = n ∧ n ≤ c ∧ c ≤ maxLen ∧ Sl w encI 1 A l
/-- What is told of a slice of strings that came in. -/
def StrsIn (w : World) (A : Option Addr) (n c : Nat) : Prop := ∃ ss : List ByteArray, ss.length = n ∧ n ≤ c ∧ c ≤ maxLen ∧ Sl w encS 1 A ss ∧ ∀ s ∈ ss, s.size ≤ maxLen
end Go.Proofs.YtaghiefokmapmaaGreatDoor

/- Arguments that came in, opened: structs by value, slices of strings, numbers, structs. -/
set_option linter.unusedVariables false
namespace Go.Proofs.YtaghiefokmapmaaGreatDoor
open Go.ChangeShapes Go.WideShapes Go.ChangeAt Go.RowKit
open Go.ChangeMaps (open_string shut_string)
section
variable {H : Type} {enc : TypeId × Value → H} {W : World} {a : Option Addr} {n c : Nat} {d : DataW H} {p : List MemPlace}


theorem openInts (h : DataW.Trod enc Tryz.prog W 0 (fun _ => true) true 164 (.slice a n c) d p) : IntsIn W a n c := by
  obtain ⟨fuel, hf⟩ := h
  rcases open_ints Tryz.underlying164 Tryz.underlying3 (by kernel_rfl) hf with ⟨hcs, _⟩ | ⟨x, l, cp, zs, hcs, _, hl, hm, hz, _, hcell, hwz⟩
  · simp [Value.cells] at hcs
    obtain ⟨rfl, rfl, rfl⟩ := hcs
    exact ⟨[], rfl, Nat.le_refl _, by unfold maxLen; omega, Sl.none_⟩
  · simp [Value.cells] at hcs
    obtain ⟨rfl, rfl, rfl⟩ := hcs
    simp at hz
    refine ⟨zs.take n, by simp; omega, hl, hm, sl_of_add (by omega) (fun _ => rfl) fun j u hu => ?_⟩
    have hj : j < n := by
      have := (List.getElem?_eq_some_iff.1 hu).1
      rw [flat_length (size := 1) (fun _ => rfl)] at this
      simp at this; omega
    have hjl : j < (zs.take n).length := by simp; omega
    have hg := flat_get (enc := encI) (size := 1) (fun _ => rfl) _ j hjl 0 (by omega)
    simp only [Nat.mul_one, Nat.add_zero] at hg
    rw [hg] at hu
    simp [encI] at hu
    rw [hcell j (by omega), ← hu, List.getD_eq_getElem?_getD, List.getElem?_eq_getElem (by omega)]
    rfl
theorem openStrs (h : DataW.Trod enc Tryz.prog W 0 (fun _ => true) true 26 (.slice a n c) d p) : StrsIn W a n c := by
  obtain ⟨fuel, hf⟩ := h
  rcases open_strings Tryz.underlying26 Tryz.underlying9 (by kernel_rfl) hf with ⟨hcs, _⟩ | ⟨x, l, cp, zs, hcs, _, hl, hm, hz, _, hcell, hwz⟩
  · simp [Value.cells] at hcs
    obtain ⟨rfl, rfl, rfl⟩ := hcs
    exact ⟨[], rfl, Nat.le_refl _, by unfold maxLen; omega, Sl.none_, by simp⟩
  · simp [Value.cells] at hcs
    obtain ⟨rfl, rfl, rfl⟩ := hcs
    simp at hz
    refine ⟨zs.take n, by simp; omega, hl, hm, sl_of_add (by omega) (fun _ => rfl) fun j u hu => ?_, fun s hs => hwz s (List.mem_of_mem_take hs)⟩
    have hj : j < n := by
      have := (List.getElem?_eq_some_iff.1 hu).1
      rw [flat_length (size := 1) (fun _ => rfl)] at this
      simp at this; omega
    have hjl : j < (zs.take n).length := by simp; omega
    have hg := flat_get (enc := encS) (size := 1) (fun _ => rfl) _ j hjl 0 (by omega)
    simp only [Nat.mul_one, Nat.add_zero] at hg
    rw [hg] at hu
    simp [encS] at hu
    rw [hcell j (by omega), ← hu, List.getD_eq_getElem?_getD, List.getElem?_eq_getElem (by omega)]
    rfl
end
end Go.Proofs.YtaghiefokmapmaaGreatDoor

/- Filters: the plain law, and the walks of the program and of the reference. -/
set_option linter.unusedVariables false
namespace Go.Proofs.YtaghiefokmapmaaGreatDoor
open Go.RowKit

/-! ### the plain law -/
def maskN (P : Nat) : Nat := 2 ^ (P % 30) ||| 2 ^ (P / 30 % 30)
def filtN (l : List Int) : Nat := l.foldl (fun f p => f ||| maskN p.toNat) 0
def fv (f : Int) : Bool := inI f 0 1073741823
def filterOf (l : List Int) : Int := if l.all pv then (filtN l : Int) else -1
def filterHas (f p : Int) : Bool := fv f && pv p && (f.toNat &&& maskN p.toNat == maskN p.toNat)
def filterJoin (a b : Int) : Int := if fv a && fv b then ((a.toNat ||| b.toNat : Nat) : Int) else -1
def filterWanted (f : Int) (l : List Int) : List Int := if fv f && l.all pv then l.filter (fun p => !filterHas f p) else []

theorem fv_iff {n : Int} : fv n = true ↔ 0 ≤ n ∧ n ≤ 1073741823 := by simp [fv, inI]
theorem pow30 {x : Nat} (h : x < 30) : (2 : Nat) ^ x < 2 ^ 30 := Nat.pow_lt_pow_right (by omega) h
theorem maskN_lt (P : Nat) : maskN P < 2 ^ 30 := Nat.or_lt_two_pow (pow30 (Nat.mod_lt _ (by omega))) (pow30 (Nat.mod_lt _ (by omega)))
theorem filtN_from (l : List Int) : ∀ f : Nat, f < 2 ^ 30 → l.foldl (fun f p => f ||| maskN p.toNat) f < 2 ^ 30 ∧ f ||| l.foldl (fun f p => f ||| maskN p.toNat) f = l.foldl (fun f p => f ||| maskN p.toNat) f := by
  induction l with
  | nil => intro f hf; exact ⟨hf, Nat.or_self f⟩
  | cons p r ih =>
    intro f hf
    have h := ih (f ||| maskN p.toNat) (Nat.or_lt_two_pow hf (maskN_lt _))
    refine ⟨h.1, ?_⟩
    simp only [List.foldl_cons]
    have h2 := h.2
    generalize List.foldl (fun f p => f ||| maskN p.toNat) (f ||| maskN p.toNat) r = g at *
    rw [← h2, Nat.or_assoc, ← Nat.or_assoc f f, Nat.or_self]
theorem filtN_lt (l : List Int) : filtN l < 2 ^ 30 := (filtN_from l 0 (by decide)).1
theorem or_and_self (f m : Nat) : (f ||| m) &&& m = m := by
  apply Nat.eq_of_testBit_eq; intro i; simp [Nat.testBit_and, Nat.testBit_or]; intro h; exact .inr h
theorem and_of_or {f m g : Nat} (h : f ||| g = g) (hm : f &&& m = m) : g &&& m = m := by
  apply Nat.eq_of_testBit_eq; intro i
  have h1 := congrArg (fun x => x.testBit i) h
  have h2 := congrArg (fun x => x.testBit i) hm
  simp only [Nat.testBit_and, Nat.testBit_or] at *
  cases hb : m.testBit i <;> simp_all
theorem filtN_has (l : List Int) : ∀ f : Nat, f < 2 ^ 30 → ∀ p ∈ l, l.foldl (fun f p => f ||| maskN p.toNat) f &&& maskN p.toNat = maskN p.toNat := by
  induction l with
  | nil => intro f _ p hp; cases hp
  | cons q r ih =>
    intro f hf p hp
    have hq : f ||| maskN q.toNat < 2 ^ 30 := Nat.or_lt_two_pow hf (maskN_lt _)
    rcases List.mem_cons.1 hp with rfl | hp
    · exact and_of_or (filtN_from r _ hq).2 (or_and_self f _)
    · exact ih _ hq p hp
theorem filtN_snoc (l : List Int) (p : Int) : filtN (l ++ [p]) = filtN l ||| maskN p.toNat := by simp [filtN, List.foldl_append]
theorem has_all {l : List Int} (hl : l.all pv = true) : ∀ p ∈ l, filterHas (filterOf l) p = true := by
  intro p hp
  have hlt := filtN_lt l
  unfold filterHas filterOf
  rw [if_pos hl]
  have h1 : fv (filtN l : Int) = true := fv_iff.2 ⟨by omega, by omega⟩
  rw [h1, List.all_eq_true.1 hl p hp]
  have := filtN_has l 0 (by decide) p hp
  simp only [Bool.and_self, Bool.true_and, beq_iff_eq, Int.toNat_natCast]
  exact this
theorem filterOf_bad {l : List Int} (h : l.all pv = false) : filterOf l = -1 := by unfold filterOf; simp [h]
theorem filterOf_ok {l : List Int} (h : l.all pv = true) : filterOf l = filtN l := by unfold filterOf; simp [h]
theorem filterOf_fv {l : List Int} (h : l.all pv = true) : fv (filterOf l) = true := by
  have := filtN_lt l
  rw [filterOf_ok h]; exact fv_iff.2 ⟨by omega, by omega⟩
theorem filterOf_lt0 {l : List Int} (h : filterOf l < 0) : filterOf l = -1 := by
  cases hl : l.all pv with
  | false => exact filterOf_bad hl
  | true => rw [filterOf_ok hl] at h; omega
theorem filterOf_valid {l : List Int} (h : ¬ filterOf l < 0) : l.all pv = true := by
  cases hl : l.all pv with
  | true => rfl
  | false => exact absurd (by rw [filterOf_bad hl]; omega) h
theorem wanted_of_has {f : Int} {l : List Int} (h : ∀ p ∈ l, filterHas f p = true) : filterWanted f l = [] := by
  unfold filterWanted; split
  · exact List.filter_eq_nil_iff.2 fun p hp => by simp [h p hp]
  · rfl
theorem join_comm (a b : Int) : filterJoin a b = filterJoin b a := by
  unfold filterJoin; rw [Bool.and_comm, Nat.or_comm]
theorem join_facts {a b : Int} (h : ¬ filterJoin a b < 0) : fv a = true ∧ fv b = true ∧ filterJoin (filterJoin a b) a = filterJoin a b ∧ a ≤ filterJoin a b ∧ b ≤ filterJoin a b ∧ filterJoin a b ≤ 1073741823 := by
  by_cases hv : (fv a && fv b) = true
  · have h2 : fv a = true ∧ fv b = true := by simpa using hv
    have e : filterJoin a b = ((a.toNat ||| b.toNat : Nat) : Int) := by unfold filterJoin; rw [if_pos hv]
    have ha := fv_iff.1 h2.1
    have hb := fv_iff.1 h2.2
    have hlt : a.toNat ||| b.toNat < 2 ^ 30 := Nat.or_lt_two_pow (by omega) (by omega)
    have l1 : a.toNat ≤ a.toNat ||| b.toNat := Nat.left_le_or
    have l2 : b.toNat ≤ a.toNat ||| b.toNat := Nat.right_le_or
    refine ⟨h2.1, h2.2, ?_, by rw [e]; omega, by rw [e]; omega, by rw [e]; omega⟩
    rw [e]
    have hf : fv ((a.toNat ||| b.toNat : Nat) : Int) = true := fv_iff.2 ⟨by omega, by omega⟩
    unfold filterJoin
    rw [hf, h2.1, Int.toNat_natCast, Nat.or_assoc, Nat.or_comm b.toNat, ← Nat.or_assoc, Nat.or_self]; rfl
  · exfalso; apply h; unfold filterJoin; rw [if_neg hv]; omega
theorem join_lt0 {a b : Int} (h : filterJoin a b < 0) : filterJoin a b = -1 := by
  unfold filterJoin at h ⊢; split
  · rename_i hv; rw [if_pos hv] at h; omega
  · rfl
theorem has_of_join {f g p : Int} (hf : fv f = true) (hg : fv g = true) (h : filterHas f p = true ∨ filterHas g p = true) : filterHas (filterJoin f g) p = true := by
  have e : filterJoin f g = ((f.toNat ||| g.toNat : Nat) : Int) := by unfold filterJoin; rw [hf, hg]; rfl
  have ha := fv_iff.1 hf
  have hb := fv_iff.1 hg
  have hlt : f.toNat ||| g.toNat < 2 ^ 30 := Nat.or_lt_two_pow (by omega) (by omega)
  have hv : fv (filterJoin f g) = true := by rw [e]; exact fv_iff.2 ⟨by omega, by omega⟩
  have hp : pv p = true := by
    rcases h with h | h <;> · unfold filterHas at h; simp only [Bool.and_eq_true] at h; exact h.1.2
  unfold filterHas
  rw [hv, hp, e, Int.toNat_natCast]
  simp only [Bool.and_self, Bool.true_and, beq_iff_eq]
  rcases h with h | h
  · unfold filterHas at h; simp only [Bool.and_eq_true, beq_iff_eq] at h
    exact and_of_or (by rw [← Nat.or_assoc, Nat.or_self]) h.2
  · unfold filterHas at h; simp only [Bool.and_eq_true, beq_iff_eq] at h
    refine and_of_or ?_ h.2
    rw [Nat.or_comm f.toNat, ← Nat.or_assoc, Nat.or_self]
theorem has_full {f p : Int} (h : filterHas f p = true) : filterHas 1073741823 p = true := by
  have hp : pv p = true := by unfold filterHas at h; simp only [Bool.and_eq_true] at h; exact h.1.2
  have h1 : fv 1073741823 = true := by decide
  unfold filterHas; rw [h1, hp]
  have := maskN_lt p.toNat
  simp only [Bool.and_self, Bool.true_and, beq_iff_eq]
  show 1073741823 &&& maskN p.toNat = maskN p.toNat
  rw [Nat.and_comm]
  have e : (1073741823 : Nat) = 2 ^ 30 - 1 := rfl
  rw [e, Nat.and_two_pow_sub_one_eq_mod, Nat.mod_eq_of_lt this]
theorem has_empty (p : Int) : filterHas 0 p = false := by
  unfold filterHas
  have h : ((0 : Int).toNat &&& maskN p.toNat == maskN p.toNat) = false := by
    rw [show (0 : Int).toNat = 0 from rfl, Nat.zero_and]
    apply beq_eq_false_iff_ne.2
    have : 2 ^ (p.toNat % 30) ≤ maskN p.toNat := Nat.left_le_or
    have := Nat.two_pow_pos (p.toNat % 30)
    omega
  rw [h]; simp
theorem wanted_join {f : Int} {l : List Int} : filterWanted (filterJoin f (filterOf (filterWanted f l))) l = [] := by
  by_cases hv : (fv f && l.all pv) = true
  · have h2 : fv f = true ∧ l.all pv = true := by simpa using hv
    have e : filterWanted f l = l.filter (fun p => !filterHas f p) := by unfold filterWanted; rw [if_pos hv]
    have hx : (filterWanted f l).all pv = true := by
      rw [e, List.all_eq_true]; intro p hp; exact List.all_eq_true.1 h2.2 p (List.mem_filter.1 hp |>.1)
    refine wanted_of_has fun p hp => has_of_join h2.1 (filterOf_fv hx) ?_
    cases hh : filterHas f p with
    | true => exact .inl rfl
    | false => right; exact has_all hx p (by rw [e]; exact List.mem_filter.2 ⟨hp, by simp [hh]⟩)
  · have hf : filterWanted f l = [] := by unfold filterWanted; rw [if_neg hv]
    cases hl : l.all pv with
    | false => unfold filterWanted; simp [hl]
    | true =>
      have hff : fv f = false := by cases h : fv f <;> simp_all
      have : filterJoin f (filterOf (filterWanted f l)) = -1 := by unfold filterJoin; simp [hff]
      rw [this]; unfold filterWanted; rw [if_neg]; simp [fv, inI]

/-! ### bits of int64 -/
theorem ofInt_i64 (a : Nat) (ha : a < 9223372036854775808) : (BitVec.ofInt 64 (a : Int)).toNat = a := by
  rw [BitVec.ofInt_natCast, BitVec.toNat_ofNat]; exact Nat.mod_eq_of_lt (by omega)
theorem i64_and_nat (a b : Nat) (ha : a < 9223372036854775808) (hb : b < 9223372036854775808) : bits .and .i64 (a : Int) (b : Int) = ((a &&& b : Nat) : Int) := by
  have hx : a &&& b < 2 ^ 63 := Nat.and_lt_two_pow _ (by omega)
  show IntKind.i64.wrap ((BitVec.ofInt 64 (a : Int) &&& BitVec.ofInt 64 (b : Int)).toNat : Int) = _
  rw [BitVec.toNat_and, ofInt_i64 a ha, ofInt_i64 b hb, IntKind.wrap_i64]
  omega
theorem i64_or_nat (a b : Nat) (ha : a < 9223372036854775808) (hb : b < 9223372036854775808) : bits .or .i64 (a : Int) (b : Int) = ((a ||| b : Nat) : Int) := by
  have hx : a ||| b < 2 ^ 63 := Nat.or_lt_two_pow (by omega) (by omega)
  show IntKind.i64.wrap ((BitVec.ofInt 64 (a : Int) ||| BitVec.ofInt 64 (b : Int)).toNat : Int) = _
  rw [BitVec.toNat_or, ofInt_i64 a ha, ofInt_i64 b hb, IntKind.wrap_i64]
  omega
theorem or_pows {x y : Nat} (hx : x < 30) (hy : y < 30) : bits .or .i64 (wrap64 (2 ^ x)) (wrap64 (2 ^ y)) = ((2 ^ x ||| 2 ^ y : Nat) : Int) := by
  have h1 := pow30 hx
  have h2 := pow30 hy
  have p1 : ((2 : Int) ^ x) = ((2 ^ x : Nat) : Int) := by simp
  have p2 : ((2 : Int) ^ y) = ((2 ^ y : Nat) : Int) := by simp
  rw [p1, p2]
  generalize (2 ^ x : Nat) = X at *
  generalize (2 ^ y : Nat) = Y at *
  have e1 : wrap64 (X : Int) = X := IntWalk.wrap64_in _ (by omega)
  have e2 : wrap64 (Y : Int) = Y := IntWalk.wrap64_in _ (by omega)
  rw [e1, e2, i64_or_nat _ _ (by omega) (by omega)]

/-! ### the walks -/
theorem all_take_succ {α : Type} {p : α → Bool} {l : List α} {k : Nat} (hk : k < l.length) (h : (l.take k).all p = true) (hx : p l[k] = true) : (l.take (k + 1)).all p = true := by
  rw [List.take_succ_eq_append_getElem hk, List.all_append, h]; simp [hx]
theorem all_of_take {α : Type} {p : α → Bool} {l : List α} {k : Nat} (hk : ¬ k < l.length) (h : (l.take k).all p = true) : l.all p = true := by
  rwa [List.take_of_length_le (by omega)] at h
theorem all_bad {α : Type} {p : α → Bool} {l : List α} {k : Nat} (hk : k < l.length) (h : p l[k] = false) : l.all p = false := by
  rw [List.all_eq_false]; exact ⟨l[k], by simp, by simp [h]⟩

theorem filtN_take {l : List Int} {k : Nat} (hk : k < l.length) : filtN (l.take (k + 1)) = filtN (l.take k) ||| maskN l[k].toNat := by
  rw [List.take_succ_eq_append_getElem hk, filtN_snoc]
end Go.Proofs.YtaghiefokmapmaaGreatDoor

/- Drawn inputs: names, prints, and the like. -/
set_option linter.unusedVariables false
namespace Go.Proofs.YtaghiefokmapmaaGreatDoor
open Go.RowKit

/-- A drawn result that lies in no memory: 'P v'; at most 'C' bytes were read. -/
def Drew (P : Value → Prop) (C : Nat) (w : World) (g p : Nat) (e : Ending) (w' : World) : Prop :=
  ∃ (v : Value) (p' : Nat), e = .returned v ∧ P v ∧ Only g w w' ∧ Rdr w' g p' ∧ p' ≤ p + C
def ShortStr (m : Nat) (v : Value) : Prop := ∃ s : ByteArray, v = .string s ∧ s.size ≤ m
theorem size_lit (a : Array UInt8) : (ByteArray.mk a).size = a.size := rfl

theorem lit_cell {w w1 : World} {g : Nat} {cs : Array Value} {E : TypeId} (ho : Only g (w.alloc (.cells cs E)) w1) (hg : g < w.heap.size) {k : Nat} {u : Value} (hu : cs[k]? = some u) : w1.cell? ⟨w.heap.size, k, none⟩ = some u :=
  ho.cell (by omega) (by rw [cell_of_row _ _ k _ E (0, 0) (heap_alloc_new w _)]; exact hu)

def shortB (m : Nat) : Value → Bool | .string s => decide (s.size ≤ m) | _ => false
def intB (lo hi : Int) : Value → Bool | .int .i64 n => decide (lo ≤ n) && decide (n ≤ hi) | _ => false
theorem shortB_iff {m : Nat} {v : Value} (h : shortB m v = true) : ∃ s, v = .string s ∧ s.size ≤ m := by
  unfold shortB at h; split at h
  · exact ⟨_, rfl, by simpa using h⟩
  · cases h
theorem intB_iff {lo hi : Int} {v : Value} (h : intB lo hi v = true) : ∃ n, v = .int .i64 n ∧ lo ≤ n ∧ n ≤ hi := by
  unfold intB at h; split at h
  · exact ⟨_, rfl, by simpa using h⟩
  · cases h
/-- 'pick' of the place of a literal's element. -/
theorem pick_lit {w : World} {g p : Nat} {cs : Array Value} {E : TypeId} (k : Nat) (chk : Value → Bool) (hr : Rdr w g p) (hp : p ≤ 1000000000) (hk : cs.size = k) (hpos : 0 < k) (hb : k ≤ 1000) (hc : cs.toList.all chk = true) :
    Calls Tryz.prog 113 #[.pointer (some ⟨g, 0, none⟩), .int .i64 (k : Int)] (w.alloc (.cells cs E)) fun e w' =>
      ∃ (x : Nat) (u : Value), e = .returned (.int .i64 x) ∧ x < k ∧ w'.cell? ⟨w.heap.size, x, none⟩ = some u ∧ chk u = true ∧ Only g w w' ∧ Rdr w' g (p + 1) := by
  refine (pick_any (k : Int) g p _ (hr.alloc _) hp (by omega)).mono ?_
  rintro e w' ⟨x, rfl, hx, ho, hr'⟩
  have hxk : x < cs.size := by omega
  refine ⟨x, cs[x], rfl, by omega, lit_cell ho hr.lt (Array.getElem?_eq_getElem hxk), List.all_eq_true.1 hc _ (by simp), (Only.of_below ((Below.refl _ _).alloc (Nat.le_refl _) _)).trans ho, hr'⟩
theorem pick_str {w : World} {g p : Nat} {cs : Array Value} {E : TypeId} (k m : Nat) (hr : Rdr w g p) (hp : p ≤ 1000000000) (hk : cs.size = k) (hpos : 0 < k) (hb : k ≤ 1000) (hc : cs.toList.all (shortB m) = true) :
    Calls Tryz.prog 113 #[.pointer (some ⟨g, 0, none⟩), .int .i64 (k : Int)] (w.alloc (.cells cs E)) fun e w' =>
      ∃ (x : Nat) (s : ByteArray), e = .returned (.int .i64 x) ∧ x < k ∧ w'.cell? ⟨w.heap.size, x, none⟩ = some (.string s) ∧ s.size ≤ m ∧ Only g w w' ∧ Rdr w' g (p + 1) := by
  refine (pick_lit k (shortB m) hr hp hk hpos hb hc).mono ?_
  rintro e w' ⟨x, u, rfl, hx, hu, hcu, ho, hr'⟩
  obtain ⟨s, rfl, hs⟩ := shortB_iff hcu
  exact ⟨x, s, rfl, hx, hu, hs, ho, hr'⟩
theorem pick_int {w : World} {g p : Nat} {cs : Array Value} {E : TypeId} (k : Nat) (lo hi : Int) (hr : Rdr w g p) (hp : p ≤ 1000000000) (hk : cs.size = k) (hpos : 0 < k) (hb : k ≤ 1000) (hc : cs.toList.all (intB lo hi) = true) :
    Calls Tryz.prog 113 #[.pointer (some ⟨g, 0, none⟩), .int .i64 (k : Int)] (w.alloc (.cells cs E)) fun e w' =>
      ∃ (x : Nat) (n : Int), e = .returned (.int .i64 x) ∧ x < k ∧ w'.cell? ⟨w.heap.size, x, none⟩ = some (.int .i64 n) ∧ lo ≤ n ∧ n ≤ hi ∧ Only g w w' ∧ Rdr w' g (p + 1) := by
  refine (pick_lit k (intB lo hi) hr hp hk hpos hb hc).mono ?_
  rintro e w' ⟨x, u, rfl, hx, hu, hcu, ho, hr'⟩
  obtain ⟨n, rfl, h1, h2⟩ := intB_iff hcu
  exact ⟨x, n, rfl, hx, hu, h1, h2, ho, hr'⟩

/-- A drawn result of a 'Draw..' function: no memory that was there has turned. -/
def Drawn (P : Value → Prop) (w : World) (e : Ending) (w' : World) : Prop := ∃ v, e = .returned v ∧ P v ∧ Below w.heap.size w w'
end Go.Proofs.YtaghiefokmapmaaGreatDoor

/- Filters: FilterHas, FilterJoin, FilterWanted; drawn prints and filters. -/
set_option linter.unusedVariables false
namespace Go.Proofs.YtaghiefokmapmaaGreatDoor
open Go.RowKit

theorem has_nat {F : Nat} {p : Int} (hf : fv (F : Int) = true) (hp : pv p = true) : filterHas (F : Int) p = (((F &&& maskN p.toNat : Nat) : Int) == ((maskN p.toNat : Nat) : Int)) := by
  unfold filterHas; rw [hf, hp, Int.toNat_natCast]
  simp only [Bool.and_self, Bool.true_and]
  rw [Bool.eq_iff_iff]; simp only [beq_iff_eq]; omega
theorem has_badf {f p : Int} (hf : fv f = false) : filterHas f p = false := by unfold filterHas; simp [hf]
theorem has_badp {f p : Int} (hp : pv p = false) : filterHas f p = false := by unfold filterHas; simp [hp]

theorem join_bad {a b : Int} (h : fv a = false ∨ fv b = false) : filterJoin a b = -1 := by
  unfold filterJoin; rcases h with h | h <;> simp [h]
theorem join_nat {F G : Nat} (hf : fv (F : Int) = true) (hg : fv (G : Int) = true) : filterJoin F G = ((F ||| G : Nat) : Int) := by
  unfold filterJoin; rw [hf, hg]; rfl
theorem wanted_bad {f : Int} {l : List Int} (h : fv f = false ∨ l.all pv = false) : filterWanted f l = [] := by
  unfold filterWanted; rcases h with h | h <;> simp [h]
theorem wanted_ok {f : Int} {l : List Int} (hf : fv f = true) (hl : l.all pv = true) : filterWanted f l = l.filter (fun p => !filterHas f p) := by
  unfold filterWanted; simp [hf, hl]
theorem filter_take_yes {α : Type} {p : α → Bool} {l : List α} {k : Nat} (hk : k < l.length) (h : p l[k] = true) : (l.take (k + 1)).filter p = (l.take k).filter p ++ [l[k]] := by
  rw [List.take_succ_eq_append_getElem hk, List.filter_append]; simp [h]
theorem filter_take_no {α : Type} {p : α → Bool} {l : List α} {k : Nat} (hk : k < l.length) (h : p l[k] = false) : (l.take (k + 1)).filter p = (l.take k).filter p := by
  rw [List.take_succ_eq_append_getElem hk, List.filter_append]; simp [h]
end Go.Proofs.YtaghiefokmapmaaGreatDoor

/- 'append' of one element onto a row of the call's own, telling besides what became of all other rows. -/
set_option linter.unusedVariables false
namespace Go.Proofs.YtaghiefokmapmaaGreatDoor
open Go.RowKit

/-- w' is w but for new blocks and for the row that v owns. -/
def Grew (v : Value) (w w' : World) : Prop := w.grownBy w' v.ownBlock
/-- No slice at A lies in v's own block. -/
def Apart (A : Option Addr) (v : Value) : Prop := ∀ b o, A = some ⟨b, o, none⟩ → v.ownBlock ≠ some b
theorem Apart.nil (A : Option Addr) : Apart A (.slice none 0 0) := fun b o _ h => by simp [Value.ownBlock] at h
theorem Sl.grew {α : Type} {enc : α → List Value} {w w' : World} {size : Nat} {A : Option Addr} {l : List α} {v : Value} (h : Sl w enc size A l) (hg : Grew v w w') (ha : Apart A v) : Sl w' enc size A l := by
  intro hn
  obtain ⟨b, o, e, hc⟩ := h hn
  refine ⟨b, o, e, fun j u hu => ?_⟩
  have hcc := hc j u hu
  have hlt := World.block_lt_of_cell? w _ hcc
  rw [World.cell?_of_block (w := w) (hg.block b hlt (fun e2 => ha b o e (by rw [e2])))]; exact hcc
theorem Own.blk {α : Type} {enc : α → List Value} {w : World} {base size : Nat} {E : TypeId} {v : Value} {l : List α} (h : Own w base E size enc v l) : ∀ g, v.ownBlock = some g → base ≤ g ∧ g < w.heap.size := fun g hg => World.ownsRow.lt h g hg
/-- What is read lies below the base of what is owned: apart. -/
theorem Apart.of_lt {A : Option Addr} {v : Value} {B : Nat} (hA : ∀ b o, A = some ⟨b, o, none⟩ → b < B) (hv : ∀ g, v.ownBlock = some g → B ≤ g) : Apart A v := fun b o e h => by
  have h1 := hA b o e; have h2 := hv b h; exact absurd h1 (by omega)
theorem Apart.of_ge {A : Option Addr} {v : Value} {B : Nat} (hA : ∀ b o, A = some ⟨b, o, none⟩ → B ≤ b) (hv : ∀ g, v.ownBlock = some g → g < B) : Apart A v := fun b o e h => by
  have := hA b o e; have := hv b h; omega
theorem Sl.lt {α : Type} {enc : α → List Value} {w : World} {size : Nat} {A : Option Addr} {l : List α} (h : Sl w enc size A l) (he : ∀ x, (enc x).length = size) (hs : 0 < size) (hl : 0 < l.length) : ∀ b o, A = some ⟨b, o, none⟩ → b < w.heap.size := by
  intro b o e
  obtain ⟨b', o', e', hc⟩ := h hl
  have hpos : 0 < (flat enc l).length := by rw [flat_length he l]; exact Nat.mul_pos hl hs
  have h0 := hc 0 _ (List.getElem?_eq_getElem hpos)
  have hlt : b' < w.heap.size := World.block_lt_of_cell? w _ h0
  rw [e] at e'; injection e' with e'; injection e' with e1 _
  omega

theorem wpList_app2 {P : Program} {α : Type} {enc : α → List Value} {ops : Array Oper} {rest : List Oper} {o : Oper} {a : Act} {Q : Exit → Act → World → Prop} {w0 wr : World} {B base size bytes : Nat} {t E : TypeId} {i : TypeInfo} {z : Value} {v : Value} {l : List α}
    (ht : P.underlying t = some (.slice E)) (hi : P.info? E = some i) (hz : i.zero = some z) (hsize : i.size = size) (hby : i.bytes = bytes) (hzs : z.cells.size = size) (hsz : 0 < size) (hb200 : bytes ≤ 256)
    (hgd : o.guard = none) (s x : Operand) (ho : o.op = .call { callee := .builtin .append, args := #[s, x], argTypes := #[t, t] })
    (hs : a.eval s = v) (hx : a.eval x = .slice (some ⟨wr.heap.size, 0, none⟩) 1 1)
    (hown : Own wr base E size enc v l) (hb : Below B w0 wr) (hB : B ≤ base) (hbase : base ≤ wr.heap.size) (hn : l.length ≤ 16777216) (y : α) (cells : Array Value) (hcl : cells = (enc y).toArray) (hce : (enc y).length = size) (h1 : ∀ u ∈ enc y, u.oneCell' = true)
    (h : ∀ v' w', Own w' base E size enc v' (l ++ [y]) → Below B w0 w' → Grew v wr w' → wpList P ops Q rest (a.put o.dst v') w') : wpList P ops Q (o :: rest) a (wr.alloc (.cells cells E)) := by
  subst hcl
  refine wpList_append_own _ hgd s x t ho base E i z size bytes ht hi hz hsize hby hzs hsz v l.length (flat enc l) hs (World.ownsRow.alloc hown _) ⟨wr.heap.size, 0, none⟩ 1 1 (enc y) hx (by rw [hce, Nat.one_mul]) ?_ h1 ?_ ?_ ?_ ?_
  · intro j u hu
    have hadd : (⟨wr.heap.size, 0, none⟩ : Addr).add j = ⟨wr.heap.size, j, none⟩ := by unfold Addr.add; split <;> simp_all
    rw [hadd, cell_of_row _ _ j _ E (0, 0) (heap_alloc_new wr _)]
    simpa using hu
  · unfold maxLen; omega
  · have := Nat.mul_le_mul_left (l.length + 1) hb200; omega
  · simp; omega
  · intro v' w' hown' hg _
    refine h v' w' ?_ ((hb.alloc (Nat.le_trans hB hbase) _).grown hg (by simp; omega) (fun k hk => ?_)) ?_
    · show w'.ownsRow base E size v' (l ++ [y]).length (flat enc (l ++ [y]))
      rw [flat_snoc, List.length_append]; exact hown'
    · exact Nat.le_trans hB (World.ownsRow.lt hown k hk).1
    · exact ⟨hg.os, hg.tape, hg.output, Nat.le_trans (by simp) hg.size, fun k hk hne => (hg.block k (by simp; omega) hne).trans (Below.heap_alloc wr _ k hk)⟩
section
variable {ops : Array Oper} {rest : List Oper} {o : Oper} {a : Act} {Q : Exit → Act → World → Prop} {w0 wr : World} {v : Value}
theorem app_int2 {l : List Int} {y : Int} {s x : Operand} (hgd : o.guard = none) (ho : o.op = .call { callee := .builtin .append, args := #[s, x], argTypes := #[164, 164] })
    (hs : a.eval s = v) (hx : a.eval x = .slice (some ⟨wr.heap.size, 0, none⟩) 1 1)
    (hown : Own wr w0.heap.size 3 1 encI v l) (hb : Below w0.heap.size w0 wr) (hn : l.length ≤ 16777216)
    (h : ∀ v' w', Own w' w0.heap.size 3 1 encI v' (l ++ [y]) → Below w0.heap.size w0 w' → Grew v wr w' → wpList Tryz.prog ops Q rest (a.put o.dst v') w') :
    wpList Tryz.prog ops Q (o :: rest) a (wr.alloc (.cells #[.int .i64 y] 3)) := by
  obtain ⟨i0, hi0, hz0, hz1, hz2⟩ := info_parts int_info
  exact wpList_app2 Tryz.underlying164 hi0 hz0 hz1 hz2 rfl (by decide) (by decide) hgd s x ho hs hx hown hb (Nat.le_refl _) hb.size hn y _ rfl rfl (by intro u hu; simp [encI] at hu; subst hu; rfl) h
end
end Go.Proofs.YtaghiefokmapmaaGreatDoor

/- Comparisons of two slices that hold the same. -/
set_option linter.unusedVariables false
namespace Go.Proofs.YtaghiefokmapmaaGreatDoor
open Go.RowKit
/-- wr is w after some draws. -/
def Drawn_ (w wr : World) : Prop := ∃ n, wr = w.drewN n
theorem Drawn_.drewN {w wr : World} (h : Drawn_ w wr) (m : Nat) : Drawn_ w (wr.drewN m) := by
  obtain ⟨n, rfl⟩ := h; exact ⟨n + m, by rw [World.drewN_drewN]⟩
theorem Sl.drawn_ {α : Type} {enc : α → List Value} {w wr : World} {size : Nat} {A : Option Addr} {l : List α} (h : Sl w enc size A l) (hd : Drawn_ w wr) : Sl wr enc size A l := by
  obtain ⟨n, rfl⟩ := hd; exact h
theorem Drawn_.below {w wr : World} (h : Drawn_ w wr) : Below w.heap.size w wr := by
  obtain ⟨n, rfl⟩ := h; exact Below_drewN (Below.refl _ _) n

set_option maxHeartbeats 2000000 in
set_option maxRecDepth 100000 in
theorem l_eqStringS_same (A B : Option Addr) (c d : Nat) (l : List ByteArray) (w : World) (ha : Sl w encS 1 A l) (hb : Sl w encS 1 B l) (hl : l.length ≤ 16777216) :
    Calls Tryz.prog 21 #[.slice A l.length c, .slice B l.length d] w fun e w' => e = .returned (.bool true) ∧ Drawn_ w w' := by
  have HA := Lib.hid ha
  have HB := Lib.hid hb
  clear ha hb
  go_enter Tryz.func21, Tryz.ntmps21
  go_wp2
  go_loopw [5] (fun i wr => ∃ (k : Nat), k ≤ l.length ∧ i = .int .i64 k ∧ Drawn_ w wr) (fun i _ => l.length - (intOf i).toNat)
  case atStart => exact ⟨0, Nat.zero_le _, rfl, 0, rfl⟩
  case round =>
    obtain ⟨k, hk, rfl, hw⟩ := hrel
    by_cases hlt : k < l.length
    · obtain ⟨b1, o1, rfl, hc1⟩ := (HA.out.drawn_ hw).getS hlt
      obtain ⟨b2, o2, rfl, hc2⟩ := (HB.out.drawn_ hw).getS hlt
      go_wp2
      go_quiet (fail)
      go_wp2
      go_roundw
      case rel => exact ⟨k + 1, by omega, by go_num, hw.drewN _⟩
      case measure => simp [intOf]; omega
    · go_wp2
      go_ret
      exact ⟨rfl, hw⟩
set_option maxHeartbeats 2000000 in
set_option maxRecDepth 100000 in
theorem l_sameTexts_same (A B : Option Addr) (c d : Nat) (l : List ByteArray) (w : World) (ha : Sl w encS 1 A l) (hb : Sl w encS 1 B l) (hl : l.length ≤ 16777216) :
    Calls Tryz.prog 52 #[.slice A l.length c, .slice B l.length d] w fun e w' => e = .returned (.bool true) ∧ Drawn_ w w' := by
  have HA := Lib.hid ha
  have HB := Lib.hid hb
  clear ha hb
  go_enter Tryz.func52, Tryz.ntmps52
  go_wp2
  go_loopw [5] (fun i wr => ∃ (k : Nat), k ≤ l.length ∧ i = .int .i64 k ∧ Drawn_ w wr) (fun i _ => l.length - (intOf i).toNat)
  case atStart => exact ⟨0, Nat.zero_le _, rfl, 0, rfl⟩
  case round =>
    obtain ⟨k, hk, rfl, hw⟩ := hrel
    by_cases hlt : k < l.length
    · obtain ⟨b1, o1, rfl, hc1⟩ := (HA.out.drawn_ hw).getS hlt
      obtain ⟨b2, o2, rfl, hc2⟩ := (HB.out.drawn_ hw).getS hlt
      go_wp2
      go_quiet (fail)
      go_wp2
      go_roundw
      case rel => exact ⟨k + 1, by omega, by go_num, hw.drewN _⟩
      case measure => simp [intOf]; omega
    · go_wp2
      go_ret
      exact ⟨rfl, hw⟩
end Go.Proofs.YtaghiefokmapmaaGreatDoor

/- Regions that draw their order and whose calls make memory of their own: ONE walk, in the order of the text, in every world that is as this one below its heap's size. -/
set_option linter.unusedVariables false
namespace Go.Proofs.YtaghiefokmapmaaGreatDoor
open Go.RowKit

/-- What may have come since: new blocks, and a count of draws. -/
structure Since where
  os : Array Obj
  n : Nat
instance : Inhabited Since := ⟨⟨#[], 0⟩⟩
def far (w : World) (p : Since) : World := { w with heap := w.heap ++ p.os, drawn := p.n }
theorem far_size (w : World) (p : Since) : (far w p).heap.size = w.heap.size + p.os.size := by simp [far]
theorem far_below (w : World) (p : Since) : Below w.heap.size w (far w p) := ⟨rfl, rfl, rfl, by rw [far_size]; omega, fun k hk => by simp [far, Array.getElem?_append, hk]⟩
theorem below_far {w w' : World} (h : Below w.heap.size w w') : ∃ p, w' = far w p := by
  refine ⟨⟨w'.heap.extract w.heap.size w'.heap.size, w'.drawn⟩, ?_⟩
  obtain ⟨h1, h2, h3, h4, h5⟩ := h
  obtain ⟨hp, t, d, o, out⟩ := w'
  simp only at h1 h2 h3 h4 h5
  subst h1 h2 h3
  have e : hp = w.heap ++ hp.extract w.heap.size hp.size := by
    apply Array.ext_getElem?
    intro k
    by_cases hk : k < w.heap.size
    · rw [h5 k hk, Array.getElem?_append_left hk]
    · rw [Array.getElem?_append_right (by omega), Array.getElem?_extract]
      have e : w.heap.size + (k - w.heap.size) = k := by omega
      rw [e]
      split
      · rfl
      · rename_i hn
        rw [Array.getElem?_eq_none]
        omega
  unfold far
  exact congrArg (fun h => (⟨h, w.tape, d, w.os, w.output⟩ : World)) e
theorem far_cell {w : World} {a : Addr} {v : Value} (h : w.cell? a = some v) (p : Since) : (far w p).cell? a = some v :=
  ((far_below w p).cell (World.block_lt_of_cell? w _ h)).trans h
theorem wp_region_far {P : Program} {id : Nat} {Q : Exit → Act → World → Prop} {a : Act} {w : World} {l : List Oper} (hm : P.follows .mixedOrders = true) (hB : Region.lexB .any l.toArray = true)
    (h : wpQuiet P l.toArray (fun w' => ∃ p : Since, w' = far w p) (fun a' => ∀ w', (∃ p : Since, w' = far w p) → Q .normal a' w') l a) : (Code.region id l.toArray true).wp P Q a w :=
  wp_region_quiet (C := fun w' => ∃ p : Since, w' = far w p) hm hB (below_far ((Below.refl _ w).drew)) (by simpa using h)
section
variable {P : Program} {f : FuncId} {args : Array Value} {w : World} {p : Since} {v : Value}
theorem far_call (h : Calls P f args (far w p) fun e w' => e = .returned v ∧ Below (far w p).heap.size (far w p) w') : Calls P f args (far w p) fun e w'' => e = .returned v ∧ ∃ q : Since, w'' = far w q :=
  h.mono fun _ _ ⟨he, hb⟩ => ⟨he, below_far (Below_then (far_below w p) hb (Nat.le_refl _))⟩
theorem far_same (h : Calls P f args (far w p) fun e w' => e = .returned v ∧ far w p = w') : Calls P f args (far w p) fun e w'' => e = .returned v ∧ ∃ q : Since, w'' = far w q :=
  h.mono fun _ _ ⟨he, hb⟩ => ⟨he, p, hb.symm⟩
theorem far_drawn (h : Calls P f args (far w p) fun e w' => e = .returned v ∧ ∃ n, w' = (far w p).drewN n) : Calls P f args (far w p) fun e w'' => e = .returned v ∧ ∃ q : Since, w'' = far w q :=
  far_call (h.mono fun _ _ ⟨he, n, hn⟩ => ⟨he, by rw [hn]; exact Below_drewN (Below.refl _ _) n⟩)
theorem far_drawn_ (h : Calls P f args (far w p) fun e w' => e = .returned v ∧ Drawn_ (far w p) w') : Calls P f args (far w p) fun e w'' => e = .returned v ∧ ∃ q : Since, w'' = far w q :=
  far_drawn h
end
theorem Below_drew {w w1 : World} (h : Below w.drew.heap.size w.drew w1) : Below w.heap.size w w1 := ⟨h.os, h.tape, h.output, h.size, h.block⟩
theorem Sl.far {α : Type} {enc : α → List Value} {w : World} {size : Nat} {A : Option Addr} {l : List α} (h : Sl w enc size A l) (p : Since) : Sl (far w p) enc size A l := h.below (far_below w p)
end Go.Proofs.YtaghiefokmapmaaGreatDoor

/- Walks: words and folded names. -/
set_option linter.unusedVariables false
namespace Go.Proofs.YtaghiefokmapmaaGreatDoor
open Go.RowKit
attribute [local go_sem] mk_size mk_append i32_byte

theorem foldC_up {c : UInt8} (h1 : 65 ≤ (c.toNat : Int)) (h2 : (c.toNat : Int) ≤ 90) : ((foldC c).toNat : Int) = (c.toNat : Int) + 32 := by
  have e : foldC c = c + 32 := by unfold foldC; rw [if_pos ⟨h1, h2⟩]
  rw [e, UInt8.toNat_add]; simp; omega
theorem foldC_same {c : UInt8} (h : ¬ (65 ≤ (c.toNat : Int) ∧ (c.toNat : Int) ≤ 90)) : foldC c = c := by unfold foldC; rw [if_neg h]
theorem up_fine {c : UInt8} (h1 : 65 ≤ (c.toNat : Int)) (h2 : (c.toNat : Int) ≤ 90) : fineC c = true := by
  have := foldC_up h1 h2
  unfold fineC smallC; rw [this]; simp [inI]; omega
theorem fine_lt {c : UInt8} (h : fineC c = true) : (foldC c).toNat < 128 := by
  unfold fineC smallC digitC inI at h
  simp at h; omega
theorem foldName_ok {s : ByteArray} {k : Nat} (h1 : 1 ≤ s.size) (h2 : s.size ≤ 8) (hk : ¬ k < s.size) (ho : AllUpto fineC s k) : foldName (bs s) = ((bs s).take k).map foldC := by
  rw [List.take_of_length_le (by rw [size_bs]; omega)]
  unfold foldName; rw [if_pos ⟨h1, h2, ho.all hk⟩]
theorem foldName_long {s : ByteArray} (h : ¬ (1 ≤ s.size ∧ s.size ≤ 8)) : foldName (bs s) = [] := by
  unfold foldName; rw [if_neg]; rintro ⟨a, b, _⟩; exact h ⟨a, b⟩
theorem foldName_bad {s : ByteArray} {k : Nat} (hk : k < s.size) (h : fineC s[k] = false) : foldName (bs s) = [] := by
  unfold foldName; rw [if_neg]; rintro ⟨_, _, a⟩
  have := List.all_eq_true.1 a s[k] (by simp [bs, ByteArray.getElem_eq_getElem_data])
  rw [h] at this; cases this
theorem take_fold {s : ByteArray} {k : Nat} (h : k < s.size) : ((bs s).take (k + 1)).map foldC = ((bs s).take k).map foldC ++ [foldC s[k]] := by
  rw [List.take_succ_eq_append_getElem (by exact h)]; simp [get_bs s k h]
theorem mk_nil : mk [] = ⟨#[]⟩ := rfl
theorem small_not_digit {n : Int} (h : inI n 97 122 = true) : inI n 48 57 = false := by simp [inI] at *; omega

theorem conv_one (w : World) (c : Int) (h0 : 0 ≤ c) (h1 : c < 256) :
    (convert 56 9 (.slice (some ⟨w.heap.size, 0, none⟩) 1 1)).run Tryz.prog (w.alloc (.cells #[.int .u8 c] 5)) = .ok (.string (mk [UInt8.ofNat c.toNat])) (w.alloc (.cells #[.int .u8 c] 5)) := by
  have h := run_convert_bytes_back (P := Tryz.prog) (w.alloc (.cells #[.int .u8 c] 5)) 56 9 5 ⟨w.heap.size, 0, none⟩ 1 [UInt8.ofNat c.toNat] Tryz.underlying56 Tryz.underlying5 Tryz.underlying9 (by
    intro j hj
    have : j = 0 := by simpa using hj
    subst this
    rw [show (⟨w.heap.size, 0, none⟩ : Addr).add 0 = ⟨w.heap.size, 0, none⟩ from rfl, cell_of_row _ _ 0 _ 5 (0, 0) (heap_alloc_new w _)]
    simp; omega)
  exact h
theorem ofNat_toNat_fold (c : UInt8) : UInt8.ofNat ((c.toNat : Int)).toNat = c := by simp

/-! ### words -/
def wordC (c : UInt8) : Bool := smallC c || digitC c
theorem wordV_bad {s : ByteArray} {k : Nat} (h : k < s.size) (hb : wordC s[k] = false) : wordV (bs s) = false := by
  unfold wordV
  rw [Bool.and_eq_false_iff]; right
  rw [List.all_eq_false]
  exact ⟨s[k], by simp [bs, ByteArray.getElem_eq_getElem_data], by unfold wordC at hb; simp [hb]⟩
theorem wordV_len {s : ByteArray} (h : ¬ (1 ≤ s.size ∧ s.size ≤ 8)) : wordV (bs s) = false := by
  unfold wordV
  have : decide (1 ≤ (bs s).length ∧ (bs s).length ≤ 8) = false := by simpa [size_bs] using h
  rw [this]; rfl
theorem head_bs {s : ByteArray} (h : 0 < s.size) : (bs s).headD 0 = s[0] := by
  have := get_bs s 0 h
  cases hb : bs s with
  | nil => have := size_bs s; rw [hb] at this; simp at this; omega
  | cons c r => simp [hb] at this ⊢; exact this
theorem wordV_dig {s : ByteArray} (h : 0 < s.size) (hd : digitC s[0] = true) : wordV (bs s) = false := by
  unfold wordV; rw [head_bs h, hd]; simp
theorem wordV_good {s : ByteArray} {k : Nat} (h1 : 1 ≤ s.size) (h2 : s.size ≤ 8) (hd : digitC s[0] = false) (hk : ¬ k < s.size) (ho : AllUpto wordC s k) : wordV (bs s) = true := by
  unfold wordV; rw [head_bs h1, hd]
  have := ho.all hk
  simp only [Bool.and_eq_true, decide_eq_true_eq, Bool.not_false, and_true, size_bs]
  exact ⟨⟨h1, h2⟩, this⟩
theorem wordV_size {s : ByteArray} (h : wordV (bs s) = true) : 1 ≤ s.size ∧ s.size ≤ 8 := by
  rcases Decidable.em (1 ≤ s.size ∧ s.size ≤ 8) with h' | h'
  · exact h'
  · rw [wordV_len h'] at h; cases h

set_option maxHeartbeats 2000000 in
set_option maxRecDepth 100000 in
theorem iWordValid_any (s : ByteArray) (w : World) (hs : s.size ≤ 16777216) :
    Calls Tryz.prog 102 #[.string s] w fun e w' => e = .returned (.bool (wordV (bs s))) ∧ w = w' := by
  by_cases hl1 : 1 ≤ s.size
  · by_cases hl2 : s.size ≤ 8
    · have h0 : 0 < s.size := hl1
      have hby0 := s[0].toNat_lt
      cases hd : inI s[0].toNat 48 57
      · go_enter Tryz.func102, Tryz.ntmps102
        go_wp2_with (go_at_call 156; refine (iisDigit_any _ _).mono ?_; rintro e w' ⟨rfl, rfl⟩)
        go_loop [3] (fun i => ∃ k : Nat, k ≤ s.size ∧ i = .int .i64 k ∧ AllUpto wordC s k) (fun i => s.size - (intOf i).toNat)
        case atStart => exact ⟨0, Nat.zero_le _, rfl, AllUpto.zero _ s⟩
        case round =>
          obtain ⟨k, hk, rfl, ho⟩ := hrel
          by_cases hlt : k < s.size
          · have hby := s[k].toNat_lt
            cases hs1 : inI s[k].toNat 97 122
            · cases hs2 : inI s[k].toNat 48 57
              · go_wp2_with (first | (go_at_call 162; refine (iisSmall_any _ _).mono ?_; rintro e w' ⟨rfl, rfl⟩) | (go_at_call 156; refine (iisDigit_any _ _).mono ?_; rintro e w' ⟨rfl, rfl⟩))
                go_ret
                exact ⟨ret_bool (wordV_bad hlt (by unfold wordC smallC digitC; rw [hs1, hs2]; rfl)).symm, rfl⟩
              · go_wp2_with (first | (go_at_call 162; refine (iisSmall_any _ _).mono ?_; rintro e w' ⟨rfl, rfl⟩) | (go_at_call 156; refine (iisDigit_any _ _).mono ?_; rintro e w' ⟨rfl, rfl⟩))
                go_round
                case rel => exact ⟨k + 1, by omega, by go_num, ho.succ hlt (by unfold wordC smallC digitC; rw [hs2]; simp)⟩
                case measure => simp [intOf]; omega
            · go_wp2_with (first | (go_at_call 162; refine (iisSmall_any _ _).mono ?_; rintro e w' ⟨rfl, rfl⟩) | (go_at_call 156; refine (iisDigit_any _ _).mono ?_; rintro e w' ⟨rfl, rfl⟩))
              go_round
              case rel => exact ⟨k + 1, by omega, by go_num, ho.succ hlt (by unfold wordC smallC digitC; rw [hs1]; simp)⟩
              case measure => simp [intOf]; omega
          · go_wp2
            go_ret
            exact ⟨ret_bool (wordV_good hl1 hl2 hd hlt ho).symm, rfl⟩
      · go_enter Tryz.func102, Tryz.ntmps102
        go_wp2_with (go_at_call 156; refine (iisDigit_any _ _).mono ?_; rintro e w' ⟨rfl, rfl⟩)
        go_ret
        exact ⟨ret_bool (wordV_dig h0 hd).symm, rfl⟩
    · go_enter Tryz.func102, Tryz.ntmps102
      go_wp2
      go_ret
      exact ⟨ret_bool (wordV_len (by omega)).symm, rfl⟩
  · go_enter Tryz.func102, Tryz.ntmps102
    go_wp2
    go_ret
    exact ⟨ret_bool (wordV_len (by omega)).symm, rfl⟩

set_option maxHeartbeats 2000000 in
set_option maxRecDepth 100000 in
theorem sWordValid_any (s : ByteArray) (w : World) (hs : s.size ≤ 16777216) :
    Calls Tryz.prog 175 #[.string s] w fun e w' => e = .returned (.bool (wordV (bs s))) ∧ w = w' := by
  go_enter Tryz.func175, Tryz.ntmps175
  go_wp2
  go_loop [3] (fun i => ∃ k : Nat, k ≤ s.size ∧ i = .int .i64 k ∧ AllUpto wordC s k ∧ (0 < k → ∃ h : 0 < s.size, digitC s[0] = false)) (fun i => s.size - (intOf i).toNat)
  case atStart => exact ⟨0, Nat.zero_le _, rfl, AllUpto.zero _ s, fun h => absurd h (by omega)⟩
  case round =>
    obtain ⟨k, hk, rfl, ho, hd⟩ := hrel
    have HD := Lib.hid hd
    clear hd
    by_cases hlt : k < s.size
    · have hby := s[k].toNat_lt
      by_cases h1 : 97 ≤ (s[k].toNat : Int)
      · by_cases h2 : (s[k].toNat : Int) ≤ 122
        · have hc : wordC s[k] = true := by unfold wordC smallC inI; simp; omega
          have HC := Lib.hid hc
          clear hc
          go_wp2
          go_round
          case rel => exact ⟨k + 1, by omega, by go_num, ho.succ hlt HC.out, fun _ => by
            by_cases h0 : 0 < k
            · exact HD.out h0
            · have e : k = 0 := by omega
              subst e
              exact ⟨hlt, by unfold digitC inI; simp; omega⟩⟩
          case measure => simp [intOf]; omega
        · have hc : wordC s[k] = false := by unfold wordC smallC digitC inI; simp; omega
          have HC := Lib.hid hc
          clear hc
          by_cases h0 : k = 0
          · subst h0
            go_wp2
            go_ret
            exact ⟨ret_bool (wordV_bad hlt HC.out).symm, rfl⟩
          · have h00 : ((k : Int) == 0) = false := by simp; omega
            go_wp2
            go_ret
            exact ⟨ret_bool (wordV_bad hlt HC.out).symm, rfl⟩
      · by_cases h0 : k = 0
        · subst h0
          by_cases h3 : digitC s[0] = true
          · have HC := Lib.hid h3
            clear h3
            go_wp2
            go_ret
            exact ⟨ret_bool (wordV_dig hlt HC.out).symm, rfl⟩
          · have hc : wordC s[0] = false := by unfold wordC smallC; simp [h3]; simp [inI]; omega
            have HC := Lib.hid hc
            clear hc h3
            go_wp2
            go_ret
            exact ⟨ret_bool (wordV_bad hlt HC.out).symm, rfl⟩
        · have h00 : ((k : Int) == 0) = false := by simp; omega
          by_cases h3 : 48 ≤ (s[k].toNat : Int)
          · by_cases h4 : (s[k].toNat : Int) ≤ 57
            · have hc : wordC s[k] = true := by unfold wordC digitC inI; simp; omega
              have HC := Lib.hid hc
              clear hc
              go_wp2
              go_round
              case rel => exact ⟨k + 1, by omega, by go_num, ho.succ hlt HC.out, fun _ => HD.out (by omega)⟩
              case measure => simp [intOf]; omega
            · have hc : wordC s[k] = false := by unfold wordC smallC digitC inI; simp; omega
              have HC := Lib.hid hc
              clear hc
              go_wp2
              go_ret
              exact ⟨ret_bool (wordV_bad hlt HC.out).symm, rfl⟩
          · have hc : wordC s[k] = false := by unfold wordC smallC digitC inI; simp; omega
            have HC := Lib.hid hc
            clear hc
            go_wp2
            go_ret
            exact ⟨ret_bool (wordV_bad hlt HC.out).symm, rfl⟩
    · go_wp2_with (go_at_call 83; refine (sl1In_any _ _ _ _).mono ?_; rintro e w' ⟨rfl, rfl⟩)
      go_ret
      refine ⟨ret_bool ?_, rfl⟩
      by_cases h0 : 0 < k
      · obtain ⟨_, h3⟩ := HD.out h0
        by_cases h8 : s.size ≤ 8
        · rw [wordV_good (by omega) h8 h3 hlt ho]; simp [inI]; omega
        · rw [wordV_len (by omega)]; simp [inI]; omega
      · rw [wordV_len (by omega)]; simp [inI]; omega
end Go.Proofs.YtaghiefokmapmaaGreatDoor

/- Marks that a law writes into slices, and looks for afterwards. -/
set_option linter.unusedVariables false
namespace Go.Proofs.YtaghiefokmapmaaGreatDoor
open Go.RowKit

/-! ### plain -/
def dgo : Nat → Nat → Bs → Bs
  | 0, _, acc => acc
  | f + 1, k, acc => if k = 0 then acc else dgo f (k / 10) (UInt8.ofNat (48 + k % 10) :: acc)
def markT (k : Nat) : Bs := if k = 0 then [109, 48] else 109 :: dgo k k []
def MarkAt (k0 : Nat) (acc : Bs) (K : Nat) : Prop := ∃ f, K ≤ f ∧ dgo k0 k0 [] = dgo f K acc
theorem MarkAt.start (k0 : Nat) : MarkAt k0 [] k0 := ⟨k0, Nat.le_refl _, rfl⟩
theorem MarkAt.step {k0 : Nat} {acc : Bs} {K : Nat} (h : MarkAt k0 acc K) (hK : 0 < K) : MarkAt k0 (UInt8.ofNat (48 + K % 10) :: acc) (K / 10) := by
  obtain ⟨f, hf, e⟩ := h
  cases f with
  | zero => omega
  | succ f => exact ⟨f, by omega, by rw [e, dgo, if_neg (by omega)]⟩
theorem MarkAt.done {k0 : Nat} {acc : Bs} {K : Nat} (h : MarkAt k0 acc K) (hK : ¬ 0 < K) : dgo k0 k0 [] = acc := by
  obtain ⟨f, hf, e⟩ := h
  have : K = 0 := by omega
  subst this
  rw [e]
  cases f with
  | zero => rfl
  | succ f => rw [dgo, if_pos rfl]
theorem markT_pos {k : Nat} (h : 0 < k) : markT k = 109 :: dgo k k [] := by unfold markT; rw [if_neg (by omega)]
theorem markT_zero : markT 0 = [109, 48] := rfl

/-! ### memory -/
theorem Own.grew {α : Type} {enc : α → List Value} {w w' : World} {base size : Nat} {E : TypeId} {u v : Value} {l : List α} (h : Own w base E size enc u l) (hg : Grew v w w') (hne : ∀ g, u.ownBlock = some g → v.ownBlock ≠ some g) : Own w' base E size enc u l := by
  refine World.ownsRow.kept h (row := v.ownBlock) hg ?_
  cases hu : u.ownBlock with
  | none => exact .inl rfl
  | some k => right; intro e; exact hne k hu e.symm
theorem Grew.below {w w' : World} {v : Value} (h : Below w.heap.size w w') : Grew v w w' := ⟨h.os, h.tape, h.output, h.size, fun k hk _ => h.block k hk⟩
theorem Grew.refl (v : Value) (w : World) : Grew v w w := ⟨rfl, rfl, rfl, Nat.le_refl _, fun _ _ _ => rfl⟩
theorem Grew.trans {v : Value} {w w1 w2 : World} (h : Grew v w w1) (h2 : Grew v w1 w2) : Grew v w w2 :=
  ⟨h2.os.trans h.os, h2.tape.trans h.tape, h2.output.trans h.output, Nat.le_trans h.size h2.size, fun k hk hne => (h2.block k (Nat.lt_of_lt_of_le hk h.size) hne).trans (h.block k hk hne)⟩
theorem Grew.set {v : Value} {w w1 : World} (h : Grew v w w1) {g o : Nat} (hv : v.ownBlock = some g) (u : Value) : Grew v w (w1.setCell ⟨g, o, none⟩ u) :=
  h.trans ⟨rfl, rfl, rfl, by simp [World.setCell], fun k hk hne => Below.heap_setCell _ _ _ _ (by rintro rfl; exact hne (by rw [hv]))⟩
/-- Below a base that is not above what v owns, nothing has turned. -/
theorem Grew.under {v : Value} {w0 w w' : World} (h : Grew v w w') (hb : Below w0.heap.size w0 w) (hv : ∀ g, v.ownBlock = some g → w0.heap.size ≤ g) : Below w0.heap.size w0 w' :=
  hb.trans ⟨h.os, h.tape, h.output, h.size, fun k hk => h.block k (Nat.lt_of_lt_of_le hk hb.size) (fun e => by have := hv k e.symm; omega)⟩
/-- A row that is owned, ready to be written anew. -/
theorem Own.row {α : Type} {enc : α → List Value} {w : World} {base size : Nat} {E : TypeId} {v : Value} {l : List α} (h : Own w base E size enc v l) (hl : 0 < l.length) :
    ∃ g cap, v = .slice (some ⟨g, 0, none⟩) l.length cap ∧ base ≤ g ∧ l.length ≤ cap ∧ cap ≤ maxLen ∧ Filled w g (cap * size) E [] := by
  rcases h.2 with ⟨hv, hn⟩ | ⟨g, cap, cur, hv, hg, hh, hnc, hcm, hsz, ht⟩
  · omega
  · exact ⟨g, cap, hv, hg, hnc, hcm, cur, hh, hsz, Nat.zero_le _, rfl⟩
theorem Filled.ownc {α : Type} {enc : α → List Value} {wr : World} {g cap : Nat} {E : TypeId} {l : List α} {size base : Nat} (h : Filled wr g (cap * size) E (flat enc l)) (he : ∀ x, (enc x).length = size) (hb : base ≤ g) (hm : cap ≤ maxLen) (hl : l.length ≤ cap) :
    Own wr base E size enc (.slice (some ⟨g, 0, none⟩) l.length cap) l := by
  obtain ⟨cs, hg, hs, hd, ht⟩ := h
  refine ⟨flat_length he l, .inr ⟨g, cap, cs, rfl, hb, hg, hl, hm, hs, ?_⟩⟩
  rw [← flat_length he l]; exact ht
theorem own_of_slice (g o n c : Nat) : (Value.slice (some ⟨g, o, none⟩) n c).ownBlock = some g := rfl

/-! ### walks -/
set_option maxHeartbeats 2000000 in
set_option maxRecDepth 100000 in
theorem markText_any (k : Nat) (w : World) (hk : k ≤ 1000000000) :
    Calls Tryz.prog 74 #[.int .i64 k] w fun e w' => e = .returned (.string (mk (markT k))) ∧ Below w.heap.size w w' := by
  by_cases h0 : 0 < k
  · rw [markT_pos h0]
    have hd : decide (k = 0) = false := decide_eq_false (by omega)
    have hd2 : decide (k ≤ 0) = false := decide_eq_false (by omega)
    have hd3 : decide ((k : Int) ≤ 0) = false := decide_eq_false (by omega)
    go_enter Tryz.func74, Tryz.ntmps74
    go_wp2
    go_loopw [0, 3] (fun sk so wr => ∃ (K : Nat) (acc : Bs), sk = .int .i64 (K : Int) ∧ so = .string (mk acc) ∧ acc.length + K ≤ k ∧ Hid (MarkAt k acc K) ∧ Below w.heap.size w wr) (fun sk _ _ => (intOf sk).toNat)
    case atStart => exact ⟨k, [], rfl, rfl, by simp, MarkAt.start k, Below.refl _ _⟩
    case round =>
      obtain ⟨K, acc, rfl, rfl, hal, hm, hb⟩ := hrel
      by_cases hK : 0 < K
      · have hst := hm.out.step hK
        have HM := Lib.hid hst
        have hcv := fun wx => conv_one wx (48 + (K : Int) % 10) (by omega) (by omega)
        have e2 : (48 + (K : Int) % 10).toNat = 48 + K % 10 := by omega
        rw [e2] at hcv
        clear e2 hst hm
        generalize UInt8.ofNat (48 + K % 10) = d at *
        have z1 : (mk acc).size ≤ 2000000000 := by rw [mk_size]; omega
        have z2 : (mk [d]).size ≤ 1 := by rw [mk_size]; simp
        go_wp2
        go_roundw
        case rel => exact ⟨K / 10, d :: acc, by go_num, by rw [mk_append]; rfl, by simp; omega, HM.out, hb.alloc hb.size _⟩
        case measure => simp [intOf]; omega
      · have hd := hm.out.done hK
        have HD := Lib.hid hd
        have hK0 : K = 0 := by omega
        subst hK0
        clear hm hd
        have z1 : (mk acc).size ≤ 2000000000 := by rw [mk_size]; omega
        go_wp2
        go_ret
        exact ⟨ret_str (by rw [HD.out]; exact mk_append _ _), hb⟩
  · have hk0 : k = 0 := by omega
    subst hk0
    rw [markT_zero]
    go_enter Tryz.func74, Tryz.ntmps74
    go_wp2
    go_ret
    exact ⟨rfl, Below.refl _ _⟩

/-! ### numbers -/
def cntI (k n : Nat) : List Int := (List.range n).map fun j => ((k + j : Nat) : Int)
theorem cntI_len (k n : Nat) : (cntI k n).length = n := by simp [cntI]
theorem cntI_succ (k n : Nat) : cntI k (n + 1) = cntI k n ++ [((k + n : Nat) : Int)] := by simp [cntI, List.range_succ]
theorem cntI_at {k n j : Nat} (h : j < n) : (cntI k n)[j]'(by rw [cntI_len]; exact h) = ((k + j : Nat) : Int) := by simp [cntI]
theorem flatI_len (l : List Int) : (flat encI l).length = l.length := by rw [flat_length (size := 1) (fun _ => rfl), Nat.mul_one]
def Marked {α : Type} (E : TypeId) (size : Nat) (enc : α → List Value) (base : Nat) (v : Value) (l' : List α) (r : Nat) (w : World) (e : Ending) (w' : World) : Prop :=
  e = .returned (.int .i64 (r : Int)) ∧ Own w' base E size enc v l' ∧ Grew v w w'
theorem Own.empty {α : Type} {enc : α → List Value} {w : World} {base size : Nat} {E : TypeId} {v : Value} {l l' : List α} (h : Own w base E size enc v l) (hl : l.length = 0) (hl' : l'.length = 0) : Own w base E size enc v l' := by
  have e1 : l = [] := List.eq_nil_of_length_eq_zero hl
  have e2 : l' = [] := List.eq_nil_of_length_eq_zero hl'
  rw [e2]; rw [e1] at h; exact h
end Go.Proofs.YtaghiefokmapmaaGreatDoor

/- Walks: pieces. -/
set_option linter.unusedVariables false
namespace Go.Proofs.YtaghiefokmapmaaGreatDoor
open Go.RowKit

def pieceR (p : Pc) : Bool := textV (bs p.2) && (prOf (bs p.2) == p.1)
theorem below1 {w : World} (o : Obj) (n : Nat) : Below w.heap.size w ((w.alloc o).drewN n) := Below_drewN ((Below.refl _ _).alloc (Nat.le_refl _) o) n

def szT (left n : Int) : Int := if left < n then -1 else left - n
set_option maxHeartbeats 2000000 in
set_option maxRecDepth 100000 in
theorem szPiece_any (a left : Int) (t : ByteArray) (w : World) (hs : t.size ≤ maxLen) (h0 : 0 ≤ left) (h1 : left ≤ 1048576) :
    Calls Tryz.prog 66 #[.agg #[.int .i64 a, .string t], .int .i64 left] w fun e w' => e = .returned (.int .i64 (szT left t.size)) ∧ Below w.heap.size w w' := by
  unfold maxLen at hs
  by_cases h : left < t.size
  · have e : szT left t.size = -1 := by unfold szT; rw [if_pos h]
    rw [e]; clear e
    go_enter Tryz.func66, Tryz.ntmps66
    go_wp2
    go_ret
    exact ⟨rfl, below1 _ 0⟩
  · have e : szT left t.size = left - t.size := by unfold szT; rw [if_neg h]
    rw [e]; clear e
    go_enter Tryz.func66, Tryz.ntmps66
    go_wp2
    go_ret
    exact ⟨rfl, below1 _ 0⟩
theorem below3 {w : World} (o1 o2 o3 : Obj) : Below w.heap.size w (((w.alloc o1).alloc o2).alloc o3) :=
  (((Below.refl _ _).alloc (Nat.le_refl _) o1).alloc (by simp) o2).alloc (by simp; omega) o3
set_option maxHeartbeats 2000000 in
set_option maxRecDepth 100000 in
theorem toPiece_any (a : Int) (t : ByteArray) (w : World) :
    Calls Tryz.prog 70 #[.agg #[.int .i64 a, .string t]] w fun e w' => e = .returned (.agg #[.int .i64 a, .string t]) ∧ Below w.heap.size w w' := by
  go_enter Tryz.func70, Tryz.ntmps70
  go_wp2
  exact bodyPost_ret (v := .agg #[.int .i64 a, .string t]) (by simp [results, Tryz.results70, go_sem]) rfl ⟨rfl, below3 _ _ _⟩
theorem box_cell {w w1 : World} {cs : Array Value} {E : TypeId} (hb : Below (w.alloc (.cells cs E)).heap.size (w.alloc (.cells cs E)) w1) (k : Nat) {u : Value} (hu : cs[k]? = some u) : w1.cell? ⟨w.heap.size, k, none⟩ = some u := by
  rw [hb.cell (p := ⟨w.heap.size, k, none⟩) (by simp), cell_of_row _ _ k _ E (0, 0) (heap_alloc_new w _)]; exact hu

end Go.Proofs.YtaghiefokmapmaaGreatDoor

/- Words for slices of structs: several cells written one after the other; marks at a number. -/
set_option linter.unusedVariables false
namespace Go.Proofs.YtaghiefokmapmaaGreatDoor
open Go.RowKit

/-- Cells stored one after the other. -/
def setAll (w : World) (g : Nat) : Nat → List Value → World
  | _, [] => w
  | j, u :: r => setAll (w.setCell ⟨g, j, none⟩ u) g (j + 1) r
theorem Filled.stores_of {wr : World} {g N : Nat} {E : TypeId} : ∀ {done : List Value} (us : List Value) {j : Nat}, Filled wr g N E done → done.length = j → j + us.length ≤ N → Filled (setAll wr g j us) g N E (done ++ us) := by
  intro done us
  induction us generalizing wr done with
  | nil => intro j h _ _; rw [List.append_nil]; exact h
  | cons u r ih =>
    intro j h hd hl
    simp only [List.length_cons] at hl
    have h1 := h.store u (by omega)
    rw [hd] at h1
    have h2 := ih h1 (j := j + 1) (by simp; omega) (by omega)
    have e : done ++ u :: r = done ++ [u] ++ r := by simp
    rw [e]; exact h2
theorem Filled.stores {wr : World} {g N : Nat} {E : TypeId} {done : List Value} (h : Filled wr g N E done) (us : List Value) (hl : done.length + us.length ≤ N) : Filled (setAll wr g done.length us) g N E (done ++ us) :=
  Filled.stores_of us h rfl hl
theorem Own.sl' {α : Type} {enc : α → List Value} {w : World} {base size : Nat} {E : TypeId} {A : Option Addr} {n c : Nat} {l : List α} (h : Own w base E size enc (.slice A n c) l) : Sl w enc size A l := by
  obtain ⟨A', c', e, _, hs, _⟩ := h.sl
  injection e with e1 _ _
  rw [e1]; exact hs
theorem Own.up {α : Type} {enc : α → List Value} {w : World} {base size : Nat} {E : TypeId} {v : Value} {l : List α} (h : Own w base E size enc v l) : ∀ g, v.ownBlock = some g → g < w.heap.size := fun g hg => (h.blk g hg).2
theorem apart_of {u v : Value} {m n : Nat} (hu : ∀ g, u.ownBlock = some g → g < m) (hv : ∀ g, v.ownBlock = some g → n ≤ g) (h : m ≤ n) : ∀ g, u.ownBlock = some g → v.ownBlock ≠ some g := fun g h1 h2 => by
  have a := hu g h1; have b := hv g h2; exact absurd a (by omega)
theorem apart_of' {u v : Value} {m n : Nat} (hu : ∀ g, u.ownBlock = some g → n ≤ g) (hv : ∀ g, v.ownBlock = some g → g < m) (h : m ≤ n) : ∀ g, u.ownBlock = some g → v.ownBlock ≠ some g := fun g h1 h2 => by
  have a := hu g h1; have b := hv g h2; exact absurd b (by omega)
theorem Own.lo {α : Type} {enc : α → List Value} {w : World} {base size : Nat} {E : TypeId} {v : Value} {l : List α} (h : Own w base E size enc v l) : ∀ g, v.ownBlock = some g → base ≤ g := fun g hg => (h.blk g hg).1
theorem markText_at (x : Int) (k : Nat) (hx : x = k) (w : World) (hk : k ≤ 1000000000) :
    Calls Tryz.prog 74 #[.int .i64 x] w fun e w' => e = .returned (.string (mk (markT k))) ∧ Below w.heap.size w w' := by
  subst hx; exact markText_any k w hk
end Go.Proofs.YtaghiefokmapmaaGreatDoor

/- Pieces: copies, sizes, comparisons and marks of their slices, as laws make them. Written by structgen.py. -/
set_option linter.unusedVariables false
namespace Go.Proofs.YtaghiefokmapmaaGreatDoor
open Go.RowKit

theorem encP_info : (Tryz.prog.info? 90).map (fun i => (i.zero, i.size, i.bytes)) = some (some (.agg #[.int .i64 0, .string ⟨#[]⟩]), 2, 24) := pc_info
set_option maxHeartbeats 4000000 in
set_option maxRecDepth 100000 in
theorem toPiece1 (a0 : Int) (a1 : ByteArray) (w : World) :
    Calls Tryz.prog 70 #[.agg #[.int .i64 a0, .string a1]] w fun e w' => e = .returned (.agg #[.int .i64 a0, .string a1]) ∧ Below w.heap.size w w' := by
  go_enter Tryz.func70, Tryz.ntmps70
  go_wp2
  exact bodyPost_ret (v := .agg #[.int .i64 a0, .string a1]) (by simp [results, Tryz.results70, go_sem]) rfl ⟨rfl, below3 _ _ _⟩
set_option maxHeartbeats 4000000 in
set_option maxRecDepth 100000 in
theorem toPieceS_any (A : Option Addr) (c : Nat) (l : List Pc) (w : World) (hs : Sl w encP 2 A l) (hl : l.length ≤ 16777216) :
    Calls Tryz.prog 18 #[.slice A l.length c] w (OwnRes 90 2 encP l w) := by
  obtain ⟨i0, hi0, hz0, hz1, hz2⟩ := info_parts encP_info
  have hmk := make_row (P := Tryz.prog) 28 90 i0 _ Tryz.underlying28 hi0 hz0 l.length hl (by omega)
  rw [hz1] at hmk
  have hfl := fun W : World => Filled.made W (Value.agg #[.int .i64 0, .string ⟨#[]⟩]).cells (l.length * 2) 90
  have HFL := Lib.hid hfl
  have HS := Lib.hid hs
  clear hs hfl hi0 hz0 hz1 hz2
  generalize madeCells (Value.agg #[.int .i64 0, .string ⟨#[]⟩]).cells (l.length * 2) = M at *
  go_enter Tryz.func18, Tryz.ntmps18
  go_wp2
  clear hmk
  go_loopw [4] (fun i wr => ∃ (k : Nat), k ≤ l.length ∧ i = .int .i64 k ∧ Filled wr w.heap.size (l.length * 2) 90 (flat encP (l.take k)) ∧ Below w.heap.size w wr) (fun i _ => l.length - (intOf i).toNat)
  case atStart => exact ⟨0, Nat.zero_le _, rfl, HFL.out w, (Below.refl _ _).alloc (Nat.le_refl _) _⟩
  case round =>
    obtain ⟨k, hk, rfl, hf, hb⟩ := hrel
    by_cases hlt : k < l.length
    · obtain ⟨b, o, rfl, hc0, hc1⟩ := (HS.out.below hb).getP hlt
      have hlen : (flat encP (l.take k)).length = k * 2 := by rw [flat_length (size := 2) (fun _ => rfl), List.length_take]; omega
      have HF := Lib.hid hf
      have HB := Lib.hid hb
      clear hf hb
      have hsucc : flat encP (l.take (k + 1)) = flat encP (l.take k) ++ encP l[k] := by rw [List.take_succ_eq_append_getElem hlt, flat_snoc]
      have HSC := Lib.hid hsucc
      have HLN := Lib.hid hlen
      clear hsucc hlen
      generalize l[k] = p at *
      go_wp2_with fail
      refine (toPiece1 _ _ _).mono ?_
      rintro e w2 ⟨rfl, hb2⟩
      have hf2 := HF.out.below hb2
      have HB2 := Lib.hid (HB.out.trans (hb2.mono HB.out.size))
      clear hb2
      have HST := Lib.hid (hf2.stores (encP p) (by rw [HLN.out]; simp [encP]; omega))
      obtain ⟨u0, hu0⟩ := hf2.cell (j := k * 2) (by omega)
      have hr0 := hf2.free (k * 2)
      obtain ⟨u1, hu1⟩ := hf2.cell (j := k * 2 + 1) (by omega)
      have hr1 := hf2.free (k * 2 + 1)
      clear hf2
      go_wp2
      go_roundw
      case rel => exact ⟨k + 1, by omega, by go_num, by rw [HSC.out]; have h := HST.out; rw [HLN.out] at h; exact h, Below.setCell (Below.setCell (HB2.out) (Nat.le_refl _) _) (Nat.le_refl _) _⟩
      case measure => simp [intOf]; omega
    · go_wp2
      go_ret
      rw [List.take_of_length_le (by omega)] at hf
      exact ⟨_, rfl, hf.own (fun _ => rfl) (Nat.le_refl _) (by unfold maxLen; omega), hb⟩
def FitsPiece (l : List Pc) : Prop := ∀ p ∈ l, p.2.size ≤ 1048576
def SizedPiece (l : List Pc) (left : Int) (w : World) (e : Ending) (w' : World) : Prop :=
  ∃ r : Int, e = .returned (.int .i64 r) ∧ r ≤ left ∧ (0 ≤ r → l.length ≤ 1048576 ∧ FitsPiece l) ∧ Below w.heap.size w w'
set_option maxHeartbeats 4000000 in
set_option maxRecDepth 100000 in
theorem szPiece1 (a0 : Int) (a1 : ByteArray) (left : Int) (w : World) (hs : a1.size ≤ maxLen) (h0 : 0 ≤ left) (h1 : left ≤ 1048576) :
    Calls Tryz.prog 66 #[.agg #[.int .i64 a0, .string a1], .int .i64 left] w fun e w' => e = .returned (.int .i64 (szT left a1.size)) ∧ Below w.heap.size w w' := by
  unfold maxLen at hs
  by_cases h : left < a1.size
  · have e : szT left a1.size = -1 := by unfold szT; rw [if_pos h]
    rw [e]; clear e
    go_enter Tryz.func66, Tryz.ntmps66
    go_wp2
    go_ret
    exact ⟨rfl, below1 _ 0⟩
  · have e : szT left a1.size = left - a1.size := by unfold szT; rw [if_neg h]
    rw [e]; clear e
    go_enter Tryz.func66, Tryz.ntmps66
    go_wp2
    go_ret
    exact ⟨rfl, below1 _ 0⟩
set_option maxHeartbeats 4000000 in
set_option maxRecDepth 100000 in
theorem szPieceS_any (A : Option Addr) (c : Nat) (l : List Pc) (left : Int) (w : World) (hs : Sl w encP 2 A l) (hl : l.length ≤ maxLen) (hm : ∀ p ∈ l, p.2.size ≤ maxLen) (h0 : 0 ≤ left) (h1 : left ≤ 1048576) :
    Calls Tryz.prog 15 #[.slice A l.length c, .int .i64 left] w (SizedPiece l left w) := by
  have HS := Lib.hid hs
  have HM := Lib.hid hm
  unfold maxLen at hl
  clear hs hm
  by_cases hlen : (l.length : Int) ≤ left
  · go_enter Tryz.func15, Tryz.ntmps15
    go_wp2
    go_loopw [1, 5] (fun v i wr => ∃ (k : Nat) (L : Int), k ≤ l.length ∧ i = .int .i64 k ∧ v = .int .i64 L ∧ 0 ≤ L ∧ L ≤ left ∧ Hid (FitsPiece (l.take k)) ∧ Below w.heap.size w wr) (fun _ i _ => l.length - (intOf i).toNat)
    case atStart => exact ⟨0, left - l.length, Nat.zero_le _, rfl, rfl, by omega, by omega, (by intro p hp; simp at hp), Below.refl _ _⟩
    case round =>
      obtain ⟨k, L, hk, rfl, rfl, hL0, hL1, hft, hb⟩ := hrel
      by_cases hlt : k < l.length
      · obtain ⟨b, o, rfl, hc0, hc1⟩ := (HS.out.below hb).getP hlt
        have hms := HM.out l[k] (by simp)
        have hms2 := hms
        unfold maxLen at hms2
        have hnext : l[k].2.size ≤ 1048576 → FitsPiece (l.take (k + 1)) := fun h p hp => by
          rw [List.take_succ_eq_append_getElem hlt, List.mem_append, List.mem_singleton] at hp
          rcases hp with hp | rfl
          · exact hft.out p hp
          · exact h
        have HN := Lib.hid hnext
        have HB := Lib.hid hb
        clear hnext hb
        generalize l[k] = p at *
        have hz := szPiece1 p.1 p.2 L
        by_cases hsz : (p.2.size : Int) ≤ L
        · rw [show szT L p.2.size = L - p.2.size from by unfold szT; rw [if_neg (by omega)]] at hz
          have HZ := Lib.hid hz
          clear hz
          go_wp2_with fail
          refine (HZ.out _ hms hL0 (by omega)).mono ?_
          rintro e w2 ⟨rfl, hb2⟩
          have HB2 := Lib.hid (Below_then HB.out hb2 (Nat.le_refl _))
          clear hb2
          go_wp2
          go_roundw
          case rel => exact ⟨k + 1, _, by omega, by go_num, rfl, by omega, by omega, HN.out (by omega), HB2.out⟩
          case measure => simp [intOf]; omega
        · rw [show szT L p.2.size = -1 from by unfold szT; rw [if_pos (by omega)]] at hz
          have HZ := Lib.hid hz
          clear hz
          go_wp2_with fail
          refine (HZ.out _ hms hL0 (by omega)).mono ?_
          rintro e w2 ⟨rfl, hb2⟩
          have HB2 := Lib.hid (Below_then HB.out hb2 (Nat.le_refl _))
          clear hb2
          go_wp2
          go_ret
          exact ⟨-1, rfl, by omega, fun h => absurd h (by omega), HB2.out⟩
      · go_wp2
        go_ret
        refine ⟨L, rfl, hL1, fun _ => ⟨by omega, ?_⟩, hb⟩
        have h := hft.out; rwa [List.take_of_length_le (by omega)] at h
  · go_enter Tryz.func15, Tryz.ntmps15
    go_wp2
    go_ret
    exact ⟨-1, rfl, by omega, fun h => absurd h (by omega), Below.refl _ _⟩
set_option maxHeartbeats 4000000 in
set_option maxRecDepth 100000 in
theorem eqPiece1 (a0 : Int) (a1 : ByteArray) (w : World) :
    Calls Tryz.prog 72 #[.agg #[.int .i64 a0, .string a1], .agg #[.int .i64 a0, .string a1]] w fun e w' => e = .returned (.bool true) ∧ Below w.heap.size w w' := by
  go_enter Tryz.func72, Tryz.ntmps72
  go_wp2
  go_ret
  exact ⟨rfl, ((Below.refl _ _).alloc (Nat.le_refl _) _).alloc (by simp) _⟩
set_option maxHeartbeats 4000000 in
set_option maxRecDepth 100000 in
theorem eqPieceS_same (A B : Option Addr) (c d : Nat) (l : List Pc) (w : World) (ha : Sl w encP 2 A l) (hb : Sl w encP 2 B l) (hl : l.length ≤ 16777216) :
    Calls Tryz.prog 22 #[.slice A l.length c, .slice B l.length d] w fun e w' => e = .returned (.bool true) ∧ Below w.heap.size w w' := by
  have HA := Lib.hid ha
  have HB := Lib.hid hb
  clear ha hb
  go_enter Tryz.func22, Tryz.ntmps22
  go_wp2
  go_loopw [5] (fun i wr => ∃ (k : Nat), k ≤ l.length ∧ i = .int .i64 k ∧ Below w.heap.size w wr) (fun i _ => l.length - (intOf i).toNat)
  case atStart => exact ⟨0, Nat.zero_le _, rfl, Below.refl _ _⟩
  case round =>
    obtain ⟨k, hk, rfl, hbw⟩ := hrel
    have HW := Lib.hid hbw
    clear hbw
    by_cases hlt : k < l.length
    · obtain ⟨b1, o1, rfl, hc0, hc1⟩ := (HA.out.below HW.out).getP hlt
      obtain ⟨b2, o2, rfl, hd0, hd1⟩ := (HB.out.below HW.out).getP hlt
      generalize l[k] = p at *
      replace hc0 := far_cell hc0
      replace hc1 := far_cell hc1
      replace hd0 := far_cell hd0
      replace hd1 := far_cell hd1
      go_wp2
      refine wp_region_far (by kernel_rfl) (by kernel_rfl) ?_
      repeat (go_big_quiet_step ((go_at_call 72; exact far_call (eqPiece1 _ _ _))))
      refine wpQuiet_nil ?_
      intro _ hwF
      obtain ⟨pF, hwF⟩ := hwF
      subst hwF
      go_wp2
      go_roundw
      case rel => exact ⟨k + 1, by omega, by go_num, Below_then HW.out (far_below _ _) (Nat.le_refl _)⟩
      case measure => simp [intOf]; omega
    · go_wp2
      go_ret
      exact ⟨rfl, HW.out⟩
def markPieceL (k n : Nat) : List Pc := (List.range n).map fun j => (((k + 2 * j + 0 : Nat) : Int), mk (markT (k + 2 * j + 1)))
theorem markPieceL_len (k n : Nat) : (markPieceL k n).length = n := by simp [markPieceL]
theorem markPieceL_succ (k n : Nat) : markPieceL k (n + 1) = markPieceL k n ++ [(((k + 2 * n + 0 : Nat) : Int), mk (markT (k + 2 * n + 1)))] := by simp [markPieceL, List.range_succ]
theorem markPieceL_at {k n j : Nat} (h : j < n) : (markPieceL k n)[j]'(by rw [markPieceL_len]; exact h) = (((k + 2 * j + 0 : Nat) : Int), mk (markT (k + 2 * j + 1))) := by simp [markPieceL]
set_option maxHeartbeats 4000000 in
set_option maxRecDepth 100000 in
theorem markPieceS_any (base : Nat) (v : Value) (l : List Pc) (k : Nat) (w : World) (h : Own w base 90 2 encP v l) (hl : l.length ≤ 16777216) (hk : k ≤ 100000000) :
    Calls Tryz.prog 24 #[v, .int .i64 k] w (Marked 90 2 encP base v (markPieceL k l.length) (k + 2 * l.length) w) := by
  by_cases h0 : 0 < l.length
  · obtain ⟨g, cap, rfl, hg, hlc, hcm, hf⟩ := h.row h0
    have HF := Lib.hid hf
    have hcm' := hcm
    unfold maxLen at hcm'
    clear hf h
    go_enter Tryz.func24, Tryz.ntmps24
    go_wp2
    go_loopw [1, 5] (fun sk si wr => ∃ (j K : Nat), j ≤ l.length ∧ si = .int .i64 (j : Int) ∧ sk = .int .i64 (K : Int) ∧ Hid (K = k + 2 * j) ∧ K ≤ 300000000 ∧ Filled wr g (cap * 2) 90 (flat encP (markPieceL k j)) ∧ Grew (.slice (some ⟨g, 0, none⟩) l.length cap) w wr) (fun _ si _ => l.length - (intOf si).toNat)
    case atStart => exact ⟨0, k, Nat.zero_le _, rfl, rfl, rfl, by omega, HF.out, Grew.refl _ _⟩
    case round =>
      obtain ⟨j, K, hj, rfl, rfl, hK, hKb, hf, hg2⟩ := hrel
      by_cases hlt : j < l.length
      · have hlen : (flat encP (markPieceL k j)).length = j * 2 := by rw [flat_length (size := 2) (fun _ => rfl), markPieceL_len]
        have hsucc : flat encP (markPieceL k (j + 1)) = flat encP (markPieceL k j) ++ [Value.int .i64 ((K + 0 : Nat) : Int), .string (mk (markT (K + 1)))] := by
          rw [markPieceL_succ, flat_snoc]; have := hK.out; subst this; rfl
        have HSC := Lib.hid hsucc
        have HLN := Lib.hid hlen
        have HK := hK
        have HF0 := Lib.hid hf
        have HG0 := Lib.hid hg2
        clear hsucc hlen hK hf hg2
        generalize flat encP (markPieceL k j) = D at *
        obtain ⟨u0, hu0⟩ := HF0.out.cell (j := j * 2) (by omega)
        have hr0 := HF0.out.free (j * 2)
        go_wp2_with fail
        refine (markText_at _ (K + 1) (by omega) _ (by omega)).mono ?_
        rintro e w2 ⟨rfl, hb2⟩
        have hst1 := Filled.stores_of [Value.int .i64 ((K + 0 : Nat) : Int)] (j := j * 2) HF0.out (by simp [HLN.out]) (by simp; omega)
        have HF2 := Lib.hid (hst1.below hb2)
        have HG2 := Lib.hid ((Grew.set (HG0.out) rfl _).trans (Grew.below hb2))
        clear hb2 hu0 hr0 hst1
        obtain ⟨u1, hu1⟩ := HF2.out.cell (j := j * 2 + 1) (by omega)
        have hr1 := HF2.out.free (j * 2 + 1)
        have HST := Lib.hid (Filled.stores_of [.string (mk (markT (K + 1)))] (j := j * 2 + 1) HF2.out (by simp [HLN.out]) (by simp; omega))
        go_wp2
        go_roundw
        case rel => exact ⟨j + 1, K + 2, by omega, by go_num, by go_num, by show _ = _; rw [HK.out]; omega, by have := HK.out; omega, by rw [HSC.out]; have h := HST.out; simpa [setAll, Nat.add_assoc, Int.add_assoc] using h, Grew.set (HG2.out) rfl _⟩
        case measure => simp [intOf]; omega
      · have hjl : j = l.length := by omega
        subst hjl
        have HG2 := Lib.hid hg2
        have HF2 := Lib.hid hf
        clear hg2 hf
        go_wp2
        go_ret
        have ho := HF2.out.ownc (base := base) (fun _ => rfl) hg hcm (by rw [markPieceL_len]; exact hlc)
        rw [markPieceL_len] at ho
        exact ⟨ret_int (by rw [hK.out]), ho, HG2.out⟩
  · have hz : l.length = 0 := by omega
    obtain ⟨A, c, hv, _, _, _⟩ := h.sl
    subst hv
    rw [hz] at h ⊢
    have H := Lib.hid h
    clear h
    go_enter Tryz.func24, Tryz.ntmps24
    go_wp2
    go_loopw [1, 5] (fun sk si wr => si = .int .i64 0 ∧ sk = .int .i64 (k : Int) ∧ w = wr) (fun _ _ _ => 0)
    case atStart => exact ⟨rfl, rfl, rfl⟩
    case round =>
      obtain ⟨rfl, rfl, rfl⟩ := hrel
      go_wp2
      go_ret
      exact ⟨rfl, H.out.empty hz (by rw [markPieceL_len]), Grew.refl _ _⟩
set_option maxHeartbeats 4000000 in
set_option maxRecDepth 100000 in
theorem heldPieceS_any (A : Option Addr) (c : Nat) (k n : Nat) (w : World) (hs : Sl w encP 2 A (markPieceL k n)) (hn : n ≤ 16777216) (hk : k ≤ 100000000) :
    Calls Tryz.prog 96 #[.slice A n c, .int .i64 k] w fun e w' => e = .returned (.int .i64 ((k + 2 * n : Nat) : Int)) ∧ Below w.heap.size w w' := by
  have HS := Lib.hid hs
  clear hs
  go_enter Tryz.func96, Tryz.ntmps96
  go_wp2
  go_loopw [1, 5] (fun sk si wr => ∃ (j K : Nat), j ≤ n ∧ si = .int .i64 (j : Int) ∧ sk = .int .i64 (K : Int) ∧ Hid (K = k + 2 * j) ∧ K ≤ 300000000 ∧ Below w.heap.size w wr) (fun _ si _ => n - (intOf si).toNat)
  case atStart => exact ⟨0, k, Nat.zero_le _, rfl, rfl, rfl, by omega, Below.refl _ _⟩
  case round =>
    obtain ⟨j, K, hj, rfl, rfl, hK, hKb, hb⟩ := hrel
    have HB0 := Lib.hid hb
    clear hb
    by_cases hlt : j < n
    · have HK := hK
      have hat := markPieceL_at (k := k) hlt
      rw [← hK.out] at hat
      clear hK
      obtain ⟨b, o, rfl, hc0, hc1⟩ := (HS.out.below HB0.out).getP (k := j) (by rw [markPieceL_len]; exact hlt)
      rw [hat] at hc0 hc1
      clear hat
      go_wp2
      have hf0 := far_cell hc0
      have hf1 := far_cell hc1
      have HC := Lib.hid (And.intro hc0 hc1)
      clear hc0 hc1
      refine wp_region_far (by kernel_rfl) (by kernel_rfl) ?_
      repeat (go_big_quiet_step ((go_at_call 74; exact far_call (markText_at _ (K + 1) (by omega) _ (by omega)))))
      refine wpQuiet_nil ?_
      intro _ hwF
      obtain ⟨pF, hwF⟩ := hwF
      subst hwF
      have HB2 := Lib.hid (Below_then HB0.out (far_below _ pF) (Nat.le_refl _))
      obtain ⟨hc0, hc1⟩ := HC.out
      replace hc0 := hf0 pF
      replace hc1 := hf1 pF
      clear hf0 hf1 HC
      generalize far _ pF = wF1 at *
      go_wp2
      go_roundw
      case rel => exact ⟨j + 1, K + 2, by omega, by go_num, by go_num, by show _ = _; rw [HK.out]; omega, by have := HK.out; omega, HB2.out⟩
      case measure => simp [intOf]; omega
    · have hjl : j = n := by omega
      subst hjl
      go_wp2
      go_ret
      exact ⟨ret_int (by rw [hK.out]), HB0.out⟩
/-- What is told of a slice of such structs that came in. -/
def PiecesIn (w : World) (A : Option Addr) (n c : Nat) : Prop := ∃ l : List Pc, l.length = n ∧ n ≤ c ∧ c ≤ maxLen ∧ Sl w encP 2 A l ∧ ∀ p ∈ l, p.2.size ≤ maxLen
end Go.Proofs.YtaghiefokmapmaaGreatDoor
