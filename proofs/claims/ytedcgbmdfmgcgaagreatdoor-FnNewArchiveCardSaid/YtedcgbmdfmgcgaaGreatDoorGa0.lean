/- Texts in one: Pure, Heap, Ty, So, Hx, Fo, Fp, Fw, Vp, Fa, Nwp, Wp, Ws, Fz, Heap2. -/
import Derived.WalkKit
import Derived.WalkLawsBesides
import Derived.WalkSpells
import Derived.Deep.AppendLies
import Derived.Deep.Draws
import Derived.Maps.AppendAt
import Derived.Lib.Hide
import Derived.Deep.QuietTactic
import Derived.Test.YtedcgbmdfmgcgaaGreatDoorChecked
import Derived.Laws.Strings
import Derived.Lib.Split
import Derived.RegionTactic
import Derived.Deep.RegionLaw
/- What the program computes, in plain Lean on lists and integers: words, prints, trees, versions, filters, damage, spots, names, tags, searches. No program in sight. -/
set_option linter.unusedVariables false
namespace Go.Proofs.YtedcgbmdfmgcgaaGreatDoor
abbrev Bs := List UInt8

/-! ### words and prints -/
def inI (n lo hi : Int) : Bool := decide (lo ≤ n ∧ n ≤ hi)
def pv (n : Int) : Bool := inI n 0 16777212
def smallC (c : UInt8) : Bool := inI c.toNat 97 122
def digitC (c : UInt8) : Bool := inI c.toNat 48 57
def okC (c : UInt8) : Bool := decide (32 ≤ (c.toNat : Int) ∧ (c.toNat : Int) ≤ 126)
def textV (s : Bs) : Bool := decide (s.length ≤ 60) && s.all okC
def wordV (s : Bs) : Bool := decide (1 ≤ s.length ∧ s.length ≤ 8) && !digitC (s.headD 0) && s.all (fun c => smallC c || digitC c)
def hash (n : Int) (s : Bs) : Int := s.foldl (fun n c => (n * 257 + c.toNat) % 16777213) n
def foldC (c : UInt8) : UInt8 := if 65 ≤ (c.toNat : Int) ∧ (c.toNat : Int) ≤ 90 then c + 32 else c
def fineC (c : UInt8) : Bool := smallC (foldC c) || digitC (foldC c)
def foldName (s : Bs) : Bs := if 1 ≤ s.length ∧ s.length ≤ 8 ∧ s.all fineC = true then s.map foldC else []
def prOf (s : Bs) : Int := if textV s then hash 1 s else -1
def prPair (a b : Int) : Int := if pv a && pv b then (a * 7919 + b * 104729 + 3) % 16777213 else -1
def prList (l : List Int) : Int := if l.length ≤ 20 ∧ l.all pv = true then l.foldl prPair 5 else -1

theorem inI_true {n lo hi : Int} (h : lo ≤ n ∧ n ≤ hi) : inI n lo hi = true := by simp [inI, h]
theorem inI_false {n lo hi : Int} (h : ¬ (lo ≤ n ∧ n ≤ hi)) : inI n lo hi = false := by simp [inI]; omega
theorem pv_iff {n : Int} : pv n = true ↔ 0 ≤ n ∧ n ≤ 16777212 := by simp [pv, inI]
theorem pv_false {n : Int} : pv n = false ↔ ¬ (0 ≤ n ∧ n ≤ 16777212) := by
  cases h : pv n
  · simp only [true_iff]; intro hh; rw [pv_iff.2 hh] at h; cases h
  · simp only [Bool.true_eq_false, false_iff, Decidable.not_not]; exact pv_iff.1 h

theorem hash_bd (s : Bs) : ∀ n : Int, 0 ≤ n → n ≤ 16777212 → 0 ≤ hash n s ∧ hash n s ≤ 16777212 := by
  induction s with
  | nil => intro n h1 h2; exact ⟨h1, h2⟩
  | cons c r ih =>
    intro n h1 h2
    have := ih ((n * 257 + c.toNat) % 16777213) (by omega) (by omega)
    simpa [hash] using this
theorem hash_snoc (n : Int) (s : Bs) (c : UInt8) : hash n (s ++ [c]) = (hash n s * 257 + c.toNat) % 16777213 := by simp [hash, List.foldl_append]
theorem prOf_bd (s : Bs) : -1 ≤ prOf s ∧ prOf s ≤ 16777212 := by
  unfold prOf; split
  · have := hash_bd s 1 (by omega) (by omega); omega
  · omega
theorem prOf_pv {s : Bs} (h : textV s = true) : pv (prOf s) = true := by
  unfold prOf; rw [if_pos h]; exact pv_iff.2 (hash_bd s 1 (by omega) (by omega))
theorem prOf_bad {s : Bs} (h : textV s = false) : prOf s = -1 := by unfold prOf; simp [h]
theorem prPair_bd (a b : Int) : -1 ≤ prPair a b ∧ prPair a b ≤ 16777212 := by
  unfold prPair; split <;> omega
theorem prPair_pv {a b : Int} (ha : pv a = true) (hb : pv b = true) : pv (prPair a b) = true := by
  unfold prPair; rw [ha, hb]; simp only [Bool.and_self, if_true]; exact pv_iff.2 (by omega)

/-! ### trees -/
def lvlUp : List Int → List Int
  | a :: b :: r => prPair a b :: lvlUp r
  | [a] => [a]
  | [] => []
def leavesV (l : List Int) : Bool := decide (1 ≤ l.length ∧ l.length ≤ 16) && l.all pv
/-- The top after at most 'f' levels. -/
def topF : Nat → List Int → Int
  | 0, l => l.headD 0
  | f + 1, l => if 1 < l.length then topF f (lvlUp l) else l.headD 0
def treeRoot (l : List Int) : Int := if leavesV l then topF 5 l else -1
def proofF : Nat → List Int → Nat → List Int
  | 0, _, _ => []
  | f + 1, l, n => if 1 < l.length then (if n ^^^ 1 < l.length then l.getD (n ^^^ 1) 0 else -1) :: proofF f (lvlUp l) (n / 2) else []
def treeProof (l : List Int) (n : Int) : List Int := if leavesV l ∧ 0 ≤ n ∧ n < l.length then proofF 5 l n.toNat else []

end Go.Proofs.YtedcgbmdfmgcgaaGreatDoor

/- Words for memory: a slice that reads as a list; rows of the call's own; an append of one element. Plain theorems, no program in sight. -/
set_option linter.unusedVariables false
namespace Go.Proofs.YtedcgbmdfmgcgaaGreatDoor
open Go.RowKit

/-- The cells of a list of elements, one after the other. -/
def flat {α : Type} (enc : α → List Value) (l : List α) : List Value := l.flatMap enc
theorem flat_nil {α : Type} (enc : α → List Value) : flat enc [] = [] := rfl
theorem flat_append {α : Type} (enc : α → List Value) (l m : List α) : flat enc (l ++ m) = flat enc l ++ flat enc m := by simp [flat]
theorem flat_snoc {α : Type} (enc : α → List Value) (l : List α) (x : α) : flat enc (l ++ [x]) = flat enc l ++ enc x := by simp [flat]
theorem flat_cons {α : Type} (enc : α → List Value) (l : List α) (x : α) : flat enc (x :: l) = enc x ++ flat enc l := by simp [flat]
theorem flat_length {α : Type} {enc : α → List Value} {size : Nat} (he : ∀ x, (enc x).length = size) (l : List α) : (flat enc l).length = l.length * size := by
  induction l with
  | nil => simp [flat]
  | cons x r ih => rw [flat_cons, List.length_append, he, ih, List.length_cons, Nat.succ_mul, Nat.add_comm]
theorem flat_get {α : Type} {enc : α → List Value} {size : Nat} (he : ∀ x, (enc x).length = size) (l : List α) : ∀ (k : Nat) (hk : k < l.length) (j : Nat), j < size → (flat enc l)[k * size + j]? = (enc l[k])[j]? := by
  induction l with
  | nil => intro k hk; simp at hk
  | cons x r ih =>
    intro k hk j hj
    rw [flat_cons]
    cases k with
    | zero => simp only [Nat.zero_mul, Nat.zero_add, List.getElem_cons_zero]; rw [List.getElem?_append_left (by rw [he]; exact hj)]
    | succ k =>
      rw [List.getElem?_append_right (by rw [he, Nat.succ_mul]; omega), he]
      have e : (k + 1) * size + j - size = k * size + j := by rw [Nat.succ_mul]; omega
      rw [e, ih k (by simpa using hk) j hj]; simp

def encI (x : Int) : List Value := [.int .i64 x]
def encS (s : ByteArray) : List Value := [.string s]
abbrev Pc := Int × ByteArray
def encP (p : Pc) : List Value := [.int .i64 p.1, .string p.2]
abbrev En := ByteArray × Int
def encE (p : En) : List Value := [.string p.1, .int .i64 p.2]
abbrev Vr := Int × Int × ByteArray
def encV (v : Vr) : List Value := [.int .i64 v.1, .int .i64 v.2.1, .string v.2.2]
abbrev Tg := ByteArray × Int × Int × Int
def encT (v : Tg) : List Value := [.string v.1, .int .i64 v.2.1, .int .i64 v.2.2.1, .int .i64 v.2.2.2]

/-- The slice value '.slice A n c' holds the elements l ('size' cells each); n is l's length. -/
def Sl {α : Type} (w : World) (enc : α → List Value) (size : Nat) (A : Option Addr) (l : List α) : Prop :=
  0 < l.length → ∃ b o, A = some ⟨b, o, none⟩ ∧ ∀ j u, (flat enc l)[j]? = some u → w.cell? ⟨b, o + j, none⟩ = some u

section
variable {α : Type} {enc : α → List Value} {w w' : World} {B size : Nat} {A : Option Addr} {l : List α}
theorem Sl.none_ : Sl w enc size A [] := fun h => absurd h (by simp)
theorem Sl.keep (h : Sl w enc size A l) (hk : ∀ p : Addr, p.block < w.heap.size → w'.cell? p = w.cell? p) : Sl w' enc size A l := by
  intro hn
  obtain ⟨b, o, e, hc⟩ := h hn
  refine ⟨b, o, e, fun j u hu => ?_⟩
  have hcc := hc j u hu
  rw [hk _ (World.block_lt_of_cell? w _ hcc)]; exact hcc
theorem Sl.below (h : Sl w enc size A l) (hb : Below w.heap.size w w') : Sl w' enc size A l := h.keep fun _ hp => hb.cell hp
theorem Sl.drew (h : Sl w enc size A l) : Sl w.drew enc size A l := h
theorem Sl.drewN (h : Sl w enc size A l) (k : Nat) : Sl (w.drewN k) enc size A l := h
theorem Sl.alloc (h : Sl w enc size A l) (o : Obj) : Sl (w.alloc o) enc size A l := h.keep fun p hp => World.cell?_alloc_lt w o p hp
theorem Sl.get {k : Nat} (h : Sl w enc size A l) (he : ∀ x, (enc x).length = size) (hk : k < l.length) :
    ∃ b o, A = some ⟨b, o, none⟩ ∧ ∀ j u, j < size → (enc l[k])[j]? = some u → w.cell? ⟨b, o + (k * size + j), none⟩ = some u := by
  obtain ⟨b, o, e, hc⟩ := h (by omega)
  refine ⟨b, o, e, fun j u hj hu => hc _ u ?_⟩
  rw [flat_get he l k hk j hj]; exact hu
end

theorem Sl.getI {w : World} {A : Option Addr} {l : List Int} {k : Nat} (h : Sl w encI 1 A l) (hk : k < l.length) :
    ∃ b o, A = some ⟨b, o, none⟩ ∧ w.cell? ⟨b, o + k, none⟩ = some (.int .i64 l[k]) := by
  obtain ⟨b, o, e, hc⟩ := h.get (fun _ => rfl) hk
  exact ⟨b, o, e, by simpa using hc 0 _ (by omega) rfl⟩
theorem Sl.getS {w : World} {A : Option Addr} {l : List ByteArray} {k : Nat} (h : Sl w encS 1 A l) (hk : k < l.length) :
    ∃ b o, A = some ⟨b, o, none⟩ ∧ w.cell? ⟨b, o + k, none⟩ = some (.string l[k]) := by
  obtain ⟨b, o, e, hc⟩ := h.get (fun _ => rfl) hk
  exact ⟨b, o, e, by simpa using hc 0 _ (by omega) rfl⟩
theorem Sl.getP {w : World} {A : Option Addr} {l : List Pc} {k : Nat} (h : Sl w encP 2 A l) (hk : k < l.length) :
    ∃ b o, A = some ⟨b, o, none⟩ ∧ w.cell? ⟨b, o + k * 2, none⟩ = some (.int .i64 l[k].1) ∧ w.cell? ⟨b, o + k * 2 + 1, none⟩ = some (.string l[k].2) := by
  obtain ⟨b, o, e, hc⟩ := h.get (fun _ => rfl) hk
  exact ⟨b, o, e, by simpa using hc 0 _ (by omega) rfl, by simpa [Nat.add_assoc] using hc 1 _ (by omega) rfl⟩
theorem Sl.getE {w : World} {A : Option Addr} {l : List En} {k : Nat} (h : Sl w encE 2 A l) (hk : k < l.length) :
    ∃ b o, A = some ⟨b, o, none⟩ ∧ w.cell? ⟨b, o + k * 2, none⟩ = some (.string l[k].1) ∧ w.cell? ⟨b, o + k * 2 + 1, none⟩ = some (.int .i64 l[k].2) := by
  obtain ⟨b, o, e, hc⟩ := h.get (fun _ => rfl) hk
  exact ⟨b, o, e, by simpa using hc 0 _ (by omega) rfl, by simpa [Nat.add_assoc] using hc 1 _ (by omega) rfl⟩
theorem Sl.getV {w : World} {A : Option Addr} {l : List Vr} {k : Nat} (h : Sl w encV 3 A l) (hk : k < l.length) :
    ∃ b o, A = some ⟨b, o, none⟩ ∧ w.cell? ⟨b, o + k * 3, none⟩ = some (.int .i64 l[k].1) ∧ w.cell? ⟨b, o + k * 3 + 1, none⟩ = some (.int .i64 l[k].2.1) ∧ w.cell? ⟨b, o + k * 3 + 2, none⟩ = some (.string l[k].2.2) := by
  obtain ⟨b, o, e, hc⟩ := h.get (fun _ => rfl) hk
  exact ⟨b, o, e, by simpa using hc 0 _ (by omega) rfl, by simpa [Nat.add_assoc] using hc 1 _ (by omega) rfl, by simpa [Nat.add_assoc] using hc 2 _ (by omega) rfl⟩
theorem Sl.getT {w : World} {A : Option Addr} {l : List Tg} {k : Nat} (h : Sl w encT 4 A l) (hk : k < l.length) :
    ∃ b o, A = some ⟨b, o, none⟩ ∧ w.cell? ⟨b, o + k * 4, none⟩ = some (.string l[k].1) ∧ w.cell? ⟨b, o + k * 4 + 1, none⟩ = some (.int .i64 l[k].2.1) ∧ w.cell? ⟨b, o + k * 4 + 2, none⟩ = some (.int .i64 l[k].2.2.1) ∧ w.cell? ⟨b, o + k * 4 + 3, none⟩ = some (.int .i64 l[k].2.2.2) := by
  obtain ⟨b, o, e, hc⟩ := h.get (fun _ => rfl) hk
  exact ⟨b, o, e, by simpa using hc 0 _ (by omega) rfl, by simpa [Nat.add_assoc] using hc 1 _ (by omega) rfl, by simpa [Nat.add_assoc] using hc 2 _ (by omega) rfl, by simpa [Nat.add_assoc] using hc 3 _ (by omega) rfl⟩

/-! ### rows of the call's own -/
/-- The slice value v owns a row, in a block from 'base' on, that holds the elements l. -/
def Own {α : Type} (w : World) (base : Nat) (E : TypeId) (size : Nat) (enc : α → List Value) (v : Value) (l : List α) : Prop :=
  w.ownsRow base E size v l.length (flat enc l)

section
variable {α : Type} {enc : α → List Value} {w w' : World} {B base size : Nat} {E : TypeId} {v : Value} {l : List α}
theorem Own.nil : Own w base E size enc (.slice none 0 0) [] := World.ownsRow_nil _ _ _ _
theorem Own.made (hb : base ≤ w.heap.size) : Own (w.alloc (.cells #[] E)) base E size enc (.slice (some ⟨w.heap.size, 0, none⟩) 0 0) [] :=
  World.ownsRow_made _ _ 0 hb (by unfold maxLen; omega) (by simp)
theorem Own.below (h : Own w base E size enc v l) (hb : Below w.heap.size w w') : Own w' base E size enc v l :=
  World.ownsRow.kept h (row := none) ⟨hb.os, hb.tape, hb.output, hb.size, fun k hk _ => hb.block k hk⟩ (by cases hv : v.ownBlock <;> simp)
theorem Own.alloc (h : Own w base E size enc v l) (o : Obj) : Own (w.alloc o) base E size enc v l := World.ownsRow.alloc h o
theorem Own.drew (h : Own w base E size enc v l) : Own w.drew base E size enc v l := h
theorem Own.drewN (h : Own w base E size enc v l) (k : Nat) : Own (w.drewN k) base E size enc v l := h
theorem Own.mono {base' : Nat} (h : Own w base E size enc v l) (hb : base' ≤ base) : Own w base' E size enc v l := by
  refine ⟨h.1, ?_⟩
  rcases h.2 with h2 | ⟨g, cap, cur, hv, hg, r⟩
  · exact .inl h2
  · exact .inr ⟨g, cap, cur, hv, Nat.le_trans hb hg, r⟩
/-- An owned row is a slice that reads as its list. -/
theorem Own.sl (h : Own w base E size enc v l) : ∃ A c, v = .slice A l.length c ∧ l.length ≤ c ∧ Sl w enc size A l ∧ (l = [] ∧ A = none ∨ ∃ g, A = some ⟨g, 0, none⟩ ∧ base ≤ g ∧ g < w.heap.size) := by
  rcases h.2 with ⟨hv, hn⟩ | ⟨g, cap, cur, hv, hg, hh, hnc, hcm, hsz, ht⟩
  · have hl : l = [] := List.eq_nil_of_length_eq_zero hn
    subst hl
    exact ⟨none, 0, hv, Nat.le_refl _, Sl.none_, .inl ⟨rfl, rfl⟩⟩
  · refine ⟨some ⟨g, 0, none⟩, cap, hv, hnc, fun _ => ⟨g, 0, rfl, fun j u hu => ?_⟩, .inr ⟨g, rfl, hg, (Array.getElem?_eq_some_iff.1 hh).1⟩⟩
    have hc := World.ownsRow.cells h (g := g) (by rw [hv]; rfl) j u hu
    have hadd : (⟨g, 0, none⟩ : Addr).add j = ⟨g, 0 + j, none⟩ := by unfold Addr.add; split <;> simp_all
    rw [hadd] at hc; exact hc
end

/-- The result is a slice of the call's own. -/
def OwnRes {α : Type} (E : TypeId) (size : Nat) (enc : α → List Value) (l : List α) (w : World) (e : Ending) (w' : World) : Prop :=
  ∃ v, e = .returned v ∧ Own w' w.heap.size E size enc v l ∧ Below w.heap.size w w'
/-! ### worlds -/
section
variable {w w1 : World} {B : Nat}
theorem Below_drewN (h : Below B w w1) (n : Nat) : Below B w (w1.drewN n) := ⟨h.os, h.tape, h.output, h.size, h.block⟩
theorem Below_of_drewN {n : Nat} (h : Below (w.drewN n).heap.size (w.drewN n) w1) : Below w.heap.size w w1 := ⟨h.os, h.tape, h.output, h.size, h.block⟩
theorem Below_of_alloc {o : Obj} (h : Below (w.alloc o).heap.size (w.alloc o) w1) : Below w.heap.size w w1 :=
  ((Below.refl _ _).alloc (Nat.le_refl _) o).trans (h.mono (by simp))
theorem Below_then (h : Below B w w1) {w2 : World} (h2 : Below w1.heap.size w1 w2) (hB : B ≤ w.heap.size) : Below B w w2 :=
  h.trans (h2.mono (Nat.le_trans hB h.size))
theorem Below_cells (hb : Below w.heap.size w w1) : ∀ b o u, w.cell? ⟨b, o, none⟩ = some u → w1.cell? ⟨b, o, none⟩ = some u :=
  fun _ _ _ h => (hb.cell (World.block_lt_of_cell? w _ h)).trans h
end

/-- 'append(v, x)' of one element onto a row of the call's own: x lies in a new block. -/
theorem wpList_app1 {P : Program} {α : Type} {enc : α → List Value} {ops : Array Oper} {rest : List Oper} {o : Oper} {a : Act} {Q : Exit → Act → World → Prop} {w0 wr : World} {B base size bytes : Nat} {t E : TypeId} {i : TypeInfo} {z : Value} {v : Value} {l : List α}
    (ht : P.underlying t = some (.slice E)) (hi : P.info? E = some i) (hz : i.zero = some z) (hsize : i.size = size) (hby : i.bytes = bytes) (hzs : z.cells.size = size) (hsz : 0 < size) (hb200 : bytes ≤ 256)
    (hgd : o.guard = none) (s x : Operand) (ho : o.op = .call { callee := .builtin .append, args := #[s, x], argTypes := #[t, t] })
    (hs : a.eval s = v) (hx : a.eval x = .slice (some ⟨wr.heap.size, 0, none⟩) 1 1)
    (hown : Own wr base E size enc v l) (hb : Below B w0 wr) (hB : B ≤ base) (hbase : base ≤ wr.heap.size) (hn : l.length ≤ 16777216) (y : α) (cells : Array Value) (hcl : cells = (enc y).toArray) (hce : (enc y).length = size) (h1 : ∀ u ∈ enc y, u.oneCell' = true)
    (h : ∀ v' w', Own w' base E size enc v' (l ++ [y]) → Below B w0 w' → wpList P ops Q rest (a.put o.dst v') w') : wpList P ops Q (o :: rest) a (wr.alloc (.cells cells E)) := by
  subst hcl
  refine wpList_append_own _ hgd s x t ho base E i z size bytes ht hi hz hsize hby hzs hsz v l.length (flat enc l) hs (World.ownsRow.alloc hown _) ⟨wr.heap.size, 0, none⟩ 1 1 (enc y) hx (by rw [hce, Nat.one_mul]) ?_ h1 ?_ ?_ ?_ ?_
  · intro j u hu
    have hadd : (⟨wr.heap.size, 0, none⟩ : Addr).add j = ⟨wr.heap.size, j, none⟩ := by unfold Addr.add; split <;> simp_all
    rw [hadd, cell_of_row _ _ j _ E (0, 0) (heap_alloc_new wr _)]
    simpa using hu
  · unfold maxLen; omega
  · have := Nat.mul_le_mul_left (l.length + 1) hb200; omega
  · simp; omega
  · intro v' w' hown' hg _
    refine h v' w' ?_ ((hb.alloc (Nat.le_trans hB hbase) _).grown hg (by simp; omega) (fun k hk => ?_))
    · show w'.ownsRow base E size v' (l ++ [y]).length (flat enc (l ++ [y]))
      rw [flat_snoc, List.length_append]; exact hown'
    · exact Nat.le_trans hB (World.ownsRow.lt hown k hk).1

/-- A list of bytes as a string. -/
def mk (l : List UInt8) : ByteArray := ⟨l.toArray⟩
theorem mk_size (l : List UInt8) : (mk l).size = l.length := by simp [mk, ByteArray.size]
theorem mk_bs (s : ByteArray) : mk s.data.toList = s := by cases s; rfl
theorem bs_mk (l : List UInt8) : (mk l).data.toList = l := rfl
theorem mk_toList (l : List UInt8) : (mk l).toList = l := by rw [ByteArray.toList_eq]; rfl
theorem mk_append (a b : List UInt8) : mk a ++ mk b = mk (a ++ b) := by
  apply ByteArray.ext; simp [mk]
theorem encode_byte (c : UInt8) (h : c.toNat < 128) : Utf8.encode (c.toNat : Int) = mk [c] := by
  have hv : Utf8.valid (c.toNat : Int) = true := by unfold Utf8.valid; simp; omega
  unfold Utf8.encode
  simp only [hv, if_true, Int.toNat_natCast]
  rw [if_pos (by omega)]
  simp [mk]
theorem i32_byte (c : UInt8) : IntKind.i32.wrap (c.toNat : Int) = c.toNat := by
  have := c.toNat_lt
  rw [IntKind.wrap_i32]; omega
theorem quiet_left {P : Program} {f : FuncId} {args : Array Value} {w : World} {n : Nat} {v : Value}
    (h : Calls P f args (w.drewN n) fun e w' => e = .returned v ∧ w.drewN n = w') : Calls P f args (w.drewN n) fun e w'' => e = .returned v ∧ ∃ m, w'' = w.drewN m :=
  h.mono fun _ _ ⟨he, hm⟩ => ⟨he, n, hm.symm⟩
theorem ret_int {k : IntKind} {a b : Int} (h : a = b) : Ending.returned (.int k a) = .returned (.int k b) := by rw [h]
theorem ret_bool {a b : Bool} (h : a = b) : Ending.returned (.bool a) = .returned (.bool b) := by rw [h]
theorem ret_str {a b : ByteArray} (h : a = b) : Ending.returned (.string a) = .returned (.string b) := by rw [h]
theorem int_eq {k : IntKind} {a b : Int} (h : a = b) : Value.int k a = .int k b := by rw [h]
end Go.Proofs.YtedcgbmdfmgcgaaGreatDoor

/- The element types' rows of this program's table, and 'append' of one element at each type. -/
set_option linter.unusedVariables false
namespace Go.Proofs.YtedcgbmdfmgcgaaGreatDoor
open Go.RowKit
theorem int_info : (Tryz.prog.info? 3).map (fun i => (i.zero, i.size, i.bytes)) = some (some (.int .i64 0), 1, 8) := by kernel_rfl
theorem str_info : (Tryz.prog.info? 9).map (fun i => (i.zero, i.size, i.bytes)) = some (some (.string ⟨#[]⟩), 1, 16) := by kernel_rfl
theorem pc_info : (Tryz.prog.info? 83).map (fun i => (i.zero, i.size, i.bytes)) = some (some (.agg #[.int .i64 0, .string ⟨#[]⟩]), 2, 24) := by kernel_rfl
section
variable {ops : Array Oper} {rest : List Oper} {o : Oper} {a : Act} {Q : Exit → Act → World → Prop} {w0 wr : World} {base : Nat} {v : Value}
theorem app_int {l : List Int} {y : Int} {s x : Operand} (hgd : o.guard = none) (ho : o.op = .call { callee := .builtin .append, args := #[s, x], argTypes := #[105, 105] })
    (hs : a.eval s = v) (hx : a.eval x = .slice (some ⟨wr.heap.size, 0, none⟩) 1 1)
    (hown : Own wr w0.heap.size 3 1 encI v l) (hb : Below w0.heap.size w0 wr) (hn : l.length ≤ 16777216)
    (h : ∀ v' w', Own w' w0.heap.size 3 1 encI v' (l ++ [y]) → Below w0.heap.size w0 w' → wpList Tryz.prog ops Q rest (a.put o.dst v') w') :
    wpList Tryz.prog ops Q (o :: rest) a (wr.alloc (.cells #[.int .i64 y] 3)) := by
  obtain ⟨i0, hi0, hz0, hz1, hz2⟩ := info_parts int_info
  exact wpList_app1 Tryz.underlying105 hi0 hz0 hz1 hz2 rfl (by decide) (by decide) hgd s x ho hs hx hown hb (Nat.le_refl _) hb.size hn y _ rfl rfl (by intro u hu; simp [encI] at hu; subst hu; rfl) h
theorem app_str {l : List ByteArray} {y : ByteArray} {s x : Operand} (hgd : o.guard = none) (ho : o.op = .call { callee := .builtin .append, args := #[s, x], argTypes := #[33, 33] })
    (hs : a.eval s = v) (hx : a.eval x = .slice (some ⟨wr.heap.size, 0, none⟩) 1 1)
    (hown : Own wr w0.heap.size 9 1 encS v l) (hb : Below w0.heap.size w0 wr) (hn : l.length ≤ 16777216)
    (h : ∀ v' w', Own w' w0.heap.size 9 1 encS v' (l ++ [y]) → Below w0.heap.size w0 w' → wpList Tryz.prog ops Q rest (a.put o.dst v') w') :
    wpList Tryz.prog ops Q (o :: rest) a (wr.alloc (.cells #[.string y] 9)) := by
  obtain ⟨i0, hi0, hz0, hz1, hz2⟩ := info_parts str_info
  exact wpList_app1 Tryz.underlying33 hi0 hz0 hz1 hz2 rfl (by decide) (by decide) hgd s x ho hs hx hown hb (Nat.le_refl _) hb.size hn y _ rfl rfl (by intro u hu; simp [encS] at hu; subst hu; rfl) h
theorem app_pc {l : List Pc} {y : Pc} {s x : Operand} (hgd : o.guard = none) (ho : o.op = .call { callee := .builtin .append, args := #[s, x], argTypes := #[23, 23] })
    (hs : a.eval s = v) (hx : a.eval x = .slice (some ⟨wr.heap.size, 0, none⟩) 1 1)
    (hown : Own wr w0.heap.size 83 2 encP v l) (hb : Below w0.heap.size w0 wr) (hn : l.length ≤ 16777216)
    (h : ∀ v' w', Own w' w0.heap.size 83 2 encP v' (l ++ [y]) → Below w0.heap.size w0 w' → wpList Tryz.prog ops Q rest (a.put o.dst v') w') :
    wpList Tryz.prog ops Q (o :: rest) a (wr.alloc (.cells #[.int .i64 y.1, .string y.2] 83)) := by
  obtain ⟨i0, hi0, hz0, hz1, hz2⟩ := info_parts pc_info
  exact wpList_app1 Tryz.underlying23 hi0 hz0 hz1 hz2 rfl (by decide) (by decide) hgd s x ho hs hx hown hb (Nat.le_refl _) hb.size hn y _ rfl rfl (by intro u hu; simp [encP] at hu; rcases hu with rfl | rfl <;> rfl) h
end
end Go.Proofs.YtedcgbmdfmgcgaaGreatDoor

/- Stores of pieces, in plain Lean. No program in sight. -/
set_option linter.unusedVariables false
namespace Go.Proofs.YtedcgbmdfmgcgaaGreatDoor
--BEGIN
abbrev tx (s : ByteArray) : Bs := s.data.toList
def pieceOk (p : Pc) : Bool := textV (tx p.2) && (prOf (tx p.2) == p.1)
def pc0 : Pc := (0, ⟨#[]⟩)
def storeAt (l : List Pc) (k : Nat) : Bool := pieceOk (l.getD k pc0) && (k == 0 || decide ((l.getD (k - 1) pc0).1 < (l.getD k pc0).1))
def storeV (l : List Pc) : Bool := decide (l.length ≤ 40) && (List.range l.length).all (storeAt l)
theorem getD_pc {l : List Pc} {k : Nat} (h : k < l.length) : l.getD k pc0 = l[k] := by rw [List.getD_eq_getElem?_getD, List.getElem?_eq_getElem h]; rfl
theorem pieceOk_iff {p : Pc} : pieceOk p = true ↔ textV (tx p.2) = true ∧ prOf (tx p.2) = p.1 := by unfold pieceOk; rw [Bool.and_eq_true, beq_iff_eq]
theorem pieceOk_pv {p : Pc} (h : pieceOk p = true) : pv p.1 = true := by
  obtain ⟨h1, h2⟩ := pieceOk_iff.1 h; rw [← h2]; exact prOf_pv h1
def Sorted (l : List Pc) : Prop := l.Pairwise fun a b => a.1 < b.1
theorem storeV_iff {l : List Pc} : storeV l = true ↔ l.length ≤ 40 ∧ (∀ p ∈ l, pieceOk p = true) ∧ Sorted l := by
  unfold storeV
  rw [Bool.and_eq_true, decide_eq_true_eq, List.all_eq_true]
  constructor
  · rintro ⟨h1, h2⟩
    have hk : ∀ k (h : k < l.length), pieceOk l[k] = true ∧ (k = 0 ∨ (l.getD (k - 1) pc0).1 < l[k].1) := by
      intro k h
      have := h2 k (List.mem_range.2 h)
      unfold storeAt at this
      rw [Bool.and_eq_true, Bool.or_eq_true, beq_iff_eq, decide_eq_true_eq, getD_pc h] at this
      exact this
    refine ⟨h1, fun p hp => ?_, ?_⟩
    · obtain ⟨k, h, rfl⟩ := List.getElem_of_mem hp; exact (hk k h).1
    · refine List.pairwise_iff_getElem.2 ?_
      have aux : ∀ j (hj : j < l.length) i (hi : i < l.length), i < j → l[i].1 < l[j].1 := by
        intro j
        induction j with
        | zero => intro _ i _ h; omega
        | succ j ih =>
          intro hj i hi hij
          have h3 := (hk (j + 1) hj).2
          have h4 : l.getD (j + 1 - 1) pc0 = l[j] := getD_pc (k := j) (by omega)
          rw [h4] at h3
          rcases h3 with h3 | h3
          · omega
          · by_cases e : i = j
            · subst e; exact h3
            · have := ih (by omega) i hi (by omega); omega
      exact fun i j hi hj hij => aux j hj i hi hij
  · rintro ⟨h1, h2, h3⟩
    refine ⟨h1, fun k hk => ?_⟩
    rw [List.mem_range] at hk
    unfold storeAt
    rw [Bool.and_eq_true, Bool.or_eq_true, beq_iff_eq, decide_eq_true_eq, getD_pc hk]
    refine ⟨h2 _ (by simp), ?_⟩
    by_cases e : k = 0
    · exact .inl e
    · right
      rw [getD_pc (k := k - 1) (by omega)]
      exact List.pairwise_iff_getElem.1 h3 (k - 1) k (by omega) hk (by omega)
theorem storeV_len {l : List Pc} (h : storeV l = true) : l.length ≤ 40 := (storeV_iff.1 h).1
theorem storeV_sorted {l : List Pc} (h : storeV l = true) : Sorted l := (storeV_iff.1 h).2.2
theorem storeV_piece {l : List Pc} (h : storeV l = true) {p : Pc} (hp : p ∈ l) : pieceOk p = true := (storeV_iff.1 h).2.1 p hp
theorem storeV_bad {l : List Pc} {k : Nat} (h : k < l.length) (hb : storeAt l k = false) : storeV l = false := by
  cases hv : storeV l
  · rfl
  · unfold storeV at hv
    rw [Bool.and_eq_true, List.all_eq_true] at hv
    rw [hv.2 k (List.mem_range.2 h)] at hb; cases hb
theorem storeV_long {l : List Pc} (h : ¬ l.length ≤ 40) : storeV l = false := by
  unfold storeV; rw [decide_eq_false h]; rfl
def StoreUpto (l : List Pc) (k : Nat) : Prop := ∀ j, j < k → storeAt l j = true
theorem StoreUpto.zero (l : List Pc) : StoreUpto l 0 := fun j h => by omega
theorem StoreUpto.succ {l : List Pc} {k : Nat} (h : StoreUpto l k) (hk : storeAt l k = true) : StoreUpto l (k + 1) := fun j hj => by
  by_cases e : j = k
  · subst e; exact hk
  · exact h j (by omega)
theorem StoreUpto.done {l : List Pc} {k : Nat} (h : StoreUpto l k) (hk : ¬ k < l.length) (hl : l.length ≤ 40) : storeV l = true := by
  unfold storeV; rw [decide_eq_true hl, Bool.true_and, List.all_eq_true]
  intro j hj; rw [List.mem_range] at hj; exact h j (by omega)
theorem storeV_nil : storeV [] = true := rfl
theorem storeV_sub {l m : List Pc} (h : storeV l = true) (hs : m.Sublist l) : storeV m = true := by
  obtain ⟨h1, h2, h3⟩ := storeV_iff.1 h
  exact storeV_iff.2 ⟨Nat.le_trans hs.length_le h1, fun p hp => h2 p (hs.subset hp), h3.sublist hs⟩

/-! ### where a print stands -/
def below (l : List Pc) (p : Int) : Nat := (l.takeWhile fun x => decide (x.1 < p)).length
theorem below_le (l : List Pc) (p : Int) : below l p ≤ l.length := (List.takeWhile_sublist _).length_le
theorem below_of : ∀ (l : List Pc) (p : Int) (i : Nat), i ≤ l.length → (∀ t (h : t < l.length), t < i → l[t].1 < p) → (∀ h : i < l.length, ¬ l[i].1 < p) → below l p = i
  | [], p, i, hi, _, _ => by simp at hi; subst hi; rfl
  | x :: r, p, 0, _, _, h2 => by
    have := h2 (by simp)
    simp at this
    unfold below; rw [List.takeWhile_cons]
    rw [if_neg (by simpa using this)]; rfl
  | x :: r, p, i + 1, hi, h1, h2 => by
    have h0 := h1 0 (by simp) (by omega)
    simp at h0
    have ih := below_of r p i (by simpa using hi) (fun t h ht => h1 (t + 1) (Nat.succ_lt_succ h) (Nat.succ_lt_succ ht)) (fun h => h2 (Nat.succ_lt_succ h))
    unfold below at ih ⊢
    rw [List.takeWhile_cons, if_pos (by simpa using h0), List.length_cons, ih]
theorem below_lt : ∀ (l : List Pc) (p : Int) (t : Nat) (h : t < l.length), t < below l p → l[t].1 < p
  | x :: r, p, t, h, ht => by
    unfold below at ht
    rw [List.takeWhile_cons] at ht
    split at ht
    · rename_i hx
      cases t with
      | zero => simpa using hx
      | succ t => simpa using below_lt r p t (by simpa using h) (by unfold below; simpa using ht)
    · simp at ht
theorem below_ge : ∀ (l : List Pc) (p : Int) (h : below l p < l.length), ¬ l[below l p].1 < p
  | [], p, h => by simp at h
  | x :: r, p, h => by
    by_cases hx : x.1 < p
    · have e : below (x :: r) p = below r p + 1 := by unfold below; rw [List.takeWhile_cons, if_pos (by simpa using hx)]; rfl
      have h' : below r p < r.length := by rw [e] at h; simpa using h
      have := below_ge r p h'
      simp only [e, List.getElem_cons_succ]; exact this
    · have e : below (x :: r) p = 0 := by unfold below; rw [List.takeWhile_cons, if_neg (by simpa using hx)]; rfl
      simp only [e, List.getElem_cons_zero]; exact hx
def hereP (l : List Pc) (p : Int) : Bool := decide (below l p < l.length) && decide ((l.getD (below l p) pc0).1 = p)
def getT (l : List Pc) (p : Int) : Option ByteArray := (l.find? fun x => x.1 == p).map (·.2)
theorem getT_some {l : List Pc} {p : Int} {t : ByteArray} (h : getT l p = some t) : (p, t) ∈ l := by
  unfold getT at h
  obtain ⟨x, hx, rfl⟩ := Option.map_eq_some_iff.1 h
  have h1 := List.mem_of_find?_eq_some hx
  have h2 := List.find?_some hx
  simp at h2
  rw [← h2]; exact h1
theorem getT_none {l : List Pc} {p : Int} (h : getT l p = none) : ∀ x ∈ l, x.1 ≠ p := by
  unfold getT at h
  rw [Option.map_eq_none_iff, List.find?_eq_none] at h
  intro x hx e; exact h x hx (by simp [e])
theorem getT_none_iff {l : List Pc} {p : Int} : getT l p = none ↔ ∀ x ∈ l, x.1 ≠ p := by
  refine ⟨getT_none, fun h => ?_⟩
  unfold getT
  rw [Option.map_eq_none_iff, List.find?_eq_none]
  intro x hx; simpa using h x hx
theorem sorted_inj {l : List Pc} (h : Sorted l) {a b : Pc} (ha : a ∈ l) (hb : b ∈ l) (e : a.1 = b.1) : a = b := by
  obtain ⟨i, hi, rfl⟩ := List.getElem_of_mem ha
  obtain ⟨j, hj, rfl⟩ := List.getElem_of_mem hb
  have hp := List.pairwise_iff_getElem.1 h
  by_cases h1 : i < j
  · have := hp i j hi hj h1; omega
  · by_cases h2 : j < i
    · have := hp j i hj hi h2; omega
    · have : i = j := by omega
      subst this; rfl
theorem getT_mem {l : List Pc} (hs : Sorted l) {p : Int} {t : ByteArray} (h : (p, t) ∈ l) : getT l p = some t := by
  cases hg : getT l p with
  | none => exact absurd rfl (getT_none hg _ h)
  | some u =>
    have := sorted_inj hs (getT_some hg) h rfl
    injection this with _ e; rw [e]
theorem below_sorted {l : List Pc} (hs : Sorted l) {p : Int} {t : Nat} (h : t < l.length) (ht : below l p ≤ t) : ¬ l[t].1 < p := by
  by_cases e : below l p = t
  · subst e; exact below_ge l p h
  · have h1 := below_ge l p (by omega)
    have h2 := List.pairwise_iff_getElem.1 hs (below l p) t (by omega) h (by omega)
    omega
theorem getT_here {l : List Pc} (hs : Sorted l) {p : Int} : getT l p = if hereP l p then some (l.getD (below l p) pc0).2 else none := by
  unfold hereP
  by_cases hlt : below l p < l.length
  · rw [decide_eq_true hlt, Bool.true_and, getD_pc hlt]
    by_cases e : l[below l p].1 = p
    · rw [decide_eq_true e, if_pos rfl]
      exact getT_mem hs (by
        have e2 : (p, l[below l p].2) = l[below l p] := Prod.ext e.symm rfl
        rw [e2]; exact List.getElem_mem hlt)
    · rw [decide_eq_false e, if_neg (by simp)]
      refine getT_none_iff.2 fun x hx hxe => ?_
      obtain ⟨t, ht, rfl⟩ := List.getElem_of_mem hx
      by_cases h1 : t < below l p
      · have := below_lt l p t ht h1; omega
      · have h2 := below_ge l p hlt
        by_cases e2 : below l p = t
        · subst e2; exact e hxe
        · have h3 := List.pairwise_iff_getElem.1 hs (below l p) t hlt ht (by omega)
          omega
  · rw [decide_eq_false hlt, Bool.false_and, if_neg (by simp)]
    refine getT_none_iff.2 fun x hx hxe => ?_
    obtain ⟨t, ht, rfl⟩ := List.getElem_of_mem hx
    have := below_lt l p t ht (by omega)
    omega

/-! ### one text more -/
def putT (l : List Pc) (t : ByteArray) : List Pc × Int × Bool :=
  if storeV l then
    if textV (tx t) then
      match getT l (prOf (tx t)) with
      | some u => if u = t then (l, prOf (tx t), true) else (l, -1, false)
      | none => if l.length = 40 then (l, -1, false) else (l.take (below l (prOf (tx t))) ++ (prOf (tx t), t) :: l.drop (below l (prOf (tx t))), prOf (tx t), true)
    else (l, -1, false)
  else ([], -1, false)
theorem putT_bad {l : List Pc} {t : ByteArray} (h : storeV l = false) : putT l t = ([], -1, false) := by unfold putT; rw [h]; rfl
theorem putT_text {l : List Pc} {t : ByteArray} (h : storeV l = true) (ht : textV (tx t) = false) : putT l t = (l, -1, false) := by unfold putT; rw [h, ht]; rfl
theorem putT_there {l : List Pc} {t : ByteArray} (h : storeV l = true) (ht : textV (tx t) = true) (hg : getT l (prOf (tx t)) = some t) : putT l t = (l, prOf (tx t), true) := by
  unfold putT; rw [h, ht, hg]; simp
theorem putT_clash {l : List Pc} {t u : ByteArray} (h : storeV l = true) (ht : textV (tx t) = true) (hg : getT l (prOf (tx t)) = some u) (hne : u ≠ t) : putT l t = (l, -1, false) := by
  unfold putT; rw [h, ht, hg]; simp [hne]
theorem putT_full {l : List Pc} {t : ByteArray} (h : storeV l = true) (ht : textV (tx t) = true) (hg : getT l (prOf (tx t)) = none) (hl : l.length = 40) : putT l t = (l, -1, false) := by
  unfold putT; rw [h, ht, hg]; simp [hl]
theorem putT_new {l : List Pc} {t : ByteArray} (h : storeV l = true) (ht : textV (tx t) = true) (hg : getT l (prOf (tx t)) = none) (hl : l.length ≠ 40) :
    putT l t = (l.take (below l (prOf (tx t))) ++ (prOf (tx t), t) :: l.drop (below l (prOf (tx t))), prOf (tx t), true) := by
  unfold putT; rw [h, ht, hg]; simp [hl]
theorem insert_sorted {l : List Pc} (hs : Sorted l) {x : Pc} (hx : ∀ y ∈ l, y.1 ≠ x.1) : Sorted (l.take (below l x.1) ++ x :: l.drop (below l x.1)) := by
  unfold Sorted
  rw [List.pairwise_append, List.pairwise_cons]
  have hlo : ∀ a ∈ l.take (below l x.1), a.1 < x.1 := by
    intro a ha
    obtain ⟨t, ht, rfl⟩ := List.getElem_of_mem ha
    rw [List.length_take] at ht
    rw [List.getElem_take]
    exact below_lt l x.1 t (by omega) (by omega)
  have hhi : ∀ b ∈ l.drop (below l x.1), x.1 < b.1 := by
    intro b hb
    have hm := List.mem_of_mem_drop hb
    obtain ⟨t, ht, rfl⟩ := List.getElem_of_mem hb
    rw [List.length_drop] at ht
    rw [List.getElem_drop] at hm ⊢
    have h1 := below_sorted hs (p := x.1) (t := below l x.1 + t) (by omega) (by omega)
    have h2 := hx _ hm
    omega
  refine ⟨hs.sublist (List.take_sublist _ _), ⟨hhi, hs.sublist (List.drop_sublist _ _)⟩, fun a ha b hb => ?_⟩
  have h1 := hlo a ha
  rcases List.mem_cons.1 hb with rfl | hb
  · exact h1
  · have := hhi b hb; omega
/-- What a text that was put brings. -/
structure PutOk (l : List Pc) (t : ByteArray) (l' : List Pc) : Prop where
  valid : storeV l' = true
  mem : ∀ p, p ∈ l' ↔ p ∈ l ∨ p = (prOf (tx t), t)
  text : textV (tx t) = true
  len : l'.length ≤ l.length + 1
theorem putT_ok {l : List Pc} {t : ByteArray} (hok : (putT l t).2.2 = true) : storeV l = true ∧ PutOk l t (putT l t).1 ∧ (putT l t).2.1 = prOf (tx t) := by
  cases h : storeV l
  · rw [putT_bad h] at hok; cases hok
  cases ht : textV (tx t)
  · rw [putT_text h ht] at hok; cases hok
  cases hg : getT l (prOf (tx t)) with
  | some u =>
    by_cases e : u = t
    · subst e
      rw [putT_there h ht hg]
      refine ⟨rfl, ⟨h, fun p => ⟨.inl, fun hp => hp.elim id fun e => ?_⟩, ht, by simp⟩, rfl⟩
      rw [e]; exact getT_some hg
    · rw [putT_clash h ht hg e] at hok; cases hok
  | none =>
    by_cases hl : l.length = 40
    · rw [putT_full h ht hg hl] at hok; cases hok
    · rw [putT_new h ht hg hl]
      have hmem : ∀ p, p ∈ (l.take (below l (prOf (tx t))) ++ (prOf (tx t), t) :: l.drop (below l (prOf (tx t)))) ↔ p ∈ l ∨ p = (prOf (tx t), t) := by
        intro p
        rw [List.mem_append, List.mem_cons]
        constructor
        · rintro (hp | rfl | hp)
          · exact .inl (List.mem_of_mem_take hp)
          · exact .inr rfl
          · exact .inl (List.mem_of_mem_drop hp)
        · rintro (hp | rfl)
          · rw [← List.take_append_drop (below l (prOf (tx t))) l, List.mem_append] at hp
            rcases hp with hp | hp
            · exact .inl hp
            · exact .inr (.inr hp)
          · exact .inr (.inl rfl)
      have hlen : (l.take (below l (prOf (tx t))) ++ (prOf (tx t), t) :: l.drop (below l (prOf (tx t)))).length = l.length + 1 := by
        have := below_le l (prOf (tx t)); simp; omega
      refine ⟨rfl, ⟨storeV_iff.2 ⟨by have := storeV_len h; rw [hlen]; omega, fun p hp => ?_, insert_sorted (storeV_sorted h) (x := (prOf (tx t), t)) (getT_none hg)⟩, hmem, ht, by rw [hlen]; omega⟩, rfl⟩
      rcases (hmem p).1 hp with hp | rfl
      · exact storeV_piece h hp
      · exact pieceOk_iff.2 ⟨ht, rfl⟩
theorem putT_no {l : List Pc} {t : ByteArray} (h : storeV l = true) (hok : (putT l t).2.2 = false) : putT l t = (l, -1, false) := by
  cases ht : textV (tx t)
  · exact putT_text h ht
  cases hg : getT l (prOf (tx t)) with
  | some u =>
    by_cases e : u = t
    · subst e
      rw [putT_there h ht hg] at hok; cases hok
    · exact putT_clash h ht hg e
  | none =>
    by_cases hl : l.length = 40
    · exact putT_full h ht hg hl
    · rw [putT_new h ht hg hl] at hok; cases hok
theorem putT_len (l : List Pc) (t : ByteArray) : (putT l t).1.length ≤ 40 := by
  cases h : storeV l
  · rw [putT_bad h]; simp
  · cases hok : (putT l t).2.2
    · rw [putT_no h hok]; exact storeV_len h
    · exact storeV_len (putT_ok hok).2.1.valid
theorem putT_bd (l : List Pc) (t : ByteArray) : -1 ≤ (putT l t).2.1 ∧ (putT l t).2.1 ≤ 16777212 := by
  have hb := prOf_bd (tx t)
  cases h : storeV l
  · rw [putT_bad h]; simp
  · cases hok : (putT l t).2.2
    · rw [putT_no h hok]; simp
    · rw [(putT_ok hok).2.2]; exact hb
/-- When a text can be put. -/
theorem putT_can {l : List Pc} {t : ByteArray} : (putT l t).2.2 = true ↔ storeV l = true ∧ textV (tx t) = true ∧ (∀ u, (prOf (tx t), u) ∈ l → u = t) ∧ ((prOf (tx t), t) ∈ l ∨ l.length < 40) := by
  constructor
  · intro hok
    cases h : storeV l
    · rw [putT_bad h] at hok; cases hok
    cases ht : textV (tx t)
    · rw [putT_text h ht] at hok; cases hok
    refine ⟨rfl, rfl, ?_⟩
    cases hg : getT l (prOf (tx t)) with
    | some u =>
      by_cases e : u = t
      · subst e
        exact ⟨fun v hv => by have := getT_mem (storeV_sorted h) hv; rw [hg] at this; injection this with e; exact e.symm, .inl (getT_some hg)⟩
      · rw [putT_clash h ht hg e] at hok; cases hok
    | none =>
      by_cases hl : l.length = 40
      · rw [putT_full h ht hg hl] at hok; cases hok
      · exact ⟨fun v hv => absurd rfl (getT_none hg _ hv), .inr (by have := storeV_len h; omega)⟩
  · rintro ⟨h, ht, h1, h2⟩
    cases hg : getT l (prOf (tx t)) with
    | some u =>
      have := h1 u (getT_some hg)
      subst this
      rw [putT_there h ht hg]
    | none =>
      rw [putT_new h ht hg]
      rcases h2 with h2 | h2
      · exact absurd rfl (getT_none hg _ h2)
      · omega
/-- Two stores with the same pieces are the same. -/
theorem sorted_ext : ∀ {a b : List Pc}, Sorted a → Sorted b → (∀ p, p ∈ a ↔ p ∈ b) → a = b := by
  intro a b ha hb h
  have na : a.Nodup := ha.imp (fun h e => by subst e; omega)
  have nb : b.Nodup := hb.imp (fun h e => by subst e; omega)
  have hp : a.Perm b := (List.perm_ext_iff_of_nodup na nb).2 h
  exact hp.eq_of_pairwise (le := fun x y : Pc => x.1 < y.1) (fun x y _ _ h1 h2 => by omega) ha hb
theorem store_ext {a b : List Pc} (ha : storeV a = true) (hb : storeV b = true) (h : ∀ p, p ∈ a ↔ p ∈ b) : a = b := sorted_ext (storeV_sorted ha) (storeV_sorted hb) h
theorem store_keep {l : List Pc} {t : ByteArray} {l' : List Pc} (h : PutOk l t l') {p : Int} {u : ByteArray} (hu : (p, u) ∈ l) : getT l' p = some u := getT_mem (storeV_sorted h.valid) ((h.mem _).2 (.inl hu))
theorem store_put {l : List Pc} {t : ByteArray} {l' : List Pc} (h : PutOk l t l') : getT l' (prOf (tx t)) = some t := getT_mem (storeV_sorted h.valid) ((h.mem _).2 (.inr rfl))

/-! ### the right pieces of a list -/
def rightF : List Pc → List Pc → Option (List Pc)
  | s, [] => some s
  | s, p :: r => if pieceOk p then (if (putT s p.2).2.2 then rightF (putT s p.2).1 r else none) else rightF s r
def rightP (l : List Pc) : List Pc × Bool := match rightF [] l with | some s => (s, true) | none => ([], false)
theorem rightF_ok : ∀ (l s s' : List Pc), storeV s = true → rightF s l = some s' → storeV s' = true ∧ (∀ p, p ∈ s' ↔ p ∈ s ∨ (p ∈ l ∧ pieceOk p = true)) ∧ s'.length ≤ s.length + l.length
  | [], s, s', hs, h => by
    rw [rightF] at h; injection h with h; subst h
    exact ⟨hs, fun p => by simp, by simp⟩
  | q :: r, s, s', hs, h => by
    rw [rightF] at h
    cases hq : pieceOk q
    · rw [hq] at h
      have ih := rightF_ok r s s' hs h
      refine ⟨ih.1, fun p => ?_, by have := ih.2.2; simp; omega⟩
      rw [ih.2.1 p, List.mem_cons]
      constructor
      · rintro (h1 | h1)
        · exact .inl h1
        · exact .inr ⟨.inr h1.1, h1.2⟩
      · rintro (h1 | ⟨rfl | h1, h2⟩)
        · exact .inl h1
        · rw [hq] at h2; cases h2
        · exact .inr ⟨h1, h2⟩
    · rw [hq, if_pos rfl] at h
      split at h
      · rename_i hok
        obtain ⟨_, hp, _⟩ := putT_ok hok
        have ih := rightF_ok r _ s' hp.valid h
        have he : (prOf (tx q.2), q.2) = q := by rw [(pieceOk_iff.1 hq).2]
        refine ⟨ih.1, fun p => ?_, by have := ih.2.2; have := hp.len; simp; omega⟩
        rw [ih.2.1 p, hp.mem p, he, List.mem_cons]
        constructor
        · rintro ((h1 | rfl) | h1)
          · exact .inl h1
          · exact .inr ⟨.inl rfl, hq⟩
          · exact .inr ⟨.inr h1.1, h1.2⟩
        · rintro (h1 | ⟨rfl | h1, h2⟩)
          · exact .inl (.inl h1)
          · exact .inl (.inr rfl)
          · exact .inr ⟨h1, h2⟩
      · cases h
--END
end Go.Proofs.YtedcgbmdfmgcgaaGreatDoor

/- Hexadecimal texts, in plain Lean. No program in sight. -/
set_option linter.unusedVariables false
namespace Go.Proofs.YtedcgbmdfmgcgaaGreatDoor
--BEGIN
def hexD (d : Nat) : UInt8 := if d < 10 then UInt8.ofNat (48 + d) else UInt8.ofNat (87 + d)
def hexF : Nat → Nat → Bs
  | 0, _ => []
  | f + 1, n => if n < 16 then [hexD n] else hexF f (n / 16) ++ [hexD (n % 16)]
def hexT (n : Int) : Bs := if pv n then hexF 7 n.toNat else []
def hexV (c : UInt8) : Option Nat := if digitC c then some (c.toNat - 48) else if inI c.toNat 97 102 then some (c.toNat - 87) else none
def hexN : Nat → Bs → Option Nat
  | n, [] => some n
  | n, c :: r => match hexV c with
    | some d => hexN (16 * n + d) r
    | none => none
def readH (s : Bs) : Int :=
  if 1 ≤ s.length ∧ s.length ≤ 6 then
    match hexN 0 s with
    | some n => if hexT n = s then (n : Int) else -1
    | none => -1
  else -1
theorem hexV_hexD : ∀ d, d < 16 → hexV (hexD d) = some d := by decide
theorem hexV_lt {c : UInt8} {d : Nat} (h : hexV c = some d) : d < 16 := by
  unfold hexV at h
  split at h
  · rename_i h1; unfold digitC inI at h1; simp at h1 h; omega
  · split at h
    · rename_i h1; unfold inI at h1; simp at h1 h; omega
    · cases h
theorem hexN_append : ∀ (a : Bs) (n : Nat) (b : Bs), hexN n (a ++ b) = (hexN n a).bind fun m => hexN m b
  | [], n, b => rfl
  | c :: r, n, b => by
    rw [List.cons_append, hexN, hexN]
    cases hexV c with
    | none => rfl
    | some d => exact hexN_append r _ b
theorem hexN_hexF : ∀ (f n : Nat), n < 16 ^ f → hexN 0 (hexF f n) = some n
  | 0, n, h => by have : n = 0 := by simpa using h
                  subst this; rfl
  | f + 1, n, h => by
    rw [hexF]
    split
    · rename_i h1
      rw [hexN, hexV_hexD n h1]; simp [hexN]
    · rw [hexN_append, hexN_hexF f (n / 16) (by rw [Nat.pow_succ] at h; omega)]
      show hexN (n / 16) [hexD (n % 16)] = some n
      rw [hexN, hexV_hexD (n % 16) (by omega)]
      simp only [hexN]; congr 1; omega
theorem hexF_len : ∀ (f n k : Nat), n < 16 ^ (k + 1) → (hexF f n).length ≤ k + 1
  | 0, n, k, _ => by simp [hexF]
  | f + 1, n, k, h => by
    rw [hexF]
    split
    · simp
    · rename_i h1
      cases k with
      | zero => simp at h; omega
      | succ k =>
        have := hexF_len f (n / 16) k (by rw [Nat.pow_succ] at h; omega)
        simp; omega
theorem hexF_ne (f n : Nat) : 1 ≤ (hexF (f + 1) n).length := by
  rw [hexF]; split <;> simp
theorem hexT_ok {n : Nat} (h : n ≤ 16777212) : hexT n = hexF 7 n := by
  unfold hexT; rw [if_pos (pv_iff.2 (by omega))]; rfl
theorem hexT_bad {n : Int} (h : pv n = false) : hexT n = [] := by unfold hexT; rw [h]; rfl
theorem hexT_len (n : Int) : (hexT n).length ≤ 6 := by
  unfold hexT; split
  · rename_i h
    have h2 := pv_iff.1 h
    exact hexF_len 7 n.toNat 5 (by have : n.toNat ≤ 16777212 := by omega
                                   have e : (16 : Nat) ^ (5 + 1) = 16777216 := by decide
                                   omega)
  · simp
theorem hexT_pos {n : Int} (h : pv n = true) : 1 ≤ (hexT n).length := by
  unfold hexT; rw [if_pos h]; exact hexF_ne 6 _
theorem hexN_hexT {n : Int} (h : pv n = true) : hexN 0 (hexT n) = some n.toNat := by
  unfold hexT; rw [if_pos h]
  have h2 := pv_iff.1 h
  exact hexN_hexF 7 n.toNat (by have : n.toNat ≤ 16777212 := by omega
                                have e : (16 : Nat) ^ 7 = 268435456 := by decide
                                omega)
theorem readH_hexT {n : Int} (h : pv n = true) : readH (hexT n) = n := by
  have h2 := pv_iff.1 h
  have e : ((n.toNat : Nat) : Int) = n := by omega
  unfold readH
  rw [if_pos ⟨hexT_pos h, hexT_len n⟩, hexN_hexT h]
  show (if hexT (n.toNat : Int) = hexT n then ((n.toNat : Nat) : Int) else -1) = n
  rw [e, if_pos rfl]
theorem readH_cases (s : Bs) : readH s = -1 ∨ ∃ n : Nat, readH s = n ∧ pv (n : Int) = true ∧ hexT n = s := by
  unfold readH
  split
  · rename_i hl
    cases h : hexN 0 s with
    | none => left; rfl
    | some n =>
      by_cases e : hexT n = s
      · right
        refine ⟨n, by simp [e], ?_, e⟩
        cases hp : pv (n : Int)
        · rw [hexT_bad hp] at e; subst e; simp at hl
        · rfl
      · left; simp [e]
  · left; rfl
theorem readH_bd (s : Bs) : -1 ≤ readH s ∧ readH s ≤ 16777212 := by
  rcases readH_cases s with h | ⟨n, h, hp, _⟩
  · omega
  · have := pv_iff.1 hp; omega
theorem readH_some {s : Bs} (h : 0 ≤ readH s) : pv (readH s) = true ∧ hexT (readH s) = s := by
  rcases readH_cases s with h1 | ⟨n, h1, hp, he⟩
  · omega
  · rw [h1]; exact ⟨hp, he⟩
theorem hexT_inj {a b : Int} (ha : pv a = true) (hb : pv b = true) (h : hexT a = hexT b) : a = b := by
  rw [← readH_hexT ha, ← readH_hexT hb, h]
/-- What the reference has come to: N is left, 'acc' written. -/
def HexAt (n0 N : Nat) (acc : Bs) : Prop := acc.length ≤ 7 ∧ ∃ f, N < 16 ^ (f + 1) ∧ f + acc.length = 7 ∧ hexF 7 n0 = (if N < 16 then [] else hexF f (N / 16)) ++ acc
theorem HexAt.start {n0 : Nat} (h : n0 ≤ 16777212) : HexAt n0 n0 [hexD (n0 % 16)] := by
  refine ⟨by simp, 6, by have e : (16 : Nat) ^ (6 + 1) = 268435456 := by decide
                         omega, by simp, ?_⟩
  rw [hexF]
  split
  · rename_i h1; rw [Nat.mod_eq_of_lt h1]; rfl
  · rfl
theorem HexAt.step {n0 N : Nat} {acc : Bs} (h : HexAt n0 N acc) (hN : 16 ≤ N) : HexAt n0 (N / 16) (hexD (N / 16 % 16) :: acc) := by
  obtain ⟨hl, f, hf, hfl, he⟩ := h
  cases f with
  | zero => simp at hf; omega
  | succ f =>
    refine ⟨by simp; omega, f, by rw [Nat.pow_succ] at hf; omega, by simp; omega, ?_⟩
    rw [he, if_neg (by omega), hexF]
    split
    · rename_i h1; rw [Nat.mod_eq_of_lt h1]; rfl
    · simp
theorem HexAt.done {n0 N : Nat} {acc : Bs} (h : HexAt n0 N acc) (hN : N < 16) : hexF 7 n0 = acc := by
  obtain ⟨hl, f, hf, hfl, he⟩ := h
  rw [he, if_pos hN]; rfl
/-- What a reader has come to. -/
theorem hexN_snoc {s : Bs} {k : Nat} (hk : k < s.length) {n : Nat} (h : hexN 0 (s.take k) = some n) : hexN 0 (s.take (k + 1)) = (hexV s[k]).map fun d => 16 * n + d := by
  rw [List.take_succ_eq_append_getElem hk, hexN_append, h]
  show hexN n [s[k]] = _
  rw [hexN]
  cases hexV s[k] <;> rfl
theorem readH_char {s : Bs} {k : Nat} (hk : k < s.length) {n : Nat} (h : hexN 0 (s.take k) = some n) (hb : hexV s[k] = none) : readH s = -1 := by
  have h1 : hexN 0 s = none := by
    have e := (List.take_append_drop (k + 1) s).symm
    have h2 := hexN_snoc hk h
    rw [hb] at h2
    rw [e, hexN_append, h2]; rfl
  unfold readH
  rw [h1]; split <;> rfl
theorem readH_ok {s : Bs} (h1 : 1 ≤ s.length) {n : Nat} (h : hexN 0 s = some n) (he : hexT n = s) : readH s = n := by
  have h6 := hexT_len (n : Int)
  rw [he] at h6
  unfold readH
  rw [if_pos ⟨h1, h6⟩, h]
  show (if hexT (n : Int) = s then (n : Int) else -1) = n
  rw [if_pos he]
theorem readH_no {s : Bs} {n : Nat} (h : hexN 0 s = some n) (he : hexT n ≠ s) : readH s = -1 := by
  unfold readH
  rw [h]
  split
  · show (if hexT (n : Int) = s then (n : Int) else -1) = -1
    rw [if_neg he]
  · rfl
theorem readH_nil : readH [] = -1 := rfl
theorem readH_long {s : Bs} (h : 6 < s.length) : readH s = -1 := by unfold readH; rw [if_neg (by omega)]
theorem hexT_ne_long {s : Bs} (h : 6 < s.length) (n : Int) : hexT n ≠ s := by
  intro e; have := hexT_len n; rw [e] at this; omega
theorem hexT_chars (n : Int) : ∀ c ∈ hexT n, (hexV c).isSome = true := by
  by_cases hp : pv n = true
  · have h := hexN_hexT hp
    have aux : ∀ (s : Bs) (a m : Nat), hexN a s = some m → ∀ c ∈ s, (hexV c).isSome = true := by
      intro s
      induction s with
      | nil => intro a m _ c hc; simp at hc
      | cons x r ih =>
        intro a m hm c hc
        rw [hexN] at hm
        cases hx : hexV x with
        | none => rw [hx] at hm; cases hm
        | some d =>
          rw [hx] at hm
          rw [List.mem_cons] at hc
          rcases hc with rfl | hc
          · rw [hx]; rfl
          · exact ih _ _ hm c hc
    exact aux _ _ _ h
  · rw [hexT_bad (by simpa using hp)]; intro c hc; simp at hc
--END
end Go.Proofs.YtedcgbmdfmgcgaaGreatDoor

/- Folders, files and paths, in plain Lean. No program in sight. -/
set_option linter.unusedVariables false
namespace Go.Proofs.YtedcgbmdfmgcgaaGreatDoor
--BEGIN
/-! ### texts in order -/
abbrev lessB (a b : Bs) : Bool := Op.bytesLess a b
theorem lessB_iff : ∀ {a b : Bs}, lessB a b = true ↔ a < b
  | [], [] => by simp [lessB, Op.bytesLess]
  | _ :: _, [] => by simp [lessB, Op.bytesLess]
  | [], _ :: _ => by simp [lessB, Op.bytesLess]
  | x :: a, y :: b => by
    have ih := lessB_iff (a := a) (b := b)
    unfold lessB at ih ⊢
    rw [Op.bytesLess, List.cons_lt_cons_iff, Bool.or_eq_true, Bool.and_eq_true, decide_eq_true_eq, beq_iff_eq, ih]
theorem lessB_irrefl (a : Bs) : lessB a a = false := by
  cases h : lessB a a
  · rfl
  · exact absurd (lessB_iff.1 h) (List.lt_irrefl a)
theorem lessB_trans {a b c : Bs} (h1 : lessB a b = true) (h2 : lessB b c = true) : lessB a c = true := lessB_iff.2 (List.lt_trans (lessB_iff.1 h1) (lessB_iff.1 h2))
theorem lessB_asymm {a b : Bs} (h : lessB a b = true) : lessB b a = false := by
  cases h2 : lessB b a
  · rfl
  · have := lessB_trans h h2; rw [lessB_irrefl] at this; cases this
theorem lessB_tri {a b : Bs} (h1 : lessB a b = false) (h2 : lessB b a = false) : a = b := by
  have e1 : ¬ a < b := fun h => by rw [lessB_iff.2 h] at h1; cases h1
  have e2 : ¬ b < a := fun h => by rw [lessB_iff.2 h] at h2; cases h2
  exact List.le_antisymm (List.not_lt.1 e2) (List.not_lt.1 e1)
theorem tx_mk (b : Bs) : tx (mk b) = b := rfl
theorem mk_tx (s : ByteArray) : mk (tx s) = s := by cases s; rfl
theorem tx_inj {a b : ByteArray} (h : tx a = tx b) : a = b := by rw [← mk_tx a, ← mk_tx b, h]

/-! ### entries -/
def en0 : En := (⟨#[]⟩, 0)
def entOk (e : En) : Bool := wordV (tx e.1) && pv e.2
def entAt (l : List En) (k : Nat) : Bool := entOk (l.getD k en0) && (k == 0 || lessB (tx (l.getD (k - 1) en0).1) (tx (l.getD k en0).1))
def entsV (l : List En) : Bool := decide (l.length ≤ 3) && (List.range l.length).all (entAt l)
def SortE (l : List En) : Prop := l.Pairwise fun a b => lessB (tx a.1) (tx b.1) = true
theorem getD_en {l : List En} {k : Nat} (h : k < l.length) : l.getD k en0 = l[k] := by rw [List.getD_eq_getElem?_getD, List.getElem?_eq_getElem h]; rfl
theorem entsV_iff {l : List En} : entsV l = true ↔ l.length ≤ 3 ∧ (∀ p ∈ l, entOk p = true) ∧ SortE l := by
  unfold entsV
  rw [Bool.and_eq_true, decide_eq_true_eq, List.all_eq_true]
  constructor
  · rintro ⟨h1, h2⟩
    have hk : ∀ k (h : k < l.length), entOk l[k] = true ∧ (k = 0 ∨ lessB (tx (l.getD (k - 1) en0).1) (tx l[k].1) = true) := by
      intro k h
      have := h2 k (List.mem_range.2 h)
      unfold entAt at this
      rw [Bool.and_eq_true, Bool.or_eq_true, beq_iff_eq, getD_en h] at this
      exact this
    refine ⟨h1, fun p hp => ?_, ?_⟩
    · obtain ⟨k, h, rfl⟩ := List.getElem_of_mem hp; exact (hk k h).1
    · refine List.pairwise_iff_getElem.2 ?_
      have aux : ∀ j (hj : j < l.length) i (hi : i < l.length), i < j → lessB (tx l[i].1) (tx l[j].1) = true := by
        intro j
        induction j with
        | zero => intro _ i _ h; omega
        | succ j ih =>
          intro hj i hi hij
          have h3 := (hk (j + 1) hj).2
          have h4 : l.getD (j + 1 - 1) en0 = l[j] := getD_en (k := j) (by omega)
          rw [h4] at h3
          rcases h3 with h3 | h3
          · omega
          · by_cases e : i = j
            · subst e; exact h3
            · exact lessB_trans (ih (by omega) i hi (by omega)) h3
      exact fun i j hi hj hij => aux j hj i hi hij
  · rintro ⟨h1, h2, h3⟩
    refine ⟨h1, fun k hk => ?_⟩
    rw [List.mem_range] at hk
    unfold entAt
    rw [Bool.and_eq_true, Bool.or_eq_true, beq_iff_eq, getD_en hk]
    refine ⟨h2 _ (by simp), ?_⟩
    by_cases e : k = 0
    · exact .inl e
    · right
      rw [getD_en (k := k - 1) (by omega)]
      exact List.pairwise_iff_getElem.1 h3 (k - 1) k (by omega) hk (by omega)
theorem entsV_len {l : List En} (h : entsV l = true) : l.length ≤ 3 := (entsV_iff.1 h).1
theorem entsV_sorted {l : List En} (h : entsV l = true) : SortE l := (entsV_iff.1 h).2.2
theorem entsV_ok {l : List En} (h : entsV l = true) {p : En} (hp : p ∈ l) : entOk p = true := (entsV_iff.1 h).2.1 p hp
theorem entOk_iff {p : En} : entOk p = true ↔ wordV (tx p.1) = true ∧ pv p.2 = true := by unfold entOk; rw [Bool.and_eq_true]
theorem entsV_bad {l : List En} {k : Nat} (h : k < l.length) (hb : entAt l k = false) : entsV l = false := by
  cases hv : entsV l
  · rfl
  · unfold entsV at hv
    rw [Bool.and_eq_true, List.all_eq_true] at hv
    rw [hv.2 k (List.mem_range.2 h)] at hb; cases hb
theorem entsV_long {l : List En} (h : ¬ l.length ≤ 3) : entsV l = false := by unfold entsV; rw [decide_eq_false h]; rfl
def EntUpto (l : List En) (k : Nat) : Prop := ∀ j, j < k → entAt l j = true
theorem EntUpto.zero (l : List En) : EntUpto l 0 := fun j h => by omega
theorem EntUpto.succ {l : List En} {k : Nat} (h : EntUpto l k) (hk : entAt l k = true) : EntUpto l (k + 1) := fun j hj => by
  by_cases e : j = k
  · subst e; exact hk
  · exact h j (by omega)
theorem EntUpto.done {l : List En} {k : Nat} (h : EntUpto l k) (hk : ¬ k < l.length) (hl : l.length ≤ 3) : entsV l = true := by
  unfold entsV; rw [decide_eq_true hl, Bool.true_and, List.all_eq_true]
  intro j hj; rw [List.mem_range] at hj; exact h j (by omega)
theorem entsV_nil : entsV [] = true := rfl
theorem entsV_sub {l m : List En} (h : entsV l = true) (hs : m.Sublist l) : entsV m = true := by
  obtain ⟨h1, h2, h3⟩ := entsV_iff.1 h
  exact entsV_iff.2 ⟨Nat.le_trans hs.length_le h1, fun p hp => h2 p (hs.subset hp), h3.sublist hs⟩

/-! ### where a name stands -/
def posE (l : List En) (n : Bs) : Nat := (l.takeWhile fun x => lessB (tx x.1) n).length
theorem posE_le (l : List En) (n : Bs) : posE l n ≤ l.length := (List.takeWhile_sublist _).length_le
theorem posE_of : ∀ (l : List En) (n : Bs) (i : Nat), i ≤ l.length → (∀ t (h : t < l.length), t < i → lessB (tx l[t].1) n = true) → (∀ h : i < l.length, lessB (tx l[i].1) n = false) → posE l n = i
  | [], n, i, hi, _, _ => by simp at hi; subst hi; rfl
  | x :: r, n, 0, _, _, h2 => by
    have := h2 (by simp)
    simp at this
    unfold posE; rw [List.takeWhile_cons]
    rw [if_neg (by simp [this])]; rfl
  | x :: r, n, i + 1, hi, h1, h2 => by
    have h0 := h1 0 (by simp) (by omega)
    simp at h0
    have ih := posE_of r n i (by simpa using hi) (fun t h ht => h1 (t + 1) (Nat.succ_lt_succ h) (Nat.succ_lt_succ ht)) (fun h => h2 (Nat.succ_lt_succ h))
    unfold posE at ih ⊢
    rw [List.takeWhile_cons, if_pos h0, List.length_cons, ih]
theorem posE_lt : ∀ (l : List En) (n : Bs) (t : Nat) (h : t < l.length), t < posE l n → lessB (tx l[t].1) n = true
  | x :: r, n, t, h, ht => by
    unfold posE at ht
    rw [List.takeWhile_cons] at ht
    split at ht
    · rename_i hx
      cases t with
      | zero => simpa using hx
      | succ t => simpa using posE_lt r n t (by simpa using h) (by unfold posE; simpa using ht)
    · simp at ht
theorem posE_ge : ∀ (l : List En) (n : Bs) (h : posE l n < l.length), lessB (tx l[posE l n].1) n = false
  | [], n, h => by simp at h
  | x :: r, n, h => by
    by_cases hx : lessB (tx x.1) n = true
    · have e : posE (x :: r) n = posE r n + 1 := by unfold posE; rw [List.takeWhile_cons, if_pos hx]; rfl
      have h' : posE r n < r.length := by rw [e] at h; simpa using h
      have := posE_ge r n h'
      simp only [e, List.getElem_cons_succ]; exact this
    · have e : posE (x :: r) n = 0 := by unfold posE; rw [List.takeWhile_cons, if_neg hx]; rfl
      simp only [e, List.getElem_cons_zero]; simpa using hx
def hereE (l : List En) (n : Bs) : Bool := decide (posE l n < l.length) && (tx (l.getD (posE l n) en0).1 == n)
def getE (l : List En) (n : Bs) : Option Int := (l.find? fun x => tx x.1 == n).map (·.2)
theorem getE_some {l : List En} {n : Bs} {p : Int} (h : getE l n = some p) : (mk n, p) ∈ l := by
  unfold getE at h
  obtain ⟨x, hx, rfl⟩ := Option.map_eq_some_iff.1 h
  have h1 := List.mem_of_find?_eq_some hx
  have h2 := List.find?_some hx
  simp at h2
  have e : x = (mk n, x.2) := Prod.ext (tx_inj (by rw [h2]; rfl)) rfl
  rw [← e]; exact h1
theorem getE_none_iff {l : List En} {n : Bs} : getE l n = none ↔ ∀ x ∈ l, tx x.1 ≠ n := by
  unfold getE
  rw [Option.map_eq_none_iff, List.find?_eq_none]
  simp
theorem sortE_inj {l : List En} (h : SortE l) {a b : En} (ha : a ∈ l) (hb : b ∈ l) (e : tx a.1 = tx b.1) : a = b := by
  obtain ⟨i, hi, rfl⟩ := List.getElem_of_mem ha
  obtain ⟨j, hj, rfl⟩ := List.getElem_of_mem hb
  have hp := List.pairwise_iff_getElem.1 h
  by_cases h1 : i < j
  · have := hp i j hi hj h1; rw [e, lessB_irrefl] at this; cases this
  · by_cases h2 : j < i
    · have := hp j i hj hi h2; rw [e, lessB_irrefl] at this; cases this
    · have : i = j := by omega
      subst this; rfl
theorem getE_mem {l : List En} (hs : SortE l) {n : Bs} {p : Int} (h : (mk n, p) ∈ l) : getE l n = some p := by
  cases hg : getE l n with
  | none => exact absurd rfl (getE_none_iff.1 hg _ h)
  | some u =>
    have := sortE_inj hs (getE_some hg) h rfl
    injection this with _ e; rw [e]
theorem getE_here {l : List En} (hs : SortE l) {n : Bs} : getE l n = if hereE l n then some (l.getD (posE l n) en0).2 else none := by
  unfold hereE
  by_cases hlt : posE l n < l.length
  · rw [decide_eq_true hlt, Bool.true_and, getD_en hlt]
    by_cases e : tx l[posE l n].1 = n
    · rw [beq_iff_eq.2 e, if_pos rfl]
      exact getE_mem hs (by
        have e2 : (mk n, l[posE l n].2) = l[posE l n] := Prod.ext (tx_inj (by rw [e]; rfl)) rfl
        rw [e2]; exact List.getElem_mem hlt)
    · rw [beq_eq_false_iff_ne.2 e, if_neg (by simp)]
      refine getE_none_iff.2 fun x hx hxe => ?_
      obtain ⟨t, ht, rfl⟩ := List.getElem_of_mem hx
      by_cases h1 : t < posE l n
      · have := posE_lt l n t ht h1; rw [hxe, lessB_irrefl] at this; cases this
      · by_cases e2 : posE l n = t
        · subst e2; exact e hxe
        · have h2 := posE_ge l n hlt
          have h3 := List.pairwise_iff_getElem.1 hs (posE l n) t hlt ht (by omega)
          rw [hxe] at h3; rw [h3] at h2; cases h2
  · rw [decide_eq_false hlt, Bool.false_and, if_neg (by simp)]
    refine getE_none_iff.2 fun x hx hxe => ?_
    obtain ⟨t, ht, rfl⟩ := List.getElem_of_mem hx
    have := posE_lt l n t ht (by omega)
    rw [hxe, lessB_irrefl] at this; cases this
theorem posE_sorted {l : List En} (hs : SortE l) {n : Bs} {t : Nat} (h : t < l.length) (ht : posE l n ≤ t) : lessB (tx l[t].1) n = false := by
  by_cases e : posE l n = t
  · subst e; exact posE_ge l n h
  · cases h1 : lessB (tx l[t].1) n
    · rfl
    · have h2 := posE_ge l n (by omega)
      have h3 := List.pairwise_iff_getElem.1 hs (posE l n) t (by omega) h (by omega)
      rw [lessB_trans h3 h1] at h2; cases h2

/-! ### one entry more, one less -/
def insE (l : List En) (e : En) : List En := l.take (posE l (tx e.1)) ++ e :: l.drop (posE l (tx e.1) + if hereE l (tx e.1) then 1 else 0)
def putE (l : List En) (e : En) : List En × Bool := if entsV l then (if entsV (insE l e) then (insE l e, true) else (l, false)) else ([], false)
def dropE (l : List En) (n : Bs) : List En × Bool := if entsV l then (if hereE l n then (l.take (posE l n) ++ l.drop (posE l n + 1), true) else (l, false)) else ([], false)
theorem hereE_iff {l : List En} {n : Bs} : hereE l n = true ↔ ∃ h : posE l n < l.length, tx l[posE l n].1 = n := by
  unfold hereE
  rw [Bool.and_eq_true, decide_eq_true_eq, beq_iff_eq]
  constructor
  · rintro ⟨h1, h2⟩; rw [getD_en h1] at h2; exact ⟨h1, h2⟩
  · rintro ⟨h1, h2⟩; rw [getD_en h1]; exact ⟨h1, h2⟩
theorem hereE_get {l : List En} (hs : SortE l) {n : Bs} : hereE l n = (getE l n).isSome := by
  rw [getE_here hs]; cases hereE l n <;> rfl
theorem mem_insE {l : List En} (hs : SortE l) (e x : En) : x ∈ insE l e ↔ x = e ∨ (x ∈ l ∧ tx x.1 ≠ tx e.1) := by
  unfold insE
  rw [List.mem_append, List.mem_cons]
  have hlo : ∀ a ∈ l.take (posE l (tx e.1)), tx a.1 ≠ tx e.1 := by
    intro a ha he
    obtain ⟨t, ht, rfl⟩ := List.getElem_of_mem ha
    rw [List.length_take] at ht
    rw [List.getElem_take] at he
    have := posE_lt l (tx e.1) t (by omega) (by omega)
    rw [he, lessB_irrefl] at this; cases this
  cases hh : hereE l (tx e.1)
  · simp only [Bool.false_eq_true, if_false, Nat.add_zero]
    rw [hereE_get hs, Option.isSome_eq_false_iff, Option.isNone_iff_eq_none] at hh
    have hn := getE_none_iff.1 hh
    constructor
    · rintro (h | h | h)
      · exact .inr ⟨List.mem_of_mem_take h, hlo _ h⟩
      · exact .inl h
      · exact .inr ⟨List.mem_of_mem_drop h, hn _ (List.mem_of_mem_drop h)⟩
    · rintro (h | ⟨h, _⟩)
      · exact .inr (.inl h)
      · rw [← List.take_append_drop (posE l (tx e.1)) l, List.mem_append] at h
        exact h.elim .inl fun h => .inr (.inr h)
  · simp only [if_true]
    obtain ⟨hp, he⟩ := hereE_iff.1 hh
    have hdr : l.drop (posE l (tx e.1)) = l[posE l (tx e.1)] :: l.drop (posE l (tx e.1) + 1) := List.drop_eq_getElem_cons hp
    constructor
    · rintro (h | h | h)
      · exact .inr ⟨List.mem_of_mem_take h, hlo _ h⟩
      · exact .inl h
      · refine .inr ⟨List.mem_of_mem_drop h, fun hx => ?_⟩
        obtain ⟨t, ht, rfl⟩ := List.getElem_of_mem h
        rw [List.length_drop] at ht
        rw [List.getElem_drop] at hx
        have h3 := List.pairwise_iff_getElem.1 hs (posE l (tx e.1)) (posE l (tx e.1) + 1 + t) hp (by omega) (by omega)
        rw [hx, he, lessB_irrefl] at h3; cases h3
    · rintro (h | ⟨h, hne⟩)
      · exact .inr (.inl h)
      · rw [← List.take_append_drop (posE l (tx e.1)) l, List.mem_append, hdr, List.mem_cons] at h
        rcases h with h | h | h
        · exact .inl h
        · rw [h] at hne; exact absurd he hne
        · exact .inr (.inr h)
theorem insE_sorted {l : List En} (hs : SortE l) (e : En) : SortE (insE l e) := by
  unfold insE SortE
  rw [List.pairwise_append, List.pairwise_cons]
  have hlo : ∀ a ∈ l.take (posE l (tx e.1)), lessB (tx a.1) (tx e.1) = true := by
    intro a ha
    obtain ⟨t, ht, rfl⟩ := List.getElem_of_mem ha
    rw [List.length_take] at ht
    rw [List.getElem_take]
    exact posE_lt l (tx e.1) t (by omega) (by omega)
  have hhi : ∀ b ∈ l.drop (posE l (tx e.1) + if hereE l (tx e.1) then 1 else 0), lessB (tx e.1) (tx b.1) = true := by
    intro b hb
    have hm := List.mem_of_mem_drop hb
    obtain ⟨t, ht, rfl⟩ := List.getElem_of_mem hb
    rw [List.length_drop] at ht
    rw [List.getElem_drop] at hm ⊢
    generalize hq : posE l (tx e.1) + (if hereE l (tx e.1) then 1 else 0) = q at *
    have hq2 : posE l (tx e.1) ≤ q := by rw [← hq]; omega
    have h1 := posE_sorted hs (n := tx e.1) (t := q + t) (by omega) (by omega)
    cases h2 : lessB (tx e.1) (tx l[q + t].1)
    · have h3 := lessB_tri h1 h2
      cases hh : hereE l (tx e.1)
      · rw [hereE_get hs, Option.isSome_eq_false_iff, Option.isNone_iff_eq_none] at hh
        exact absurd h3 (getE_none_iff.1 hh _ hm)
      · rw [hh, if_pos rfl] at hq
        obtain ⟨hp, he⟩ := hereE_iff.1 hh
        have h4 := List.pairwise_iff_getElem.1 hs (posE l (tx e.1)) (q + t) hp (by omega) (by omega)
        rw [he, h3, lessB_irrefl] at h4; cases h4
    · rfl
  refine ⟨hs.sublist (List.take_sublist _ _), ⟨hhi, hs.sublist (List.drop_sublist _ _)⟩, fun a ha b hb => ?_⟩
  have h1 := hlo a ha
  rcases List.mem_cons.1 hb with rfl | hb
  · exact h1
  · exact lessB_trans h1 (hhi b hb)
theorem insE_len (l : List En) (e : En) : (insE l e).length ≤ l.length + 1 := by
  have := posE_le l (tx e.1)
  unfold insE; simp; omega
theorem dropE_filter {l : List En} (h : entsV l = true) (n : Bs) : (dropE l n).1 = l.filter fun x => !(tx x.1 == n) := by
  have hs := entsV_sorted h
  unfold dropE
  rw [h, if_pos rfl]
  cases hh : hereE l n
  · rw [hereE_get hs, Option.isSome_eq_false_iff, Option.isNone_iff_eq_none] at hh
    have hn := getE_none_iff.1 hh
    rw [if_neg (by simp)]
    refine (List.filter_eq_self.2 fun x hx => ?_).symm
    simpa using hn x hx
  · rw [if_pos rfl]
    obtain ⟨hp, he⟩ := hereE_iff.1 hh
    have hdr : l.drop (posE l n) = l[posE l n] :: l.drop (posE l n + 1) := List.drop_eq_getElem_cons hp
    conv => rhs; rw [← List.take_append_drop (posE l n) l, hdr, List.filter_append, List.filter_cons]
    rw [if_neg (by simp [he])]
    show l.take (posE l n) ++ l.drop (posE l n + 1) = _
    congr 1
    · refine (List.filter_eq_self.2 fun x hx => ?_).symm
      obtain ⟨t, ht, rfl⟩ := List.getElem_of_mem hx
      rw [List.length_take] at ht
      rw [List.getElem_take]
      have := posE_lt l n t (by omega) (by omega)
      simp only [Bool.not_eq_true', beq_eq_false_iff_ne]
      intro e; rw [e, lessB_irrefl] at this; cases this
    · refine (List.filter_eq_self.2 fun x hx => ?_).symm
      obtain ⟨t, ht, rfl⟩ := List.getElem_of_mem hx
      rw [List.length_drop] at ht
      rw [List.getElem_drop]
      have h4 := List.pairwise_iff_getElem.1 hs (posE l n) (posE l n + 1 + t) hp (by omega) (by omega)
      simp only [Bool.not_eq_true', beq_eq_false_iff_ne]
      intro e; rw [he, e, lessB_irrefl] at h4; cases h4
theorem dropE_ok {l : List En} (h : entsV l = true) (n : Bs) : (dropE l n).2 = hereE l n := by
  unfold dropE; rw [h, if_pos rfl]; cases hereE l n <;> rfl
theorem dropE_valid {l : List En} (h : entsV l = true) (n : Bs) : entsV (dropE l n).1 = true := by
  rw [dropE_filter h]; exact entsV_sub h List.filter_sublist
theorem dropE_bad {l : List En} (h : entsV l = false) (n : Bs) : dropE l n = ([], false) := by unfold dropE; rw [h]; rfl
theorem dropE_lt {l : List En} (h : entsV l = true) (n : Bs) : decide ((dropE l n).1.length < l.length) = hereE l n := by
  unfold dropE
  rw [h, if_pos rfl]
  cases hh : hereE l n
  · simp
  · obtain ⟨hp, _⟩ := hereE_iff.1 hh
    simp; omega
theorem putE_here {l : List En} (h : entsV l = true) {e : En} (he : entOk e = true) (hh : hereE l (tx e.1) = true) : putE l e = (insE l e, true) := by
  unfold putE
  rw [h, if_pos rfl, if_pos]
  refine entsV_iff.2 ⟨?_, fun p hp => ?_, insE_sorted (entsV_sorted h) e⟩
  · obtain ⟨hp, _⟩ := hereE_iff.1 hh
    have := entsV_len h
    unfold insE; rw [hh]; simp; omega
  · rcases (mem_insE (entsV_sorted h) e p).1 hp with rfl | ⟨hp, _⟩
    · exact he
    · exact entsV_ok h hp
theorem putE_bad {l : List En} (h : entsV l = false) (e : En) : putE l e = ([], false) := by unfold putE; rw [h]; rfl
theorem putE_ok {l : List En} {e : En} (h : (putE l e).2 = true) : entsV l = true ∧ entsV (putE l e).1 = true ∧ (putE l e).1 = insE l e := by
  unfold putE at h ⊢
  cases h1 : entsV l
  · rw [h1] at h; cases h
  · rw [h1, if_pos rfl] at h
    rw [if_pos rfl]
    cases h2 : entsV (insE l e)
    · rw [h2] at h; cases h
    · exact ⟨rfl, h2, rfl⟩
theorem putE_len (l : List En) (e : En) : (putE l e).1.length ≤ 3 := by
  unfold putE
  cases h1 : entsV l
  · simp
  · rw [if_pos rfl]
    split
    · rename_i h; exact entsV_len h
    · exact entsV_len h1
--END
end Go.Proofs.YtedcgbmdfmgcgaaGreatDoor

/- Folders' texts, files, paths, walks, in plain Lean. No program in sight. -/
set_option linter.unusedVariables false
namespace Go.Proofs.YtedcgbmdfmgcgaaGreatDoor
--BEGIN
/-! ### a folder's text -/
def entT (e : En) : Bs := tx e.1 ++ 61 :: (hexT e.2 ++ [59])
def foldB (l : List En) : Bs := 100 :: l.flatMap entT
def foldT (l : List En) : Bs := if entsV l then foldB l else []
def headN (s : Bs) : Bs := s.takeWhile fun c => c != 61
def tailN (s : Bs) : Bs := s.drop ((headN s).length + 1)
def headD' (s : Bs) : Bs := s.takeWhile fun c => c != 59
def tailD (s : Bs) : Bs := s.drop ((headD' s).length + 1)
def parE : Nat → Bs → Option (List En)
  | 0, s => if s = [] then some [] else none
  | n + 1, s => if s = [] then some [] else (parE n (tailD (tailN s))).map fun l => (mk (headN s), readH (headD' (tailN s))) :: l
def readF (s : Bs) : Option (List En) := match parE 3 (s.drop 1) with | some l => if entsV l && (foldB l == s) then some l else none | none => none
theorem word_chars {s : Bs} (h : wordV s = true) : ∀ c ∈ s, smallC c = true ∨ digitC c = true := by
  unfold wordV at h
  rw [Bool.and_eq_true, List.all_eq_true] at h
  intro c hc
  have := h.2 c hc
  rwa [Bool.or_eq_true] at this
theorem word_range {c : UInt8} (h : smallC c = true ∨ digitC c = true) : (48 ≤ c.toNat ∧ c.toNat ≤ 57) ∨ (97 ≤ c.toNat ∧ c.toNat ≤ 122) := by
  unfold smallC digitC inI at h
  rw [decide_eq_true_eq, decide_eq_true_eq] at h
  omega
theorem hex_range {c : UInt8} (h : (hexV c).isSome = true) : (48 ≤ c.toNat ∧ c.toNat ≤ 57) ∨ (97 ≤ c.toNat ∧ c.toNat ≤ 122) := by
  unfold hexV at h
  split at h
  · rename_i h1; exact word_range (.inr h1)
  · split at h
    · rename_i h1; unfold inI at h1; rw [decide_eq_true_eq] at h1; omega
    · cases h
theorem byte_ne {c : UInt8} {n : Nat} (hn : n < 256) (h : c.toNat ≠ n) : c ≠ UInt8.ofNat n := by
  intro e; apply h; rw [e, UInt8.toNat_ofNat']; omega
theorem range_ne {c : UInt8} (h : (48 ≤ c.toNat ∧ c.toNat ≤ 57) ∨ (97 ≤ c.toNat ∧ c.toNat ≤ 122)) : c ≠ 61 ∧ c ≠ 59 ∧ c ≠ 47 ∧ c ≠ 32 ∧ okC c = true := by
  refine ⟨byte_ne (n := 61) (by omega) (by omega), byte_ne (n := 59) (by omega) (by omega), byte_ne (n := 47) (by omega) (by omega), byte_ne (n := 32) (by omega) (by omega), ?_⟩
  unfold okC; rw [decide_eq_true_eq]; omega
theorem takeWhile_stop {p : UInt8 → Bool} {a : Bs} {c : UInt8} {r : Bs} (ha : ∀ x ∈ a, p x = true) (hc : p c = false) : (a ++ c :: r).takeWhile p = a := by
  rw [List.takeWhile_append_of_pos ha, List.takeWhile_cons, hc]; simp
theorem drop_past (a : Bs) (c : UInt8) (r : Bs) : (a ++ c :: r).drop (a.length + 1) = r := by
  rw [List.drop_append]; simp
theorem entT_word {e : En} (h : entOk e = true) : ∀ c ∈ tx e.1, (c != 61) = true := fun c hc => by
  have := (range_ne (word_range (word_chars (entOk_iff.1 h).1 c hc))).1; simpa using this
theorem entT_hex (n : Int) : ∀ c ∈ hexT n, (c != 59) = true := fun c hc => by
  have := (range_ne (hex_range (hexT_chars n c hc))).2.1; simpa using this
theorem headN_ent {e : En} (h : entOk e = true) (r : Bs) : headN (entT e ++ r) = tx e.1 := by
  unfold headN entT
  rw [List.append_assoc, List.cons_append]
  exact takeWhile_stop (entT_word h) (by decide)
theorem tailN_ent {e : En} (h : entOk e = true) (r : Bs) : tailN (entT e ++ r) = hexT e.2 ++ 59 :: r := by
  unfold tailN
  rw [headN_ent h]
  unfold entT
  rw [List.append_assoc, List.cons_append, drop_past, List.append_assoc]; rfl
theorem headD_ent (n : Int) (r : Bs) : headD' (hexT n ++ 59 :: r) = hexT n := takeWhile_stop (entT_hex n) (by decide)
theorem tailD_ent (n : Int) (r : Bs) : tailD (hexT n ++ 59 :: r) = r := by unfold tailD; rw [headD_ent, drop_past]
theorem entT_ne (e : En) (r : Bs) : entT e ++ r ≠ [] := by unfold entT; simp
theorem parE_ok : ∀ (n : Nat) (l : List En), l.length ≤ n → (∀ e ∈ l, entOk e = true) → parE n (l.flatMap entT) = some l
  | 0, l, hn, _ => by
    have : l = [] := List.eq_nil_of_length_eq_zero (by omega)
    subst this; rfl
  | n + 1, [], _, _ => rfl
  | n + 1, e :: r, hn, h => by
    have he := h e (by simp)
    rw [List.flatMap_cons, parE, if_neg (entT_ne _ _), headN_ent he, tailN_ent he, headD_ent, tailD_ent, parE_ok n r (by simpa using hn) (fun x hx => h x (by simp [hx])), readH_hexT (entOk_iff.1 he).2]
    rw [mk_tx]; rfl
theorem readF_iff {s : Bs} {l : List En} : readF s = some l ↔ entsV l = true ∧ foldB l = s := by
  unfold readF
  constructor
  · intro h
    split at h
    · split at h
      · rename_i hc
        injection h with h; subst h
        rw [Bool.and_eq_true, beq_iff_eq] at hc; exact hc
      · cases h
    · cases h
  · rintro ⟨h1, rfl⟩
    have e : (foldB l).drop 1 = l.flatMap entT := rfl
    rw [e, parE_ok 3 l (entsV_len h1) (fun x hx => entsV_ok h1 hx)]
    show (if entsV l && (foldB l == foldB l) then some l else none) = some l
    rw [h1]; simp
theorem readF_none {s : Bs} (h : ∀ l, entsV l = true → foldB l ≠ s) : readF s = none := by
  cases hr : readF s with
  | none => rfl
  | some l => obtain ⟨h1, h2⟩ := readF_iff.1 hr; exact absurd h2 (h l h1)
theorem foldB_inj {l m : List En} (h1 : entsV l = true) (h2 : entsV m = true) (h : foldB l = foldB m) : l = m := by
  have a := readF_iff.2 ⟨h1, h⟩
  have b := readF_iff.2 ⟨h2, rfl⟩
  rw [a] at b; injection b
theorem readF_foldT {l : List En} (h : entsV l = true) : readF (foldT l) = some l := by unfold foldT; rw [h, if_pos rfl]; exact readF_iff.2 ⟨h, rfl⟩
theorem entT_len (e : En) (h : entOk e = true) : (entT e).length ≤ 16 := by
  have h1 := hexT_len e.2
  have h2 : (tx e.1).length ≤ 8 := by
    have := (entOk_iff.1 h).1; unfold wordV at this; rw [Bool.and_eq_true, Bool.and_eq_true, decide_eq_true_eq] at this; exact this.1.1.2
  unfold entT
  rw [List.length_append, List.length_cons, List.length_append, List.length_singleton]; omega
theorem flat_ent_len : ∀ l : List En, (∀ e ∈ l, entOk e = true) → (l.flatMap entT).length ≤ 16 * l.length
  | [], _ => by simp
  | e :: r, h => by
    have h1 := entT_len e (h e (by simp))
    have h2 := flat_ent_len r fun x hx => h x (by simp [hx])
    rw [List.flatMap_cons, List.length_append, List.length_cons]; omega
theorem foldB_len {l : List En} (h : entsV l = true) : (foldB l).length ≤ 49 := by
  have h1 := flat_ent_len l fun e he => entsV_ok h he
  have h2 := entsV_len h
  unfold foldB; rw [List.length_cons]; omega
theorem foldT_len (l : List En) : (foldT l).length ≤ 49 := by
  unfold foldT; split
  · rename_i h; exact foldB_len h
  · simp
theorem entT_ok {e : En} (h : entOk e = true) : ∀ c ∈ entT e, okC c = true := by
  intro c hc
  unfold entT at hc
  rw [List.mem_append, List.mem_cons, List.mem_append, List.mem_singleton] at hc
  rcases hc with hc | rfl | hc | rfl
  · exact (range_ne (word_range (word_chars (entOk_iff.1 h).1 c hc))).2.2.2.2
  · decide
  · exact (range_ne (hex_range (hexT_chars _ c hc))).2.2.2.2
  · decide
theorem foldB_text {l : List En} (h : entsV l = true) : textV (foldB l) = true := by
  unfold textV
  rw [Bool.and_eq_true, decide_eq_true_eq, List.all_eq_true]
  refine ⟨by have := foldB_len h; omega, fun c hc => ?_⟩
  unfold foldB at hc
  rcases List.mem_cons.1 hc with rfl | hc
  · decide
  · obtain ⟨e, he, hc⟩ := List.mem_flatMap.1 hc
    exact entT_ok (entsV_ok h he) c hc

/-! ### files -/
def contV (s : Bs) : Bool := textV s && decide (s.length ≤ 40)
def fileT (s : Bs) : Bs := if contV s then 102 :: s else []
def readFi (s : Bs) : Option Bs := match s with | [] => none | c :: r => if c == 102 && contV r then some r else none
def textK (s : Bs) : Int := if (readFi s).isSome then 1 else if (readF s).isSome then 2 else 0
theorem readFi_iff {s r : Bs} : readFi s = some r ↔ s = 102 :: r ∧ contV r = true := by
  unfold readFi
  cases s with
  | nil => simp
  | cons c t =>
    simp only
    constructor
    · intro h
      split at h
      · rename_i hc
        injection h with h; subst h
        rw [Bool.and_eq_true, beq_iff_eq] at hc
        exact ⟨by rw [hc.1], hc.2⟩
      · cases h
    · rintro ⟨h1, h2⟩
      injection h1 with h3 h4; subst h3 h4
      rw [h2]; simp
theorem readF_file {s : Bs} (h : (readFi s).isSome = true) : readF s = none := by
  obtain ⟨r, hr⟩ := Option.isSome_iff_exists.1 h
  obtain ⟨rfl, _⟩ := readFi_iff.1 hr
  refine readF_none fun l _ e => ?_
  unfold foldB at e; injection e with e _; exact absurd e (by decide)
theorem textK_two {s : Bs} : textK s = 2 ↔ (readF s).isSome = true := by
  unfold textK
  cases h : (readFi s).isSome
  · cases h2 : (readF s).isSome <;> simp
  · rw [readF_file h]; simp
theorem textK_one {s : Bs} : textK s = 1 ↔ (readFi s).isSome = true := by
  unfold textK
  cases h : (readFi s).isSome
  · cases h2 : (readF s).isSome <;> simp
  · simp
theorem fileT_ok {s : Bs} (h : contV s = true) : fileT s = 102 :: s := by unfold fileT; rw [h, if_pos rfl]
theorem fileT_text {s : Bs} (h : contV s = true) : textV (fileT s) = true := by
  rw [fileT_ok h]
  unfold contV textV at h
  rw [Bool.and_eq_true, Bool.and_eq_true, decide_eq_true_eq, decide_eq_true_eq] at h
  unfold textV
  rw [Bool.and_eq_true, decide_eq_true_eq, List.all_cons, Bool.and_eq_true]
  exact ⟨by simp; omega, by decide, h.1.2⟩
theorem readFi_fileT {s : Bs} (h : contV s = true) : readFi (fileT s) = some s := readFi_iff.2 ⟨fileT_ok h, h⟩

/-! ### paths -/
def joinB (ps : List Bs) : Bs := ps.flatMap fun p => 47 :: p
def partsV (ps : List Bs) : Bool := decide (ps.length ≤ 3) && ps.all wordV
def joinP (ps : List Bs) : Bs := if partsV ps then (if ps = [] then [47] else joinB ps) else []
def splitS (c : UInt8) : Bs → List Bs
  | [] => [[]]
  | x :: r => if x = c then [] :: splitS c r else match splitS c r with | p :: ps => (x :: p) :: ps | [] => [[x]]
theorem splitS_ne (c : UInt8) (s : Bs) : splitS c s ≠ [] := by
  cases s with
  | nil => simp [splitS]
  | cons x r =>
    rw [splitS]; split
    · simp
    · split <;> simp
theorem joinB_split : ∀ s : Bs, joinB (splitS 47 s) = 47 :: s
  | [] => rfl
  | x :: r => by
    rw [splitS]
    have ih := joinB_split r
    split
    · rename_i h
      subst h
      unfold joinB at ih ⊢
      rw [List.flatMap_cons, ih]; rfl
    · split
      · rename_i p ps he
        rw [he] at ih
        unfold joinB at ih ⊢
        rw [List.flatMap_cons] at ih ⊢
        injection ih with _ ih
        show 47 :: x :: (p.append _) = _
        rw [ih]
      · rename_i he; exact absurd he (splitS_ne 47 r)
def pathP (s : Bs) : Option (List Bs) := if s = [47] then some [] else if s.headD 0 = 47 then (if partsV (splitS 47 s.tail) then some (splitS 47 s.tail) else none) else none
theorem pathP_join {s : Bs} {ps : List Bs} (h : pathP s = some ps) : partsV ps = true ∧ joinP ps = s := by
  unfold pathP at h
  split at h
  · rename_i e; injection h with h; subst h e; exact ⟨rfl, rfl⟩
  · split at h
    · rename_i hd
      split at h
      · rename_i hv
        injection h with h; subst h
        refine ⟨hv, ?_⟩
        unfold joinP
        rw [hv, if_pos rfl, if_neg (splitS_ne _ _), joinB_split]
        cases s with
        | nil => exact absurd hd (by decide)
        | cons x r => simp at hd; subst hd; rfl
      · cases h
    · cases h
theorem splitS_word {p : Bs} (hp : ∀ c ∈ p, c ≠ 47) : splitS 47 p = [p] := by
  induction p with
  | nil => rfl
  | cons x r ih =>
    rw [splitS, if_neg (hp x (by simp)), ih fun c hc => hp c (by simp [hc])]
theorem splitS_join {p : Bs} (hp : ∀ c ∈ p, c ≠ 47) (r : Bs) : splitS 47 (p ++ 47 :: r) = p :: splitS 47 r := by
  induction p with
  | nil => rw [List.nil_append, splitS, if_pos rfl]
  | cons x q ih =>
    rw [List.cons_append, splitS, if_neg (hp x (by simp)), ih fun c hc => hp c (by simp [hc])]
theorem word_noslash {p : Bs} (h : wordV p = true) : ∀ c ∈ p, c ≠ 47 := fun c hc => (range_ne (word_range (word_chars h c hc))).2.2.1
theorem split_joinB : ∀ (ps : List Bs) (p : Bs), wordV p = true → (∀ q ∈ ps, wordV q = true) → splitS 47 (p ++ joinB ps) = p :: ps
  | [], p, hp, _ => by unfold joinB; rw [List.flatMap_nil, List.append_nil]; exact splitS_word (word_noslash hp)
  | q :: r, p, hp, h => by
    have e : p ++ joinB (q :: r) = p ++ 47 :: (q ++ joinB r) := by unfold joinB; rw [List.flatMap_cons]; rfl
    rw [e, splitS_join (word_noslash hp), split_joinB r q (h q (by simp)) fun x hx => h x (by simp [hx])]
theorem partsV_iff {ps : List Bs} : partsV ps = true ↔ ps.length ≤ 3 ∧ ∀ p ∈ ps, wordV p = true := by unfold partsV; rw [Bool.and_eq_true, decide_eq_true_eq, List.all_eq_true]
theorem word_ne {p : Bs} (h : wordV p = true) : p ≠ [] := by
  intro e; subst e; cases h
theorem pathP_of {ps : List Bs} (h : partsV ps = true) : pathP (joinP ps) = some ps := by
  obtain ⟨h1, h2⟩ := partsV_iff.1 h
  unfold joinP
  rw [h, if_pos rfl]
  cases ps with
  | nil => rfl
  | cons p r =>
    rw [if_neg (by simp)]
    have e : joinB (p :: r) = 47 :: (p ++ joinB r) := by unfold joinB; rw [List.flatMap_cons]; rfl
    have hne := word_ne (h2 p (by simp))
    unfold pathP
    rw [e, if_neg (by intro e2; injection e2 with _ e2; rw [List.append_eq_nil_iff] at e2; exact hne e2.1), if_pos (by rfl), List.tail_cons, split_joinB r p (h2 p (by simp)) fun x hx => h2 x (by simp [hx]), h, if_pos rfl]
theorem joinP_inj {a b : List Bs} (ha : partsV a = true) (hb : partsV b = true) (h : joinP a = joinP b) : a = b := by
  have h1 := pathP_of ha
  have h2 := pathP_of hb
  rw [h, h2] at h1; injection h1 with h1; exact h1.symm
def belowP (path above : Bs) : Bool := match pathP path, pathP above with | some a, some b => b.isPrefixOf a | _, _ => false

/-! ### walks -/
def folderOf (s : List Pc) (p : Int) : Option (List En) := (getT s p).bind fun t => readF (tx t)
def fileOf (s : List Pc) (p : Int) : Option Bs := (getT s p).bind fun t => readFi (tx t)
def walkP (s : List Pc) : Int → List Bs → Option Int
  | p, [] => if (getT s p).isSome then some p else none
  | p, n :: r => (folderOf s p).bind fun l => (getE l n).bind fun q => walkP s q r
def walkTo (s : List Pc) (root : Int) (path : Bs) : Option Int := if storeV s then (pathP path).bind fun ps => walkP s root ps else none
def readAt (s : List Pc) (root : Int) (path : Bs) : Option Bs := (walkTo s root path).bind fun p => fileOf s p
theorem getT_valid {s : List Pc} (hs : storeV s = true) {p : Int} {t : ByteArray} (h : getT s p = some t) : textV (tx t) = true ∧ prOf (tx t) = p ∧ pv p = true := by
  have := pieceOk_iff.1 (storeV_piece hs (getT_some h))
  have h2 : prOf (tx t) = p := this.2
  exact ⟨this.1, h2, by rw [← h2]; exact prOf_pv this.1⟩
theorem folder_valid {s : List Pc} {p : Int} {l : List En} (h : folderOf s p = some l) : entsV l = true := by
  unfold folderOf at h
  obtain ⟨t, _, h2⟩ := Option.bind_eq_some_iff.1 h
  exact (readF_iff.1 h2).1
theorem walkP_there {s : List Pc} : ∀ {ps : List Bs} {p q : Int}, walkP s p ps = some q → (getT s q).isSome = true
  | [], p, q, h => by
    rw [walkP] at h; split at h
    · rename_i hs; injection h with h; subst h; exact hs
    · cases h
  | n :: r, p, q, h => by
    rw [walkP] at h
    obtain ⟨l, _, h⟩ := Option.bind_eq_some_iff.1 h
    obtain ⟨x, _, h⟩ := Option.bind_eq_some_iff.1 h
    exact walkP_there h
--END
end Go.Proofs.YtedcgbmdfmgcgaaGreatDoor

/- Writing into stores and dropping out of them, in plain Lean. No program in sight. -/
set_option linter.unusedVariables false
namespace Go.Proofs.YtedcgbmdfmgcgaaGreatDoor
--BEGIN
/-! ### some texts more -/
def putAll : List Pc → List ByteArray → Option (List Pc)
  | s, [] => some s
  | s, t :: r => if (putT s t).2.2 then putAll (putT s t).1 r else none
theorem putAll_append : ∀ (a b : List ByteArray) (s : List Pc), putAll s (a ++ b) = (putAll s a).bind fun s' => putAll s' b
  | [], b, s => rfl
  | t :: r, b, s => by
    rw [List.cons_append, putAll, putAll]
    split
    · exact putAll_append r b _
    · rfl
theorem putAll_one (s : List Pc) (t : ByteArray) : putAll s [t] = if (putT s t).2.2 then some (putT s t).1 else none := rfl
theorem putAll_ok : ∀ (ts : List ByteArray) (s s' : List Pc), storeV s = true → putAll s ts = some s' → storeV s' = true ∧ ∀ p, p ∈ s' ↔ p ∈ s ∨ ∃ t ∈ ts, p = (prOf (tx t), t)
  | [], s, s', hs, h => by
    rw [putAll] at h; injection h with h; subst h
    exact ⟨hs, fun p => by simp⟩
  | t :: r, s, s', hs, h => by
    rw [putAll] at h
    split at h
    · rename_i hok
      obtain ⟨_, hp, _⟩ := putT_ok hok
      obtain ⟨h1, h2⟩ := putAll_ok r _ s' hp.valid h
      refine ⟨h1, fun p => ?_⟩
      rw [h2 p, hp.mem p]
      constructor
      · rintro ((h3 | h3) | ⟨u, hu, h3⟩)
        · exact .inl h3
        · exact .inr ⟨t, by simp, h3⟩
        · exact .inr ⟨u, by simp [hu], h3⟩
      · rintro (h3 | ⟨u, hu, h3⟩)
        · exact .inl (.inl h3)
        · rcases List.mem_cons.1 hu with rfl | hu
          · exact .inl (.inr h3)
          · exact .inr ⟨u, hu, h3⟩
    · cases h
theorem nodup_len {α : Type} [DecidableEq α] : ∀ (a b : List α), a.Nodup → (∀ x ∈ a, x ∈ b) → a.length ≤ b.length
  | [], b, _, _ => by simp
  | x :: r, b, h, hs => by
    have hx := hs x (by simp)
    have hn := List.nodup_cons.1 h
    have ih := nodup_len r (b.erase x) hn.2 fun y hy => (List.mem_erase_of_ne (fun e => hn.1 (by rw [← e]; exact hy))).2 (hs y (by simp [hy]))
    rw [List.length_erase_of_mem hx] at ih
    have hp : 0 < b.length := List.length_pos_of_mem hx
    rw [List.length_cons]; omega
theorem putAll_can : ∀ (ts : List ByteArray) (s s' : List Pc), storeV s = true → storeV s' = true → (∀ p, p ∈ s' ↔ p ∈ s ∨ ∃ t ∈ ts, p = (prOf (tx t), t)) → putAll s ts = some s'
  | [], s, s', hs, hs', h => by
    rw [putAll]; congr 1
    exact store_ext hs hs' fun p => by rw [h p]; simp
  | t :: r, s, s', hs, hs', h => by
    have hin : (prOf (tx t), t) ∈ s' := (h _).2 (.inr ⟨t, by simp, rfl⟩)
    have htx := (pieceOk_iff.1 (storeV_piece hs' hin)).1
    have hok : (putT s t).2.2 = true := by
      refine putT_can.2 ⟨hs, htx, fun u hu => ?_, ?_⟩
      · have := sorted_inj (storeV_sorted hs') ((h _).2 (.inl hu)) hin rfl
        injection this
      · by_cases hm : (prOf (tx t), t) ∈ s
        · exact .inl hm
        · right
          have h1 : ((prOf (tx t), t) :: s).length ≤ s'.length := by
            have nl : s.Nodup := (storeV_sorted hs).imp (fun h e => by subst e; omega)
            refine nodup_len _ _ (List.nodup_cons.2 ⟨hm, nl⟩) fun p hp => ?_
            rcases List.mem_cons.1 hp with rfl | hp
            · exact hin
            · exact (h _).2 (.inl hp)
          have h2 := storeV_len hs'
          rw [List.length_cons] at h1; omega
    rw [putAll, if_pos hok]
    obtain ⟨_, hp, _⟩ := putT_ok hok
    refine putAll_can r _ s' hp.valid hs' fun p => ?_
    rw [h p, hp.mem p]
    constructor
    · rintro (h3 | ⟨u, hu, h3⟩)
      · exact .inl (.inl h3)
      · rcases List.mem_cons.1 hu with rfl | hu
        · exact .inl (.inr h3)
        · exact .inr ⟨u, hu, h3⟩
    · rintro ((h3 | h3) | ⟨u, hu, h3⟩)
      · exact .inl h3
      · exact .inr ⟨t, by simp, h3⟩
      · exact .inr ⟨u, by simp [hu], h3⟩
/-- Whatever the order: the same texts lead to the same store, or none. -/
theorem putAll_congr {s : List Pc} {a b : List ByteArray} (hs : storeV s = true) (h : ∀ t, t ∈ a ↔ t ∈ b) : putAll s a = putAll s b := by
  have key : ∀ {a b : List ByteArray} {s' : List Pc}, (∀ t, t ∈ a ↔ t ∈ b) → putAll s a = some s' → putAll s b = some s' := by
    intro a b s' h ha
    obtain ⟨h1, h2⟩ := putAll_ok a s s' hs ha
    refine putAll_can b s s' hs h1 fun p => ?_
    rw [h2 p]
    simp only [h]
  cases ha : putAll s a with
  | some s' => exact (key h ha).symm
  | none =>
    cases hb : putAll s b with
    | none => rfl
    | some s' => rw [key (fun t => (h t).symm) hb] at ha; cases ha
theorem putAll_bad {s : List Pc} {t : ByteArray} {r : List ByteArray} (h : storeV s = false) : putAll s (t :: r) = none := by
  rw [putAll, putT_bad h]; rfl
theorem getT_keep {s s' : List Pc} {ts : List ByteArray} (hs : storeV s = true) (h : putAll s ts = some s') {p : Int} {t : ByteArray} (hg : getT s p = some t) : getT s' p = some t := by
  obtain ⟨h1, h2⟩ := putAll_ok _ _ _ hs h
  exact getT_mem (storeV_sorted h1) ((h2 _).2 (.inl (getT_some hg)))
theorem getT_put {s s' : List Pc} {ts : List ByteArray} (hs : storeV s = true) (h : putAll s ts = some s') {t : ByteArray} (ht : t ∈ ts) : getT s' (prOf (tx t)) = some t := by
  obtain ⟨h1, h2⟩ := putAll_ok _ _ _ hs h
  exact getT_mem (storeV_sorted h1) ((h2 _).2 (.inr ⟨t, ht, rfl⟩))
theorem folder_keep {s s' : List Pc} {ts : List ByteArray} (hs : storeV s = true) (h : putAll s ts = some s') {p : Int} {l : List En} (hg : folderOf s p = some l) : folderOf s' p = some l := by
  unfold folderOf at hg ⊢
  obtain ⟨t, h1, h2⟩ := Option.bind_eq_some_iff.1 hg
  rw [getT_keep hs h h1]; exact h2
theorem file_keep {s s' : List Pc} {ts : List ByteArray} (hs : storeV s = true) (h : putAll s ts = some s') {p : Int} {l : Bs} (hg : fileOf s p = some l) : fileOf s' p = some l := by
  unfold fileOf at hg ⊢
  obtain ⟨t, h1, h2⟩ := Option.bind_eq_some_iff.1 hg
  rw [getT_keep hs h h1]; exact h2

/-! ### writing -/
def leafOk (s : List Pc) : Option Int → Bool
  | some q => (fileOf s q).isSome
  | none => true
def listAt (s : List Pc) : Option Int → Option (List En)
  | some p => folderOf s p
  | none => some []
def foldsW (s : List Pc) : Option Int → List Bs → Option (List (List En))
  | _, [] => some []
  | a, n :: r => (listAt s a).bind fun l => if r.isEmpty && !leafOk s (getE l n) then none else (foldsW s (getE l n) r).map fun fs => l :: fs
def upT : List (List En) → List Bs → Int → Option (List ByteArray × Int)
  | l :: fs, n :: ns, leaf => (upT fs ns leaf).bind fun x => if (putE l (mk n, x.2)).2 then some (x.1 ++ [mk (foldT (putE l (mk n, x.2)).1)], prOf (foldT (putE l (mk n, x.2)).1)) else none
  | _, _, leaf => some ([], leaf)
def writeP (s : List Pc) (root : Int) (ps : List Bs) (c : Bs) : Option (List Pc × Int) :=
  (foldsW s (some root) ps).bind fun fs => (upT fs ps (prOf (fileT c))).bind fun x => (putAll s (mk (fileT c) :: x.1)).map fun s' => (s', x.2)
/-- As the reference goes. -/
def setP (s : List Pc) (a : Option Int) (ps : List Bs) (leaf : Int) : Option (List Pc × Int) :=
  (foldsW s a ps).bind fun fs => (upT fs ps leaf).bind fun x => (putAll s x.1).map fun s' => (s', x.2)
theorem setP_nil (s : List Pc) (a : Option Int) (leaf : Int) : setP s a [] leaf = some (s, leaf) := rfl
def setUp (l : List En) (n : Bs) (x : List Pc × Int) : Option (List Pc × Int) :=
  if (putE l (mk n, x.2)).2 then (if (putT x.1 (mk (foldT (putE l (mk n, x.2)).1))).2.2 then some ((putT x.1 (mk (foldT (putE l (mk n, x.2)).1))).1, prOf (foldT (putE l (mk n, x.2)).1)) else none) else none
theorem setP_cons (s : List Pc) (a : Option Int) (n : Bs) (r : List Bs) (leaf : Int) :
    setP s a (n :: r) leaf = (listAt s a).bind fun l => if r.isEmpty && !leafOk s (getE l n) then none else (setP s (getE l n) r leaf).bind (setUp l n) := by
  unfold setP
  rw [foldsW]
  cases listAt s a with
  | none => rfl
  | some l =>
    simp only [Option.bind_some]
    split
    · rfl
    · cases foldsW s (getE l n) r with
      | none => rfl
      | some fs =>
        simp only [Option.map_some, Option.bind_some]
        rw [upT]
        cases upT fs r leaf with
        | none => rfl
        | some x =>
          simp only [Option.bind_some]
          unfold setUp
          cases hp : putAll s x.1 with
          | none =>
            split
            · simp only [Option.bind_some]; rw [putAll_append, hp]; rfl
            · rfl
          | some s1 =>
            simp only [Option.map_some, Option.bind_some]
            split
            · simp only [Option.bind_some]
              rw [putAll_append, hp, Option.bind_some, putAll_one]
              split <;> rfl
            · rfl
theorem writeP_set {s : List Pc} (hs : storeV s = true) (root : Int) (ps : List Bs) (c : Bs) :
    writeP s root ps c = (setP s (some root) ps (prOf (fileT c))).bind fun x => if (putT x.1 (mk (fileT c))).2.2 then some ((putT x.1 (mk (fileT c))).1, x.2) else none := by
  unfold writeP setP
  cases foldsW s (some root) ps with
  | none => rfl
  | some fs =>
    simp only [Option.bind_some]
    cases upT fs ps (prOf (fileT c)) with
    | none => rfl
    | some x =>
      simp only [Option.bind_some]
      have e : putAll s (mk (fileT c) :: x.1) = putAll s (x.1 ++ [mk (fileT c)]) := putAll_congr hs fun t => by simp [or_comm]
      rw [e, putAll_append]
      cases putAll s x.1 with
      | none => rfl
      | some s1 =>
        simp only [Option.bind_some, Option.map_some]
        rw [putAll_one]
        split <;> rfl
def writeA (s : List Pc) (root : Int) (path c : Bs) : List Pc × Int × Bool :=
  match (if storeV s && contV c then pathP path else none) with
  | some (n :: r) => (match writeP s root (n :: r) c with | some x => (x.1, x.2, true) | none => (s, root, false))
  | _ => ([], -1, false)

/-! ### dropping -/
def foldsD (s : List Pc) : Int → List Bs → List (List En)
  | _, [] => []
  | p, n :: r => ((folderOf s p).getD []) :: foldsD s ((getE ((folderOf s p).getD []) n).getD (-1)) r
def restD (l : List En) (n : Bs) : Option Int → List En
  | some q => (putE l (mk n, q)).1
  | none => (dropE l n).1
def dT : List (List En) → List Bs → List ByteArray × Option Int
  | l :: fs, n :: ns => if restD l n (dT fs ns).2 = [] then ((dT fs ns).1, none) else ((dT fs ns).1 ++ [mk (foldT (restD l n (dT fs ns).2))], some (prOf (foldT (restD l n (dT fs ns).2))))
  | _, _ => ([], none)
def dropTs (x : List ByteArray × Option Int) : List ByteArray × Int := match x.2 with | some p => (x.1, p) | none => (x.1 ++ [mk (foldT [])], prOf (foldT []))
def dropP (s : List Pc) (root : Int) (ps : List Bs) : Option (List Pc × Int) :=
  if (walkP s root ps).isSome then (putAll s (dropTs (dT (foldsD s root ps) ps)).1).map fun s' => (s', (dropTs (dT (foldsD s root ps) ps)).2) else none
def dropA (s : List Pc) (root : Int) (path : Bs) : List Pc × Int × Bool :=
  match (if storeV s then pathP path else none) with
  | some (n :: r) => (match dropP s root (n :: r) with | some x => (x.1, x.2, true) | none => (s, root, false))
  | _ => ([], -1, false)
/-- As the reference goes: a number below 0 stands for an emptied folder. -/
def dropS (s : List Pc) (fs : List (List En)) (ns : List Bs) : Option (List Pc × Int) := (putAll s (dT fs ns).1).map fun s' => (s', (dT fs ns).2.getD (-1))
def dropUp (l : List En) (n : Bs) (x : List Pc × Int) : Option (List Pc × Int) :=
  if restD l n (if x.2 < 0 then none else some x.2) = [] then some (x.1, -1)
  else if (putT x.1 (mk (foldT (restD l n (if x.2 < 0 then none else some x.2))))).2.2 then some ((putT x.1 (mk (foldT (restD l n (if x.2 < 0 then none else some x.2))))).1, prOf (foldT (restD l n (if x.2 < 0 then none else some x.2)))) else none
--END
end Go.Proofs.YtedcgbmdfmgcgaaGreatDoor

/- Versions and tags in plain Lean. -/
set_option linter.unusedVariables false
namespace Go.Proofs.YtedcgbmdfmgcgaaGreatDoor

def verAt (k : Nat) (v : Vr) : Bool := pv v.1 && (decide (-1 ≤ v.2.1) && (decide (v.2.1 < k) && wordV v.2.2.data.toList))
def versFrom : Nat → List Vr → Bool
  | _, [] => true
  | k, v :: r => verAt k v && versFrom (k + 1) r
def versV (l : List Vr) : Bool := decide (l.length ≤ 12) && versFrom 0 l
theorem versFrom_append : ∀ (a : List Vr) (k : Nat) (b : List Vr), versFrom k (a ++ b) = (versFrom k a && versFrom (k + a.length) b)
  | [], k, b => by simp [versFrom]
  | v :: r, k, b => by
    rw [List.cons_append, versFrom, versFrom, versFrom_append r (k + 1) b, Bool.and_assoc]
    congr 3
    simp; omega
theorem versFrom_take {l : List Vr} {k : Nat} (h : k < l.length) : versFrom 0 (l.take (k + 1)) = (versFrom 0 (l.take k) && verAt k l[k]) := by
  rw [List.take_succ_eq_append_getElem h, versFrom_append]
  have : (l.take k).length = k := by rw [List.length_take]; omega
  simp [versFrom, this]
theorem versFrom_bad {l : List Vr} {k : Nat} (h : k < l.length) (hv : verAt k l[k] = false) : versFrom 0 l = false := by
  have h1 : l = l.take (k + 1) ++ l.drop (k + 1) := (List.take_append_drop _ _).symm
  rw [h1, versFrom_append, versFrom_take h, hv, Bool.and_false, Bool.false_and]
theorem versFrom_all {l : List Vr} {k : Nat} (h : ¬ k < l.length) (hv : versFrom 0 (l.take k) = true) : versFrom 0 l = true := by
  rwa [List.take_of_length_le (by omega)] at hv
theorem versFrom_at : ∀ (l : List Vr) (j k : Nat) (h : k < l.length), versFrom j l = true → verAt (j + k) l[k] = true
  | [], _, _, h, _ => by simp at h
  | v :: r, j, 0, _, hv => by rw [versFrom, Bool.and_eq_true] at hv; simpa using hv.1
  | v :: r, j, k + 1, h, hv => by
    rw [versFrom, Bool.and_eq_true] at hv
    have := versFrom_at r (j + 1) k (by simpa using h) hv.2
    have e : j + (k + 1) = j + 1 + k := by omega
    rw [e]; exact this
theorem versV_len {l : List Vr} (h : versV l = true) : l.length ≤ 12 := by
  unfold versV at h; rw [Bool.and_eq_true] at h; simpa using h.1
theorem versV_at {l : List Vr} (h : versV l = true) {k : Nat} (hk : k < l.length) : verAt k l[k] = true := by
  unfold versV at h; rw [Bool.and_eq_true] at h
  have := versFrom_at l 0 k hk h.2
  simpa using this
theorem verAt_iff {k : Nat} {v : Vr} : verAt k v = true ↔ pv v.1 = true ∧ -1 ≤ v.2.1 ∧ v.2.1 < k ∧ wordV v.2.2.data.toList = true := by
  unfold verAt; simp only [Bool.and_eq_true, decide_eq_true_eq]

def makeTag (l : List Vr) (name : ByteArray) (n : Int) : Option Tg :=
  if wordV name.data.toList && versV l && decide (0 ≤ n ∧ n < l.length) then some (name, n, (l.getD n.toNat (0, 0, name)).1, prList [prOf name.data.toList, n, (l.getD n.toNat (0, 0, name)).1]) else none
def tagR (l : List Vr) (t : Tg) : Bool := decide (makeTag l t.1 t.2.1 = some t)
def rightTags (l : List Vr) (ts : List Tg) : List Tg := ts.filter (tagR l)
theorem makeTag_ok {l : List Vr} {name : ByteArray} {k : Nat} (hw : wordV name.data.toList = true) (hv : versV l = true) (hk : k < l.length) : makeTag l name k = some (name, (k : Int), l[k].1, prList [prOf name.data.toList, (k : Int), l[k].1]) := by
  have e : l.getD k (0, 0, name) = l[k] := by rw [List.getD_eq_getElem?_getD, List.getElem?_eq_getElem hk]; rfl
  unfold makeTag
  rw [hw, hv, if_pos (by simp; omega), Int.toNat_natCast, e]
theorem makeTag_none {l : List Vr} {name : ByteArray} {n : Int} (h : wordV name.data.toList = false ∨ versV l = false ∨ n < 0 ∨ (l.length : Int) ≤ n) : makeTag l name n = none := by
  unfold makeTag
  rw [if_neg]
  intro hh
  simp only [Bool.and_eq_true, decide_eq_true_eq] at hh
  rcases h with h | h | h | h
  · rw [h] at hh; cases hh.1.1
  · rw [h] at hh; cases hh.1.2
  · omega
  · omega
theorem makeTag_some {l : List Vr} {name : ByteArray} {n : Int} {t : Tg} (h : makeTag l name n = some t) : ∃ (k : Nat) (hk : k < l.length), n = k ∧ wordV name.data.toList = true ∧ versV l = true ∧ t = (name, (k : Int), l[k].1, prList [prOf name.data.toList, (k : Int), l[k].1]) := by
  by_cases hh : (wordV name.data.toList && versV l && decide (0 ≤ n ∧ n < l.length)) = true
  · simp only [Bool.and_eq_true, decide_eq_true_eq] at hh
    obtain ⟨⟨h1, h2⟩, h3⟩ := hh
    obtain ⟨k, rfl⟩ := Int.eq_ofNat_of_zero_le h3.1
    have hk : k < l.length := by omega
    have h4 := makeTag_ok h1 h2 hk
    rw [h4] at h
    injection h with h
    exact ⟨k, hk, rfl, h1, h2, h.symm⟩
  · unfold makeTag at h
    rw [if_neg hh] at h; cases h
theorem tagR_iff {l : List Vr} {t : Tg} : tagR l t = true ↔ makeTag l t.1 t.2.1 = some t := by unfold tagR; exact decide_eq_true_iff
/-- A made tag is right. -/
theorem tagR_made {l : List Vr} {name : ByteArray} {n : Int} {t : Tg} (h : makeTag l name n = some t) : tagR l t = true ∧ t.1 = name ∧ t.2.1 = n := by
  obtain ⟨k, hk, rfl, h1, h2, rfl⟩ := makeTag_some h
  exact ⟨tagR_iff.2 h, rfl, rfl⟩
/-- With another seal a right tag is wrong. -/
theorem tagR_seal {l : List Vr} {a : ByteArray} {n r s s' : Int} (h : tagR l (a, n, r, s) = true) (hne : s' ≠ s) : tagR l (a, n, r, s') = false := by
  cases h2 : tagR l (a, n, r, s')
  · rfl
  · have h1 := tagR_iff.1 h
    have h2 := tagR_iff.1 h2
    simp only at h1 h2
    rw [h1] at h2
    injection h2 with h2
    injection h2 with _ h2
    injection h2 with _ h2
    injection h2 with _ h2
    exact absurd h2.symm hne
theorem versV_snoc {l : List Vr} {v : Vr} (hl : versV l = true) : versV (l ++ [v]) = (decide (l.length < 12) && verAt l.length v) := by
  unfold versV at *
  rw [Bool.and_eq_true] at hl
  rw [versFrom_append, hl.2, List.length_append]
  simp [versFrom]
  congr 1
  rw [decide_eq_decide]; omega
/-- A right tag stays right when a version is added. -/
theorem tagR_stays {l : List Vr} {v : Vr} {t : Tg} (hl : versV (l ++ [v]) = true) (h : tagR l t = true) : tagR (l ++ [v]) t = true := by
  obtain ⟨k, hk, h1, h2, h3, h4⟩ := makeTag_some (tagR_iff.1 h)
  refine tagR_iff.2 ?_
  rw [h1, makeTag_ok h2 hl (by simp; omega), List.getElem_append_left hk]
  exact congrArg some h4.symm
theorem rightTags_idem (l : List Vr) (ts : List Tg) : rightTags l (rightTags l ts) = rightTags l ts := by
  unfold rightTags; rw [List.filter_filter]; simp
end Go.Proofs.YtedcgbmdfmgcgaaGreatDoor

/- Files below a root, sizes, quotas, archives, in plain Lean. No program in sight. -/
set_option linter.unusedVariables false
namespace Go.Proofs.YtedcgbmdfmgcgaaGreatDoor
--BEGIN
/-! ### files -/
def filesP (s : List Pc) : Nat → Int → List Bs → List Bs
  | 0, _, _ => []
  | f + 1, p, ps => ((folderOf s p).getD []).flatMap fun e => if (fileOf s e.2).isSome then [joinP (ps ++ [tx e.1])] else filesP s f e.2 (ps ++ [tx e.1])
def allF (s : List Pc) (root : Int) : List Bs := if storeV s then filesP s 3 root [] else []
def specF (s : List Pc) (p : Int) (ps : List Bs) : List Bs := if (fileOf s p).isSome && !ps.isEmpty then [joinP ps] else filesP s (3 - ps.length) p ps
def contentAt (s : List Pc) (root : Int) (path : Bs) : Bs := (readAt s root path).getD []
def sizeOf' (s : List Pc) (root : Int) (l : List Bs) : Int := l.foldl (fun n p => n + ((contentAt s root p).length : Int)) 0
def totalP (s : List Pc) (root : Int) : Int := sizeOf' s root (allF s root)
def usedP (s : List Pc) (root : Int) (path : Bs) : Int := if (pathP path).isSome && storeV s then sizeOf' s root ((allF s root).filter fun f => belowP f path) else -1
abbrev Qt := ByteArray × Int
def encQ (q : Qt) : List Value := [.string q.1, .int .i64 q.2]
def quoAt (l : List Qt) (k : Nat) : Bool := match l[k]? with | some q => (pathP (tx q.1)).isSome && inI q.2 0 1000 && !((l.take k).any fun o => tx o.1 == tx q.1) | none => true
def quoV (l : List Qt) : Bool := decide (l.length ≤ 6) && (List.range l.length).all (quoAt l)
def overP (s : List Pc) (root : Int) (l : List Qt) : List Bs := if quoV l && storeV s then (l.filter fun q => decide (usedP s root (tx q.1) > q.2)).map fun q => tx q.1 else []

/-! ### archives -/
structure Ar where
  ps : List Pc
  op : Int
  vs : List Vr
def archV (a : Ar) : Bool := storeV a.ps && (versV a.vs && ((folderOf a.ps a.op).isSome && a.vs.all fun v => (folderOf a.ps v.1).isSome))
def newA (s : List Pc) : Ar × Bool := if (putT s (mk (foldT []))).2.2 then (⟨(putT s (mk (foldT []))).1, (putT s (mk (foldT []))).2.1, []⟩, true) else (⟨[], 0, []⟩, false)
def addV (l : List Vr) (v : Vr) : List Vr × Bool := if versV l then (if versV (l ++ [v]) then (l ++ [v], true) else (l, false)) else ([], false)
def joinW (c : Bs) : List Bs → Bs
  | [] => []
  | [p] => p
  | p :: r => p ++ c ++ joinW c r
def filesAns (a : Ar) : Bs := if allF a.ps a.op = [] then [110, 111, 110, 101] else joinW [32] (allF a.ps a.op)
def wWrite : Bs := [119, 114, 105, 116, 101]
def wDrop : Bs := [100, 114, 111, 112]
def wKeep : Bs := [107, 101, 101, 112]
def wBack : Bs := [98, 97, 99, 107]
def wRead : Bs := [114, 101, 97, 100]
def wFiles : Bs := [102, 105, 108, 101, 115]
def wOk : Bs := [111, 107]
def wNo : Bs := [110, 111]
def lineA (a : Ar) (ws : List Bs) : Ar × Bs :=
  match ws with
  | [x, p, c] => if x = wWrite then (match writeA a.ps a.op p c with | (s, r, true) => (⟨s, r, a.vs⟩, wOk) | _ => (a, wNo)) else (a, wNo)
  | [x, p] =>
    if x = wDrop then (match dropA a.ps a.op p with | (s, r, true) => (⟨s, r, a.vs⟩, wOk) | _ => (a, wNo))
    else if x = wKeep then (match addV a.vs (a.op, (a.vs.length : Int) - 1, mk p) with | (v, true) => (⟨a.ps, a.op, v⟩, wOk) | _ => (a, wNo))
    else if x = wBack then (if 0 ≤ readH p ∧ readH p < a.vs.length then (⟨a.ps, ((a.vs.getD (readH p).toNat (0, 0, ⟨#[]⟩)).1), a.vs⟩, wOk) else (a, wNo))
    else if x = wRead then (match readAt a.ps a.op p with | some t => (a, 61 :: t) | none => (a, wNo))
    else (a, wNo)
  | [x] => if x = wFiles then (a, filesAns a) else (a, wNo)
  | _ => (a, wNo)
def archL (a : Ar) (line : Bs) : Ar × Bs := if archV a then lineA a (splitS 32 line) else (⟨[], 0, []⟩, [])
def archLs : Ar → List Bs → Ar × List Bs
  | a, [] => (a, [])
  | a, l :: r => ((archLs (archL a l).1 r).1, (archL a l).2 :: (archLs (archL a l).1 r).2)
def archM (a : Ar) (ls : List Bs) : Ar × List Bs := if archV a && decide (ls.length ≤ 12) then archLs a ls else (⟨[], 0, []⟩, [])
--END
end Go.Proofs.YtedcgbmdfmgcgaaGreatDoor

/- Walks by names, files below a root: plain lemmas for the walks of the code. -/
set_option linter.unusedVariables false
namespace Go.Proofs.YtedcgbmdfmgcgaaGreatDoor
open Go.RowKit
def walkB (s : List Pc) (p : Int) (l : List ByteArray) : Option Int := walkP s p (l.map tx)
theorem walkB_step {s : List Pc} {p : Int} {l : List ByteArray} {k : Nat} (hk : k < l.length) :
    walkB s p (l.drop k) = (folderOf s p).bind fun e => (getE e (tx l[k])).bind fun q => walkB s q (l.drop (k + 1)) := by
  rw [List.drop_eq_getElem_cons hk]; rfl
theorem walkB_none {s : List Pc} {p : Int} {l : List ByteArray} {k : Nat} (hk : k < l.length) (h : folderOf s p = none) : walkB s p (l.drop k) = none := by
  rw [walkB_step hk, h]; rfl
theorem walkB_miss {s : List Pc} {p : Int} {l : List ByteArray} {k : Nat} {e : List En} (hk : k < l.length) (h : folderOf s p = some e) (h2 : getE e (tx l[k]) = none) : walkB s p (l.drop k) = none := by
  rw [walkB_step hk, h, Option.bind_some, h2]; rfl
theorem walkB_next {s : List Pc} {p q : Int} {l : List ByteArray} {k : Nat} {e : List En} (hk : k < l.length) (h : folderOf s p = some e) (h2 : getE e (tx l[k]) = some q) : walkB s p (l.drop k) = walkB s q (l.drop (k + 1)) := by
  rw [walkB_step hk, h, Option.bind_some, h2]; rfl
theorem walkB_end {s : List Pc} {p : Int} {l : List ByteArray} {k : Nat} (hk : l.length ≤ k) : walkB s p (l.drop k) = if (getT s p).isSome then some p else none := by
  rw [List.drop_eq_nil_of_le hk]; rfl
theorem walkTo_path {s : List Pc} {root : Int} {path : Bs} (h : pathP path = none) : walkTo s root path = none := by
  unfold walkTo; rw [h]; split <;> rfl
theorem walkTo_store {s : List Pc} {root : Int} {path : Bs} (h : storeV s = false) : walkTo s root path = none := by
  unfold walkTo; rw [h]; rfl
theorem walkTo_yes {s : List Pc} {root : Int} {path : Bs} {ps : List Bs} {l : List ByteArray} (h : storeV s = true) (h2 : pathP path = some ps) (hl : l = ps.map mk) : walkTo s root path = walkB s root (l.drop 0) := by
  subst hl
  unfold walkTo walkB
  rw [h, if_pos rfl, h2, Option.bind_some, List.drop_zero, List.map_map]
  congr 1
  exact (List.map_id' _).symm
theorem getE_find {l : List En} {n : Bs} {k : Nat} (hk : k < l.length) (h : ∀ j (h : j < l.length), j < k → tx l[j].1 ≠ n) (he : tx l[k].1 = n) : getE l n = some l[k].2 := by
  unfold getE
  have : l.find? (fun x => tx x.1 == n) = some l[k] := by
    rw [List.find?_eq_some_iff_getElem]
    refine ⟨by simpa using he, k, hk, rfl, fun j hj => ?_⟩
    have := h j (by omega) hj
    simpa using this
  rw [this]; rfl
theorem getE_end {l : List En} {n : Bs} (h : ∀ j (h : j < l.length), tx l[j].1 ≠ n) : getE l n = none := by
  refine getE_none_iff.2 fun x hx => ?_
  obtain ⟨i, hi, rfl⟩ := List.getElem_of_mem hx
  exact h i hi
/-! ### files below -/
def stepF (s : List Pc) (f : Nat) (ps : List Bs) (e : En) : List Bs := if (fileOf s e.2).isSome then [joinP (ps ++ [tx e.1])] else filesP s f e.2 (ps ++ [tx e.1])
theorem filesP_succ (s : List Pc) (f : Nat) (p : Int) (ps : List Bs) : filesP s (f + 1) p ps = ((folderOf s p).getD []).flatMap (stepF s f ps) := rfl
def accF (s : List Pc) (f : Nat) (ps : List Bs) (l : List En) (k : Nat) : List ByteArray := ((l.take k).flatMap (stepF s f ps)).map mk
theorem accF_zero (s : List Pc) (f : Nat) (ps : List Bs) (l : List En) : accF s f ps l 0 = [] := rfl
theorem accF_next {s : List Pc} {f : Nat} {ps : List Bs} {l : List En} {k : Nat} (hk : k < l.length) : accF s f ps l (k + 1) = accF s f ps l k ++ (stepF s f ps l[k]).map mk := by
  unfold accF
  rw [← List.take_append_getElem hk, List.flatMap_append, List.map_append]
  congr 2
  simp
theorem accF_all {s : List Pc} {f : Nat} {ps : List Bs} {l : List En} {k : Nat} (hk : l.length ≤ k) : accF s f ps l k = (l.flatMap (stepF s f ps)).map mk := by
  unfold accF; rw [List.take_of_length_le hk]
theorem folder_len {s : List Pc} {p : Int} : ((folderOf s p).getD []).length ≤ 3 := by
  cases h : folderOf s p with
  | none => simp
  | some l => exact entsV_len (folder_valid h)
theorem flatMap_len {α β : Type} (g : α → List β) (n : Nat) : ∀ l : List α, (∀ x ∈ l, (g x).length ≤ n) → (l.flatMap g).length ≤ n * l.length
  | [], _ => by simp
  | x :: r, h => by
    have h1 := h x (by simp)
    have h2 := flatMap_len g n r fun y hy => h y (by simp [hy])
    rw [List.flatMap_cons, List.length_append, List.length_cons, Nat.mul_succ]; omega
theorem filesP_len (s : List Pc) : ∀ (f : Nat) (p : Int) (ps : List Bs), (filesP s f p ps).length ≤ 3 ^ f
  | 0, _, _ => by simp [filesP]
  | f + 1, p, ps => by
    rw [filesP_succ]
    have h1 := flatMap_len (stepF s f ps) (3 ^ f) ((folderOf s p).getD []) fun e _ => by
      unfold stepF
      have hp : 0 < 3 ^ f := Nat.pow_pos (by omega)
      split
      · exact hp
      · exact filesP_len s f _ _
    have h2 := folder_len (s := s) (p := p)
    rw [Nat.pow_succ]
    exact Nat.le_trans h1 (Nat.mul_le_mul_left _ h2)
theorem stepF_len (s : List Pc) (f : Nat) (ps : List Bs) (e : En) : (stepF s f ps e).length ≤ 3 ^ f := by
  unfold stepF
  have hp : 0 < 3 ^ f := Nat.pow_pos (by omega)
  split
  · exact hp
  · exact filesP_len s f _ _
theorem accF_len {s : List Pc} {f : Nat} {ps : List Bs} {l : List En} {k : Nat} (h : l.length ≤ 3) : (accF s f ps l k).length ≤ 3 ^ f * 3 := by
  unfold accF
  rw [List.length_map]
  refine Nat.le_trans (flatMap_len _ (3 ^ f) _ fun e _ => stepF_len s f ps e) (Nat.mul_le_mul_left _ ?_)
  rw [List.length_take]; omega
theorem joinB_len : ∀ (ps : List Bs), (∀ p ∈ ps, wordV p = true) → (joinB ps).length ≤ 9 * ps.length
  | [], _ => by simp [joinB]
  | p :: r, h => by
    have h1 := h p (by simp)
    have h2 := joinB_len r fun x hx => h x (by simp [hx])
    unfold wordV at h1
    rw [Bool.and_eq_true, Bool.and_eq_true, decide_eq_true_eq] at h1
    unfold joinB at h2 ⊢
    rw [List.flatMap_cons, List.length_append, List.length_cons, List.length_cons]; omega
theorem joinP_len (ps : List Bs) : (joinP ps).length ≤ 27 := by
  unfold joinP
  split
  · rename_i h
    obtain ⟨h1, h2⟩ := partsV_iff.1 h
    split
    · simp
    · have := joinB_len ps h2; omega
  · simp
theorem filesP_size (s : List Pc) : ∀ (f : Nat) (p : Int) (ps : List Bs), ∀ x ∈ filesP s f p ps, x.length ≤ 27
  | 0, _, _, x, hx => by cases hx
  | f + 1, p, ps, x, hx => by
    rw [filesP_succ] at hx
    obtain ⟨e, _, hx⟩ := List.mem_flatMap.1 hx
    unfold stepF at hx
    split at hx
    · rw [List.mem_singleton] at hx; subst hx; exact joinP_len _
    · exact filesP_size s f _ _ x hx
theorem allF_len (s : List Pc) (root : Int) : (allF s root).length ≤ 27 := by
  unfold allF; split
  · exact filesP_len s 3 root []
  · simp
theorem allF_size (s : List Pc) (root : Int) : ∀ x ∈ allF s root, x.length ≤ 27 := by
  unfold allF; split
  · exact filesP_size s 3 root []
  · simp
/-! ### the reference's files -/
theorem specF_file {s : List Pc} {p : Int} {ps : List Bs} (h : (fileOf s p).isSome = true) (hp : ps ≠ []) : specF s p ps = [joinP ps] := by
  unfold specF
  rw [h, if_pos]; cases ps with
  | nil => exact absurd rfl hp
  | cons => rfl
theorem specF_long {s : List Pc} {p : Int} {ps : List Bs} (h : (fileOf s p).isSome = false ∨ ps = []) (hl : 3 ≤ ps.length) : specF s p ps = [] := by
  unfold specF
  rw [if_neg]
  · rw [show 3 - ps.length = 0 by omega]; rfl
  · rcases h with h | h
    · rw [h]; simp
    · subst h; simp
theorem specF_step {s : List Pc} {ps : List Bs} {e : En} (hl : ps.length < 3) : specF s e.2 (ps ++ [tx e.1]) = stepF s (2 - ps.length) ps e := by
  unfold specF stepF
  rw [show (ps ++ [tx e.1]).isEmpty = false by cases ps <;> rfl, List.length_append, List.length_singleton, show 3 - (ps.length + 1) = 2 - ps.length by omega]
  simp
theorem specF_folder {s : List Pc} {p : Int} {ps : List Bs} (h : (fileOf s p).isSome = false ∨ ps = []) (hl : ps.length < 3) : specF s p ps = ((folderOf s p).getD []).flatMap (stepF s (2 - ps.length) ps) := by
  unfold specF
  rw [if_neg]
  · rw [show 3 - ps.length = (2 - ps.length) + 1 by omega]; rfl
  · rcases h with h | h
    · rw [h]; simp
    · subst h; simp
theorem specF_root (s : List Pc) (root : Int) : specF s root [] = filesP s 3 root [] := by
  unfold specF; simp
theorem specF_len (s : List Pc) (p : Int) (ps : List Bs) : (specF s p ps).length ≤ 27 := by
  unfold specF; split
  · simp
  · refine Nat.le_trans (filesP_len s _ p ps) ?_
    exact Nat.pow_le_pow_right (n := 3) (by omega) (show 3 - ps.length ≤ 3 by omega)
end Go.Proofs.YtedcgbmdfmgcgaaGreatDoor

/- Words of a text, and repaired pieces, in plain Lean. -/
set_option linter.unusedVariables false
namespace Go.Proofs.YtedcgbmdfmgcgaaGreatDoor

def addW (acc : List Bs) (w : Bs) : List Bs := if wordV w && !acc.contains w then acc ++ [w] else acc
/-- The parts between spaces; 'cur' is what of the first part was read. -/
def spl : Bs → Bs → List Bs
  | cur, [] => [cur]
  | cur, c :: r => if c = 32 then cur :: spl [] r else spl (cur ++ [c]) r
def wordsOf (s : Bs) : List Bs := if textV s then (spl [] s).foldl addW [] else []
/-- The reference's way: byte by byte. -/
def wrun : List Bs → Bs → Bs → List Bs × Bs
  | out, w, [] => (out, w)
  | out, w, c :: r => if c = 32 then wrun (addW out w) [] r else wrun out (w ++ [c]) r
theorem wrun_spl : ∀ (r : Bs) (out : List Bs) (w : Bs), addW (wrun out w r).1 (wrun out w r).2 = (spl w r).foldl addW out
  | [], out, w => rfl
  | c :: r, out, w => by
    rw [wrun, spl]
    split
    · rw [wrun_spl r]; rfl
    · rw [wrun_spl r]
theorem wrun_snoc : ∀ (r : Bs) (out : List Bs) (w : Bs) (c : UInt8), wrun out w (r ++ [c]) = if c = 32 then (addW (wrun out w r).1 (wrun out w r).2, []) else ((wrun out w r).1, (wrun out w r).2 ++ [c])
  | [], out, w, c => by simp only [List.nil_append, wrun]
  | d :: r, out, w, c => by
    rw [List.cons_append, wrun, wrun]
    split
    · exact wrun_snoc r _ _ c
    · exact wrun_snoc r _ _ c
/-- All valid, none twice. -/
def WordsOk (l : List Bs) : Prop := (∀ w ∈ l, wordV w = true) ∧ l.Nodup
theorem addW_ok {l : List Bs} (w : Bs) (h : WordsOk l) : WordsOk (addW l w) := by
  unfold addW
  split
  · rename_i hh
    simp only [Bool.and_eq_true, Bool.not_eq_true', List.contains_eq_mem, decide_eq_false_iff_not] at hh
    refine ⟨fun x hx => ?_, ?_⟩
    · rw [List.mem_append, List.mem_singleton] at hx
      rcases hx with hx | rfl
      · exact h.1 x hx
      · exact hh.1
    · rw [List.nodup_append]
      refine ⟨h.2, by simp, fun a ha b hb => ?_⟩
      rw [List.mem_singleton] at hb; subst hb
      rintro rfl
      exact hh.2 ha
  · exact h
theorem foldl_ok : ∀ (ps : List Bs) (l : List Bs), WordsOk l → WordsOk (ps.foldl addW l)
  | [], l, h => h
  | p :: ps, l, h => foldl_ok ps _ (addW_ok p h)
theorem wordsOf_ok (s : Bs) : WordsOk (wordsOf s) := by
  unfold wordsOf
  split
  · exact foldl_ok _ _ ⟨by simp, List.nodup_nil⟩
  · exact ⟨by simp, List.nodup_nil⟩
theorem spl_append : ∀ (r : Bs) (cur q : Bs), spl cur (r ++ 32 :: q) = spl cur r ++ spl [] q
  | [], cur, q => by simp [spl]
  | c :: r, cur, q => by
    rw [List.cons_append, spl, spl]
    split
    · rw [spl_append r]; rfl
    · rw [spl_append r]
theorem wordsOf_zoo {s : Bs} (h : textV (s ++ [32, 122, 111, 111]) = true) : textV s = true ∧ wordsOf (s ++ [32, 122, 111, 111]) = addW (wordsOf s) [122, 111, 111] := by
  have hs : textV s = true := by
    unfold textV at *
    rw [Bool.and_eq_true, decide_eq_true_eq] at *
    rw [List.all_append, Bool.and_eq_true] at h
    refine ⟨?_, h.2.1⟩
    have := h.1; simp at this; omega
  refine ⟨hs, ?_⟩
  unfold wordsOf
  rw [if_pos h, if_pos hs, spl_append, List.foldl_append]
  rfl
theorem spl_len : ∀ (r cur : Bs), (spl cur r).length ≤ r.length + 1
  | [], cur => by simp [spl]
  | c :: r, cur => by
    rw [spl]; split
    · have := spl_len r []; simp; omega
    · have := spl_len r (cur ++ [c]); simp; omega
theorem foldl_len : ∀ (ps l : List Bs), (ps.foldl addW l).length ≤ l.length + ps.length
  | [], l => by simp
  | p :: ps, l => by
    have := foldl_len ps (addW l p)
    have h2 : (addW l p).length ≤ l.length + 1 := by unfold addW; split <;> simp
    simp only [List.foldl_cons, List.length_cons]; omega
theorem textV_le {s : Bs} (h : textV s = true) : s.length ≤ 60 := by
  unfold textV at h; rw [Bool.and_eq_true] at h; simpa using h.1
theorem wordsOf_len (s : Bs) : (wordsOf s).length ≤ 61 := by
  unfold wordsOf; split
  · rename_i h
    have h1 := foldl_len (spl [] s) []
    have h2 := spl_len s []
    have h3 := textV_le h
    simp at h1; omega
  · simp
/-- Every part is no longer than the text. -/
theorem spl_short : ∀ (r cur : Bs), ∀ p ∈ spl cur r, p.length ≤ cur.length + r.length
  | [], cur, p, h => by simp [spl] at h; subst h; simp
  | c :: r, cur, p, h => by
    rw [spl] at h
    split at h
    · rw [List.mem_cons] at h
      rcases h with rfl | h
      · omega
      · have := spl_short r [] p h; simp at this ⊢; omega
    · have := spl_short r _ p h; simp at this ⊢; omega
def commonW (a b : Bs) : List Bs := (wordsOf a).filter fun w => (wordsOf b).contains w
theorem commonW_self (a : Bs) : commonW a a = wordsOf a := by
  unfold commonW; rw [List.filter_eq_self]; intro w hw; simpa using hw
theorem commonW_len (a b : Bs) : (commonW a b).length = (commonW b a).length := by
  have h1 := wordsOf_ok a
  have h2 := wordsOf_ok b
  have hp : (commonW a b).Perm (commonW b a) := by
    refine (List.perm_ext_iff_of_nodup (h1.2.filter _) (h2.2.filter _)).2 fun w => ?_
    simp only [List.mem_filter, List.contains_eq_mem, decide_eq_true_eq]
    exact And.comm
  exact hp.length_eq
theorem commonW_le (a b : Bs) : (commonW a b).length ≤ (wordsOf a).length := List.length_filter_le _ _
end Go.Proofs.YtedcgbmdfmgcgaaGreatDoor

/- Cutting a text at a byte, in plain Lean: the library's words and ours. -/
set_option linter.unusedVariables false
namespace Go.Proofs.YtedcgbmdfmgcgaaGreatDoor
open Go.Lib (splitK index indexByte)
theorem index_hit (x : UInt8) (r : Bs) : index (x :: r) [x] = 0 := by rw [Go.Lib.index_one, indexByte]; simp
theorem index_skip {x c : UInt8} (h : c ≠ x) (r : Bs) : index (c :: r) [x] = if index r [x] == -1 then -1 else index r [x] + 1 := by
  rw [Go.Lib.index_one, Go.Lib.index_one, indexByte]
  have : (c == x) = false := by simpa using h
  rw [this]; simp
theorem index_nil (x : UInt8) : index [] [x] = -1 := rfl
theorem splitK_hit (x : UInt8) (k : Nat) (r : Bs) : splitK [x] 0 (k + 1) (x :: r) = [] :: splitK [x] 0 k r := by
  rw [splitK, index_hit]; rfl
theorem splitK_ne (x : UInt8) : ∀ (k : Nat) (s : Bs), splitK [x] 0 k s ≠ []
  | 0, s => by simp [splitK]
  | k + 1, s => by rw [splitK]; split <;> simp
/-- One byte more ahead, which is not the one at which it is cut. -/
def onHead (c : UInt8) : List Bs → List Bs
  | [] => []
  | p :: ps => (c :: p) :: ps
theorem splitK_skip {x c : UInt8} (h : c ≠ x) : ∀ (k : Nat) (r : Bs), splitK [x] 0 k (c :: r) = onHead c (splitK [x] 0 k r)
  | 0, r => rfl
  | k + 1, r => by
    have hge := Go.Lib.index_ge r [x]
    rw [splitK, splitK, index_skip h]
    by_cases e : index r [x] = -1
    · simp [e, onHead]
    · have e1 : (index r [x] == -1) = false := by simpa using e
      have e2 : (index r [x] + 1 == -1) = false := by simp; omega
      rw [e1]
      simp only [Bool.false_eq_true, if_false, e2]
      have e3 : (index r [x] + 1).toNat = (index r [x]).toNat + 1 := by omega
      rw [e3]
      simp [onHead]
theorem index_count (x : UInt8) : ∀ (s : Bs), (index s [x] = -1 → s.count x = 0) ∧ (∀ i : Nat, index s [x] = i → i < s.length ∧ s.count x = 1 + (s.drop (i + 1)).count x)
  | [] => ⟨fun _ => rfl, fun i h => by rw [index_nil] at h; omega⟩
  | c :: r => by
    have ih := index_count x r
    have hge := Go.Lib.index_ge r [x]
    by_cases e : c = x
    · subst e
      rw [index_hit]
      refine ⟨fun h => by omega, fun i h => ?_⟩
      have : i = 0 := by omega
      subst this
      simp; omega
    · rw [index_skip e, List.count_cons_of_ne (by simpa using e)]
      by_cases e2 : index r [x] = -1
      · rw [e2]
        refine ⟨fun _ => ih.1 e2, fun i h => ?_⟩
        simp at h
      · have e3 : (index r [x] == -1) = false := by simpa using e2
        rw [e3]
        simp only [Bool.false_eq_true, if_false]
        refine ⟨fun h => by omega, fun i h => ?_⟩
        obtain ⟨j, hj⟩ := Int.eq_ofNat_of_zero_le (show 0 ≤ index r [x] by omega)
        have h2 := ih.2 j hj
        have : i = j + 1 := by omega
        subst this
        simp only [List.length_cons, List.drop_succ_cons]
        exact ⟨by omega, h2.2⟩
theorem countFrom_one (x : UInt8) : ∀ (f : Nat) (s : Bs), s.length < f → Go.Lib.countFrom [x] f s = s.count x
  | 0, s, h => by omega
  | f + 1, s, h => by
    rw [Go.Lib.countFrom]
    have hc := index_count x s
    have hge := Go.Lib.index_ge s [x]
    by_cases e : index s [x] = -1
    · rw [e, hc.1 e]; rfl
    · have e2 : (index s [x] == -1) = false := by simpa using e
      rw [e2]
      simp only [Bool.false_eq_true, if_false]
      obtain ⟨j, hj⟩ := Int.eq_ofNat_of_zero_le (show 0 ≤ index s [x] by omega)
      have h2 := hc.2 j hj
      rw [hj, Int.toNat_natCast, h2.2]
      congr 1
      exact countFrom_one x f _ (by simp; omega)
theorem count_one (s : Bs) (x : UInt8) : Go.Lib.count s [x] = s.count x := countFrom_one x _ s (by omega)
theorem spl_splitK : ∀ (s : Bs) (k : Nat) (cur : Bs), s.count 32 ≤ k → spl cur s = match splitK [32] 0 k s with | p :: ps => (cur ++ p) :: ps | [] => []
  | [], k, cur, _ => by
    cases k <;> simp [splitK, spl, index_nil]
  | c :: r, k, cur, h => by
    rw [spl]
    by_cases e : c = 32
    · subst e
      rw [if_pos rfl]
      cases k with
      | zero => simp at h
      | succ k =>
        rw [splitK_hit]
        have ih := spl_splitK r k [] (by simp at h; omega)
        rw [ih]
        cases hs : splitK [32] 0 k r with
        | nil => exact absurd hs (splitK_ne _ _ _)
        | cons p ps => simp
    · rw [if_neg e]
      have ih := spl_splitK r k (cur ++ [c]) (by rw [List.count_cons_of_ne (by simpa using e)] at h; exact h)
      rw [ih, splitK_skip e]
      cases hs : splitK [32] 0 k r with
      | nil => exact absurd hs (splitK_ne _ _ _)
      | cons p ps => simp [onHead]
theorem split_spl (s : Bs) : splitK [32] 0 (Go.Lib.count s [32]) s = spl [] s := by
  have h := spl_splitK s (Go.Lib.count s [32]) [] (by rw [count_one]; exact Nat.le_refl _)
  rw [h]
  cases hs : splitK [32] 0 (Go.Lib.count s [32]) s with
  | nil => exact absurd hs (splitK_ne _ _ _)
  | cons p ps => simp
theorem spl_count : ∀ (r cur : Bs), (spl cur r).length = r.count 32 + 1
  | [], cur => by simp [spl]
  | c :: r, cur => by
    rw [spl]
    by_cases e : c = 32
    · subst e; rw [if_pos rfl, List.length_cons, spl_count r []]; simp
    · rw [if_neg e, spl_count r, List.count_cons_of_ne (by simpa using e)]
/-- The library's pieces, as texts. -/
theorem splitB_spl (s : ByteArray) : Go.Lib.splitB ⟨#[32]⟩ 0 (Go.Lib.countB s ⟨#[32]⟩) s = (spl [] s.data.toList).map mk := by
  have h := Go.Lib.splitB_data ⟨#[32]⟩ 0 (Go.Lib.countB s ⟨#[32]⟩) s
  have h2 : (Go.Lib.splitB ⟨#[32]⟩ 0 (Go.Lib.countB s ⟨#[32]⟩) s).map (·.data.toList) = spl [] s.data.toList := by
    rw [h]; exact split_spl _
  rw [← h2, List.map_map]
  have e : (mk ∘ fun x : ByteArray => x.data.toList) = id := by funext x; exact mk_bs x
  rw [e, List.map_id]
theorem countB_spl (s : ByteArray) : Go.Lib.countB s ⟨#[32]⟩ + 1 = (spl [] s.data.toList).length := by
  rw [spl_count]; show Go.Lib.count s.data.toList [32] + 1 = _; rw [count_one]
end Go.Proofs.YtedcgbmdfmgcgaaGreatDoor

/- Dropping and writing: how the program goes, and how the reference goes, in plain Lean. No program in sight. -/
set_option linter.unusedVariables false
namespace Go.Proofs.YtedcgbmdfmgcgaaGreatDoor
/-! ### what a way of folders holds -/
/-- Every name is in its folder, and folders are valid. -/
def OnWay : List (List En) → List Bs → Prop
  | [], [] => True
  | l :: fs, n :: ns => entsV l = true ∧ hereE l n = true ∧ OnWay fs ns
  | _, _ => False
theorem onWay_folds {s : List Pc} : ∀ (ps : List Bs) (p : Int), (walkP s p ps).isSome = true → OnWay (foldsD s p ps) ps
  | [], p, _ => trivial
  | n :: r, p, h => by
    rw [walkP] at h
    cases hf : folderOf s p with
    | none => rw [hf] at h; cases h
    | some l =>
      rw [hf, Option.bind_some] at h
      cases hg : getE l n with
      | none => rw [hg] at h; cases h
      | some q =>
        rw [hg, Option.bind_some] at h
        have hv := folder_valid hf
        rw [foldsD, hf, Option.getD_some]
        refine ⟨hv, ?_, ?_⟩
        · rw [hereE_get (entsV_sorted hv), hg]; rfl
        · rw [hg, Option.getD_some]; exact onWay_folds r q h
theorem hereE_word {l : List En} {n : Bs} (hv : entsV l = true) (h : hereE l n = true) : wordV n = true := by
  rw [hereE_get (entsV_sorted hv)] at h
  obtain ⟨p, hp⟩ := Option.isSome_iff_exists.1 h
  exact (entOk_iff.1 (entsV_ok hv (getE_some hp))).1
theorem foldT_textV (l : List En) : textV (foldT l) = true := by
  unfold foldT; split
  · rename_i h; exact foldB_text h
  · decide
theorem foldT_pv (l : List En) : pv (prOf (foldT l)) = true := prOf_pv (foldT_textV l)
theorem pv_nonneg {p : Int} (h : pv p = true) : 0 ≤ p := by
  unfold pv inI at h; rw [decide_eq_true_eq] at h; exact h.1
theorem putE_way {l : List En} {n : Bs} {q : Int} (hv : entsV l = true) (h : hereE l n = true) (hq : pv q = true) : (putE l (mk n, q)).2 = true ∧ (putE l (mk n, q)).1 ≠ [] ∧ entsV (putE l (mk n, q)).1 = true := by
  have e := putE_here (e := (mk n, q)) hv (entOk_iff.2 ⟨hereE_word hv h, hq⟩) h
  have h2 : (putE l (mk n, q)).2 = true := by rw [e]
  refine ⟨h2, ?_, (putE_ok h2).2.1⟩
  rw [e]
  show insE l (mk n, q) ≠ []
  unfold insE; simp
/-! ### dropping, as the program goes -/
/-- Where the first folder from below that is not empty stands, and what is left in it. -/
def lastD : List (List En) → List Bs → Nat × List En
  | l :: fs, n :: ns => if ns = [] then (0, (dropE l n).1) else if (lastD fs ns).2 = [] then (0, (dropE l n).1) else ((lastD fs ns).1 + 1, (lastD fs ns).2)
  | _, _ => (0, [])
theorem lastD_zero : ∀ (fs : List (List En)) (ns : List Bs), (lastD fs ns).2 = [] → (lastD fs ns).1 = 0
  | [], _, _ => by unfold lastD; rfl
  | _ :: _, [], _ => by unfold lastD; rfl
  | l :: fs, n :: ns, h => by
    rw [lastD] at h ⊢
    split
    · rfl
    · split
      · rfl
      · rename_i h1 h2
        rw [if_neg h1, if_neg h2] at h
        exact absurd h h2
theorem lastD_lt : ∀ (fs : List (List En)) (ns : List Bs), OnWay fs ns → ns ≠ [] → (lastD fs ns).1 < ns.length
  | [], [], _, h => absurd rfl h
  | [], _ :: _, h, _ => h.elim
  | _ :: _, [], h, _ => h.elim
  | l :: fs, n :: ns, h, _ => by
    rw [lastD]
    split
    · simp
    · rename_i h1
      split
      · simp
      · have := lastD_lt fs ns h.2.2 h1
        simp; omega
/-- What the program puts. -/
theorem dT_up : ∀ (fs : List (List En)) (ns : List Bs), OnWay fs ns → ns ≠ [] →
    ((lastD fs ns).2 = [] → dT fs ns = ([], none)) ∧
    ((lastD fs ns).2 ≠ [] → ∃ x, upT (fs.take (lastD fs ns).1) (ns.take (lastD fs ns).1) (prOf (foldT (lastD fs ns).2)) = some x ∧ pv x.2 = true ∧ dT fs ns = (mk (foldT (lastD fs ns).2) :: x.1, some x.2))
  | [], [], _, h => absurd rfl h
  | [], _ :: _, h, _ => h.elim
  | _ :: _, [], h, _ => h.elim
  | l :: fs, n :: ns, h, _ => by
    by_cases h1 : ns = []
    · subst h1
      have e : lastD (l :: fs) [n] = (0, (dropE l n).1) := by rw [lastD, if_pos rfl]
      have ed : dT fs [] = ([], none) := by cases fs <;> rfl
      have ex : ∀ (p : Int), upT ((l :: fs).take 0) (([n] : List Bs).take 0) p = some ([], p) := fun p => rfl
      rw [e]
      refine ⟨fun h2 => ?_, fun h2 => ⟨([], prOf (foldT (dropE l n).1)), ex _, foldT_pv _, ?_⟩⟩
      · rw [dT, ed]
        rw [if_pos (show restD l n none = [] from h2)]
      · rw [dT, ed]
        rw [if_neg (show ¬ restD l n none = [] from h2)]; rfl
    · obtain ⟨i1, i2⟩ := dT_up fs ns h.2.2 h1
      by_cases h2 : (lastD fs ns).2 = []
      · have e : lastD (l :: fs) (n :: ns) = (0, (dropE l n).1) := by rw [lastD, if_neg h1, if_pos h2]
        have ex : ∀ (p : Int), upT ((l :: fs).take 0) ((n :: ns : List Bs).take 0) p = some ([], p) := fun p => rfl
        have ed := i1 h2
        rw [e]
        refine ⟨fun h2 => ?_, fun h2 => ⟨([], prOf (foldT (dropE l n).1)), ex _, foldT_pv _, ?_⟩⟩
        · rw [dT, ed, if_pos (show restD l n none = [] from h2)]
        · rw [dT, ed, if_neg (show ¬ restD l n none = [] from h2)]; rfl
      · have e : lastD (l :: fs) (n :: ns) = ((lastD fs ns).1 + 1, (lastD fs ns).2) := by rw [lastD, if_neg h1, if_neg h2]
        obtain ⟨x, hx, hpx, hd⟩ := i2 h2
        rw [e]
        refine ⟨fun h3 => absurd h3 h2, fun _ => ?_⟩
        obtain ⟨g1, g2, g3⟩ := putE_way h.1 h.2.1 hpx
        refine ⟨(x.1 ++ [mk (foldT (putE l (mk n, x.2)).1)], prOf (foldT (putE l (mk n, x.2)).1)), ?_, foldT_pv _, ?_⟩
        · show upT (l :: fs.take _) (n :: ns.take _) _ = _
          rw [upT, hx, Option.bind_some, if_pos g1]
        · rw [dT, hd]
          rw [if_neg (show ¬ restD l n (some x.2) = [] from g2)]; rfl
/-- Dropping, as the program goes: what is left of the lowest folder first, then the folders above. -/
def dropI (s : List Pc) (fs : List (List En)) (ns : List Bs) : Option (List Pc × Int) :=
  (upT (fs.take (lastD fs ns).1) (ns.take (lastD fs ns).1) (prOf (foldT (lastD fs ns).2))).bind fun x => (putAll s (mk (foldT (lastD fs ns).2) :: x.1)).map fun s' => (s', x.2)
theorem dropP_I {s : List Pc} {root : Int} {ps : List Bs} (hps : ps ≠ []) (hw : (walkP s root ps).isSome = true) : dropP s root ps = dropI s (foldsD s root ps) ps := by
  have ho := onWay_folds ps root hw
  obtain ⟨h1, h2⟩ := dT_up _ _ ho hps
  unfold dropP dropI
  rw [if_pos hw]
  by_cases h : (lastD (foldsD s root ps) ps).2 = []
  · rw [h1 h, h, lastD_zero _ _ h]
    rfl
  · obtain ⟨x, hx, _, hd⟩ := h2 h
    rw [hx, hd]
    rfl
/-! ### dropping, as the reference goes -/
theorem dropS_nil (s : List Pc) : dropS s [] [] = some (s, -1) := rfl
theorem dT_pv : ∀ (fs : List (List En)) (ns : List Bs) (p : Int), (dT fs ns).2 = some p → pv p = true
  | [], _, p, h => by unfold dT at h; cases h
  | _ :: _, [], p, h => by unfold dT at h; cases h
  | l :: fs, n :: ns, p, h => by
    rw [dT] at h
    split at h
    · cases h
    · injection h with h; subst h; exact foldT_pv _
theorem dropS_cons (s : List Pc) (l : List En) (fs : List (List En)) (n : Bs) (ns : List Bs) : dropS s (l :: fs) (n :: ns) = (dropS s fs ns).bind (dropUp l n) := by
  unfold dropS
  have hp := dT_pv fs ns
  have e : (if (dT fs ns).2.getD (-1) < 0 then none else some ((dT fs ns).2.getD (-1))) = (dT fs ns).2 := by
    cases h : (dT fs ns).2 with
    | none => rfl
    | some p =>
      have := pv_nonneg (hp p h)
      rw [Option.getD_some, if_neg (by omega)]
  rw [dT]
  cases hput : putAll s (dT fs ns).1 with
  | none =>
    split
    · rw [hput]; rfl
    · show (putAll s ((dT fs ns).1 ++ _)).map _ = _
      rw [putAll_append, hput]; rfl
  | some s1 =>
    simp only [Option.map_some, Option.bind_some]
    unfold dropUp
    simp only [e]
    split
    · rw [hput]; rfl
    · show (putAll s ((dT fs ns).1 ++ _)).map _ = _
      rw [putAll_append, hput, Option.bind_some, putAll_one]
      split <;> rfl
theorem dropP_S {s : List Pc} {root : Int} {ps : List Bs} (hw : (walkP s root ps).isSome = true) :
    dropP s root ps = (dropS s (foldsD s root ps) ps).bind fun x => if x.2 < 0 then (if (putT x.1 (mk (foldT []))).2.2 then some ((putT x.1 (mk (foldT []))).1, prOf (foldT [])) else none) else some x := by
  unfold dropP dropS
  rw [if_pos hw]
  have hp := dT_pv (foldsD s root ps) ps
  cases h : (dT (foldsD s root ps) ps).2 with
  | none =>
    unfold dropTs
    rw [h]
    simp only
    rw [putAll_append]
    cases putAll s (dT (foldsD s root ps) ps).1 with
    | none => rfl
    | some s1 =>
      simp only [Option.bind_some, Option.map_some, Option.getD_none]
      rw [if_pos (by omega), putAll_one]
      split <;> rfl
  | some p =>
    have := pv_nonneg (hp p h)
    unfold dropTs
    rw [h]
    simp only
    cases putAll s (dT (foldsD s root ps) ps).1 with
    | none => rfl
    | some s1 =>
      simp only [Option.bind_some, Option.map_some, Option.getD_some]
      rw [if_neg (by omega)]
/-! ### the folders to write, as the program goes -/
def foldsL (s : List Pc) : Option Int → List Bs → Option (List (List En))
  | a, [] => if leafOk s a then some [] else none
  | a, n :: r => (listAt s a).bind fun l => (foldsL s (getE l n) r).map fun fs => l :: fs
theorem foldsW_L (s : List Pc) : ∀ (r : List Bs) (a : Option Int) (n : Bs), foldsW s a (n :: r) = foldsL s a (n :: r)
  | [], a, n => by
    rw [foldsW, foldsL]
    cases listAt s a with
    | none => rfl
    | some l =>
      simp only [Option.bind_some, foldsL, foldsW]
      cases leafOk s (getE l n) <;> rfl
  | m :: r, a, n => by
    rw [foldsW, foldsL]
    cases listAt s a with
    | none => rfl
    | some l =>
      simp only [Option.bind_some]
      rw [foldsW_L s r (getE l n) m]
      rfl
end Go.Proofs.YtedcgbmdfmgcgaaGreatDoor

/- More words for memory: 'append' of one element inside a region that draws its order. -/
set_option linter.unusedVariables false
namespace Go.Proofs.YtedcgbmdfmgcgaaGreatDoor
open Go.RowKit
theorem step_app1 {P : Program} {α : Type} {enc : α → List Value} {ops : Array Oper} {o : Oper} {a : Act} {K : Act → World → Prop} {Q : Exit → Act → World → Prop} {E' : Prop} {w0 W : World} {B base size bytes g : Nat} {t E : TypeId} {i : TypeInfo} {z : Value} {v : Value} {l : List α}
    (ht : P.underlying t = some (.slice E)) (hi : P.info? E = some i) (hz : i.zero = some z) (hsize : i.size = size) (hby : i.bytes = bytes) (hzs : z.cells.size = size) (hsz : 0 < size) (hb200 : bytes ≤ 256)
    (hgd : o.guard = none) (s x : Operand) (ho : o.op = .call { callee := .builtin .append, args := #[s, x], argTypes := #[t, t] })
    (hs : a.eval s = v) (hx : a.eval x = .slice (some ⟨g, 0, none⟩) 1 1)
    (hown : Own W base E size enc v l) (hb : Below B w0 W) (hB : B ≤ base) (hbase : base ≤ W.heap.size) (hn : l.length ≤ 16777216) (y : α) (hcell : ∀ j u, (enc y)[j]? = some u → W.cell? ⟨g, j, none⟩ = some u) (hce : (enc y).length = size) (h1 : ∀ u ∈ enc y, u.oneCell' = true)
    (h : ∀ v' w', Own w' base E size enc v' (l ++ [y]) → Below B w0 w' → K (a.put o.dst v') w') :
    if Region.wanted o (yielded ops a.tmps) = true then Oper.wp P o a W K Q else E' := by
  have hw : Region.wanted o (yielded ops a.tmps) = true := by simp [Region.wanted, hgd]
  rw [if_pos hw]
  refine wp_append_own W s x t ho base E i z size bytes ht hi hz hsize hby hzs hsz v l.length (flat enc l) hs hown ⟨g, 0, none⟩ 1 1 (enc y) hx (by rw [hce, Nat.one_mul]) ?_ h1 ?_ ?_ hbase ?_
  · intro j u hu
    have hadd : (⟨g, 0, none⟩ : Addr).add j = ⟨g, j, none⟩ := by unfold Addr.add; split <;> simp_all
    rw [hadd]; exact hcell j u hu
  · unfold maxLen; omega
  · have := Nat.mul_le_mul_left (l.length + 1) hb200; omega
  · intro v' w' hown' hg _
    refine h v' w' ?_ (hb.grown hg (Nat.le_trans hB hbase) (fun k hk => Nat.le_trans hB (World.ownsRow.lt hown k hk).1))
    show w'.ownsRow base E size v' (l ++ [y]).length (flat enc (l ++ [y]))
    rw [flat_snoc, List.length_append]; exact hown'
section
variable {ops : Array Oper} {o : Oper} {a : Act} {K : Act → World → Prop} {Q : Exit → Act → World → Prop} {E' : Prop} {w0 W : World} {v : Value}
theorem step_int {g : Nat} {l : List Int} {y : Int} {s x : Operand} (hgd : o.guard = none) (ho : o.op = .call { callee := .builtin .append, args := #[s, x], argTypes := #[105, 105] })
    (hs : a.eval s = v) (hx : a.eval x = .slice (some ⟨g, 0, none⟩) 1 1)
    (hown : Own W w0.heap.size 3 1 encI v l) (hb : Below w0.heap.size w0 W) (hn : l.length ≤ 16777216) (hc : W.cell? ⟨g, 0, none⟩ = some (.int .i64 y))
    (h : ∀ v' w', Own w' w0.heap.size 3 1 encI v' (l ++ [y]) → Below w0.heap.size w0 w' → K (a.put o.dst v') w') :
    if Region.wanted o (yielded ops a.tmps) = true then Oper.wp Tryz.prog o a W K Q else E' := by
  obtain ⟨i0, hi0, hz0, hz1, hz2⟩ := info_parts int_info
  exact step_app1 Tryz.underlying105 hi0 hz0 hz1 hz2 rfl (by decide) (by decide) hgd s x ho hs hx hown hb (Nat.le_refl _) hb.size hn y (by
    intro j u hu
    have hj : j = 0 := by have := (List.getElem?_eq_some_iff.1 hu).1; simp [encI] at this; omega
    subst hj; simp [encI] at hu; rw [← hu]; exact hc) rfl (by intro u hu; simp [encI] at hu; subst hu; rfl) h
end
end Go.Proofs.YtedcgbmdfmgcgaaGreatDoor
