/- Written by merge.py: Open3, Facts, So, Hx, Fo, Fp, Ap2, En, Nm, Be, Rp, Dm, Heap2, Tr, Tr2, Tp, Tr3, Pr, Dr2, Dr3, Sto. -/
import Derived.Deep.Slices
import Derived.DataReads
import Derived.Test.YtbpngpcjjinneaaDoorRows
import Derived.JoinedOf
import Derived.KernelRfl
import Derived.Laws.Strings
import Derived.Laws.AppendOwnNone
import Derived.Shelf.Abstract
import Derived.RegionTactic
import Derived.Deep.RegionLaw
import Derived.Test.YtbpngpcjjinneaaDoorMgExactNewArchive1
/- Arguments that came in: slices of structs. -/
set_option linter.unusedVariables false
namespace Go.Proofs.YtbpngpcjjinneaaDoor
open Go.ChangeShapes Go.WideShapes Go.ChangeAt Go.RowKit
open Go.ChangeMaps (open_string shut_string)

theorem list_of {α : Type} {P : Nat → α → Prop} : ∀ n : Nat, (∀ i, i < n → ∃ x, P i x) → ∃ l : List α, l.length = n ∧ ∀ i x, l[i]? = some x → P i x
  | 0, _ => ⟨[], rfl, fun i x h => by simp at h⟩
  | n + 1, h => by
    obtain ⟨l, hl, hp⟩ := list_of n (fun i hi => h i (by omega))
    obtain ⟨y, hy⟩ := h n (by omega)
    refine ⟨l ++ [y], by simp [hl], fun i x hx => ?_⟩
    rw [List.getElem?_append] at hx
    split at hx
    · exact hp i x hx
    · rename_i hi
      have hlt := (List.getElem?_eq_some_iff.1 hx).1
      simp at hlt
      have e : i = n := by omega
      subst e
      rw [hl, Nat.sub_self] at hx
      simp at hx; subst hx; exact hy
section
variable {H : Type} {enc : TypeId × Value → H} {W : World} {a : Option Addr} {n c : Nat} {d : DataW H} {p : List MemPlace}
/-- Each element of a slice that came in, read by 'read'. -/
theorem rows_open {α : Type} {t e : TypeId} {fs : Array Field} (ht : Tryd.prog.underlying t = some (.slice e)) (he : Tryd.prog.underlying e = some (.struct fs)) (encA : α → List Value) (size : Nat) (good : α → Prop)
    (hC : Tryd.prog.cellsOf e = size) (hsz : 0 < size) (hlen : ∀ x, (encA x).length = size)
    (read : ∀ (cs : List Value) (q : Nat) (xs : List (DataW H × List MemPlace)), cs.length = size → xs.length = fs.size → (∀ (i : Nat) (f : Field), fs[i]? = some f → DataW.trod enc Tryd.prog W 0 (fun _ => true) true q f.type ((cs.drop f.offset).take (Tryd.prog.cellsOf f.type)) = xs[i]?) → ∃ x, good x ∧ cs = encA x)
    (h : DataW.Trod enc Tryd.prog W 0 (fun _ => true) true t (.slice a n c) d p) :
    ∃ l : List α, l.length = n ∧ n ≤ c ∧ c ≤ maxLen ∧ Sl W encA size a l ∧ ∀ x ∈ l, good x := by
  obtain ⟨fuel, hf⟩ := h
  rcases Go.Deep.open_slice ht hf with ⟨hcs, _⟩ | ⟨ad, len, cap, m, q, D, Pl, hcs, _, hl, hm, hmm, _, hel⟩
  · simp [Value.cells] at hcs
    obtain ⟨rfl, rfl, rfl⟩ := hcs
    exact ⟨[], rfl, Nat.le_refl _, by unfold maxLen; omega, Sl.none_, by simp⟩
  · simp [Value.cells] at hcs
    obtain ⟨rfl, rfl, rfl⟩ := hcs
    simp at hmm
    obtain ⟨l, hll, hp⟩ := list_of (P := fun i x => good x ∧ ∀ j u, (encA x)[j]? = some u → W.cell? (ad.add (i * size + j)) = some u) n (fun i hi => by
      obtain ⟨cs', hc, ht'⟩ := hel i (by omega)
      rw [hC] at hc
      obtain ⟨_, hcl, hat⟩ := World.cells?_some hc
      obtain ⟨xs, n', _, _, _, hxl, hfl⟩ := DataW.trod_struct he ht'
      obtain ⟨x, hg, rfl⟩ := read cs' n' xs hcl hxl hfl
      refine ⟨x, hg, fun j u hu => ?_⟩
      have hj : j < size := by rw [← hlen x]; exact (List.getElem?_eq_some_iff.1 hu).1
      rw [← Go.Deep.add_add, hat j hj, hu])
    refine ⟨l, hll, hl, hm, sl_of_add hsz hlen fun j u hu => ?_, fun x hx => ?_⟩
    · have hj : j < l.length * size := by
        have := (List.getElem?_eq_some_iff.1 hu).1
        rwa [flat_length hlen] at this
      have hq : j / size < l.length := Nat.div_lt_of_lt_mul (by rwa [Nat.mul_comm] at hj)
      have hdm := Nat.div_add_mod j size
      have hms := Nat.mod_lt j hsz
      have hg := flat_get hlen l (j / size) hq (j % size) hms
      have e : j / size * size + j % size = j := by rw [Nat.mul_comm]; exact hdm
      rw [e] at hg
      rw [hg] at hu
      have := (hp (j / size) l[j / size] (List.getElem?_eq_getElem hq)).2 (j % size) u hu
      rwa [e] at this
    · obtain ⟨i, hi, rfl⟩ := List.getElem_of_mem hx
      exact (hp i _ (List.getElem?_eq_getElem hi)).1
set_option maxRecDepth 100000 in
theorem openPieces (h : DataW.Trod enc Tryd.prog W 0 (fun _ => true) true 35 (.slice a n c) d p) : PiecesIn W a n c := by
  refine rows_open Tryd.underlying35 Tryd.underlying76 encP 2 (fun p => p.2.size ≤ maxLen) (by kernel_rfl) (by omega) (fun _ => rfl) ?_ h
  intro cs q xs hcl hxl hf
  match cs, hcl with
  | [v0, v1], _ =>
    match xs, hxl with
    | [x0, x1], _ =>
      obtain ⟨x, e0, _, _⟩ := DataW.trod_int Tryd.underlying3 (hf 0 _ rfl)
      obtain ⟨t, e1, _, ht⟩ := DataW.trod_string Tryd.underlying9 (hf 1 _ rfl)
      have k0 : Tryd.prog.cellsOf 3 = 1 := by kernel_rfl
      have k1 : Tryd.prog.cellsOf 9 = 1 := by kernel_rfl
      simp [k0] at e0
      simp [k1] at e1
      subst e0 e1
      exact ⟨(x, t), ht, rfl⟩
set_option maxRecDepth 100000 in
theorem openVersions (h : DataW.Trod enc Tryd.prog W 0 (fun _ => true) true 56 (.slice a n c) d p) : VersionsIn W a n c := by
  refine rows_open Tryd.underlying56 Tryd.underlying117 encV 3 (fun p => p.2.2.size ≤ maxLen) (by kernel_rfl) (by omega) (fun _ => rfl) ?_ h
  intro cs q xs hcl hxl hf
  match cs, hcl with
  | [v0, v1, v2], _ =>
    match xs, hxl with
    | [x0, x1, x2], _ =>
      obtain ⟨x, e0, _, _⟩ := DataW.trod_int Tryd.underlying3 (hf 0 _ rfl)
      obtain ⟨y, e1, _, _⟩ := DataW.trod_int Tryd.underlying3 (hf 1 _ rfl)
      obtain ⟨t, e2, _, ht⟩ := DataW.trod_string Tryd.underlying9 (hf 2 _ rfl)
      have k0 : Tryd.prog.cellsOf 3 = 1 := by kernel_rfl
      have k1 : Tryd.prog.cellsOf 9 = 1 := by kernel_rfl
      simp [k0] at e0
      simp [k0] at e1
      simp [k1] at e2
      subst e0 e1 e2
      exact ⟨(x, y, t), ht, rfl⟩
end
end Go.Proofs.YtbpngpcjjinneaaDoor

/- Closed facts on the translation's head line, which is long: its words are read off a list of numbers, once; and the facts on the whole program, each by itself. -/
set_option linter.unusedVariables false
namespace Go.Proofs.YtbpngpcjjinneaaDoor
open Go
def headNums : List Nat := [104, 97, 114, 110, 101, 115, 115, 32, 97, 102, 99, 50, 54, 97, 53, 48, 53, 52, 56, 100, 57, 48, 102, 51, 101, 56, 100, 97, 56, 56, 55, 52, 102, 102, 101, 49, 49, 56, 52, 49, 55, 52, 57, 55, 56, 51, 51, 97, 56, 49, 53, 51, 100, 48, 52, 97, 97, 102, 55, 48, 49, 98, 51, 56, 102, 51, 50, 48, 53, 56, 55, 52, 32, 99, 117, 116, 32, 97, 116, 32, 108, 111, 111, 112, 46, 101, 120, 97, 109, 112, 108, 101, 47, 112, 114, 111, 111, 102, 97, 114, 99, 104, 105, 118, 101, 47, 108, 97, 119, 115, 46, 70, 110, 69, 120, 97, 99, 116, 81, 117, 111, 116, 97, 115, 86, 97, 108, 105, 100, 32, 108, 111, 111, 112, 46, 101, 120, 97, 109, 112, 108, 101, 47, 112, 114, 111, 111, 102, 97, 114, 99, 104, 105, 118, 101, 47, 108, 97, 119, 115, 46, 70, 110, 81, 117, 111, 116, 97, 115, 86, 97, 108, 105, 100, 32, 108, 111, 111, 112, 46, 101, 120, 97, 109, 112, 108, 101, 47, 112, 114, 111, 111, 102, 97, 114, 99, 104, 105, 118, 101, 47, 108, 97, 119, 115, 46, 70, 110, 69, 120, 97, 99, 116, 78, 101, 119, 65, 114, 99, 104, 105, 118, 101, 32, 108, 111, 111, 112, 46, 101, 120, 97, 109, 112, 108, 101, 47, 112, 114, 111, 111, 102, 97, 114, 99, 104, 105, 118, 101, 47, 108, 97, 119, 115, 46, 70, 110, 69, 120, 97, 99, 116, 82, 101, 97, 100, 66, 117, 110, 100, 108, 101, 32, 108, 111, 111, 112, 46, 101, 120, 97, 109, 112, 108, 101, 47, 112, 114, 111, 111, 102, 97, 114, 99, 104, 105, 118, 101, 47, 108, 97, 119, 115, 46, 70, 110, 69, 120, 97, 99, 116, 65, 114, 99, 104, 105, 118, 101, 86, 97, 108, 105, 100]
def headChars : List Char := headNums.map Char.ofNat
set_option maxRecDepth 1000000 in
theorem head_of : Tryd.prog.initOrder = String.ofList headChars := by kernel_rfl
theorem head_list : Tryd.prog.initOrder.toList = headChars := by rw [head_of, String.toList_ofList]
set_option maxRecDepth 1000000 in
theorem words_head : ((behindMainWord (wordsSigns headChars)).head? == some "cut".toList) = true := by kernel_rfl
theorem words_of : ∃ tl, behindMainWord (wordsSigns headChars) = "cut".toList :: tl := by
  have h := words_head
  cases hw : behindMainWord (wordsSigns headChars) with
  | nil => rw [hw] at h; cases h
  | cons c tl => rw [hw] at h; refine ⟨tl, ?_⟩; rw [List.head?_cons] at h; have := (beq_iff_eq.1 h); injection this with e; rw [e]
theorem strip_cut (tl : List (List Char)) : stripLifts liftWords ("cut".toList :: tl) = ([], "cut".toList :: tl) := by
  simp [liftWords, stripLifts]
theorem make_of (P : Program) (tl : List (List Char)) (h : behindMainWord (wordsSigns P.initOrder.toList) = "cut".toList :: tl) : P.make = some .cut := by
  unfold Program.make; rw [h]; simp
theorem lifts_of (P : Program) (tl : List (List Char)) (h : behindMainWord (wordsSigns P.initOrder.toList) = "cut".toList :: tl) : P.liftsFinal = false := by
  unfold Program.liftsFinal Program.headLifts; rw [h, strip_cut]; simp
theorem may_of (P : Program) (tl : List (List Char)) (h : behindMainWord (wordsSigns P.initOrder.toList) = "cut".toList :: tl) (h1 : P.laysLater = false) (h2 : P.bearsReflect = false) (h3 : P.doorFits [] = true) : P.mayEnter = true := by
  unfold Program.mayEnter; rw [h]; simp only [strip_cut, h1, h2, h3]; simp
theorem lat : Tryd.prog.laysLater = false := by kernel_rfl
theorem refl_ : Tryd.prog.bearsReflect = false := by kernel_rfl
theorem door : Tryd.prog.doorFits [] = true := by kernel_rfl
theorem words_prog : ∃ tl, behindMainWord (wordsSigns Tryd.prog.initOrder.toList) = "cut".toList :: tl := by
  rw [head_list]; exact words_of
theorem mke : Tryd.prog.make = some .cut := words_prog.elim fun tl h => make_of _ tl h
theorem lfts : Tryd.prog.liftsFinal = false := words_prog.elim fun tl h => lifts_of _ tl h
theorem may : Tryd.prog.mayEnter = true := words_prog.elim fun tl h => may_of _ tl h lat refl_ door
theorem rowed : mapsRowed Tryd.prog = true := by kernel_rfl
theorem pkeys : Tryd.prog.plainKeys = true := by kernel_rfl
theorem heard : Tryd.prog.stopsHeard = true := by kernel_rfl
theorem laid_ : laidOutB Tryd.prog = true := by kernel_rfl
end Go.Proofs.YtbpngpcjjinneaaDoor

/- Stores of pieces, in plain Lean. No program in sight. -/
set_option linter.unusedVariables false
namespace Go.Proofs.YtbpngpcjjinneaaDoor
--BEGIN
abbrev tx (s : ByteArray) : Bs := s.data.toList
def pieceOk (p : Pc) : Bool := textV (tx p.2) && (prOf (tx p.2) == p.1)
def pc0 : Pc := (0, ⟨#[]⟩)
def storeAt (l : List Pc) (k : Nat) : Bool := pieceOk (l.getD k pc0) && (k == 0 || decide ((l.getD (k - 1) pc0).1 < (l.getD k pc0).1))
def storeV (l : List Pc) : Bool := decide (l.length ≤ 40) && (List.range l.length).all (storeAt l)
theorem getD_pc {l : List Pc} {k : Nat} (h : k < l.length) : l.getD k pc0 = l[k] := by rw [List.getD_eq_getElem?_getD, List.getElem?_eq_getElem h]; rfl
theorem pieceOk_iff {p : Pc} : pieceOk p = true ↔ textV (tx p.2) = true ∧ prOf (tx p.2) = p.1 := by unfold pieceOk; rw [Bool.and_eq_true, beq_iff_eq]
theorem pieceOk_pv {p : Pc} (h : pieceOk p = true) : pv p.1 = true := by
  obtain ⟨h1, h2⟩ := pieceOk_iff.1 h; rw [← h2]; exact prOf_pv h1
def Sorted (l : List Pc) : Prop := l.Pairwise fun a b => a.1 < b.1
theorem storeV_iff {l : List Pc} : storeV l = true ↔ l.length ≤ 40 ∧ (∀ p ∈ l, pieceOk p = true) ∧ Sorted l := by
  unfold storeV
  rw [Bool.and_eq_true, decide_eq_true_eq, List.all_eq_true]
  constructor
  · rintro ⟨h1, h2⟩
    have hk : ∀ k (h : k < l.length), pieceOk l[k] = true ∧ (k = 0 ∨ (l.getD (k - 1) pc0).1 < l[k].1) := by
      intro k h
      have := h2 k (List.mem_range.2 h)
      unfold storeAt at this
      rw [Bool.and_eq_true, Bool.or_eq_true, beq_iff_eq, decide_eq_true_eq, getD_pc h] at this
      exact this
    refine ⟨h1, fun p hp => ?_, ?_⟩
    · obtain ⟨k, h, rfl⟩ := List.getElem_of_mem hp; exact (hk k h).1
    · refine List.pairwise_iff_getElem.2 ?_
      have aux : ∀ j (hj : j < l.length) i (hi : i < l.length), i < j → l[i].1 < l[j].1 := by
        intro j
        induction j with
        | zero => intro _ i _ h; omega
        | succ j ih =>
          intro hj i hi hij
          have h3 := (hk (j + 1) hj).2
          have h4 : l.getD (j + 1 - 1) pc0 = l[j] := getD_pc (k := j) (by omega)
          rw [h4] at h3
          rcases h3 with h3 | h3
          · omega
          · by_cases e : i = j
            · subst e; exact h3
            · have := ih (by omega) i hi (by omega); omega
      exact fun i j hi hj hij => aux j hj i hi hij
  · rintro ⟨h1, h2, h3⟩
    refine ⟨h1, fun k hk => ?_⟩
    rw [List.mem_range] at hk
    unfold storeAt
    rw [Bool.and_eq_true, Bool.or_eq_true, beq_iff_eq, decide_eq_true_eq, getD_pc hk]
    refine ⟨h2 _ (by simp), ?_⟩
    by_cases e : k = 0
    · exact .inl e
    · right
      rw [getD_pc (k := k - 1) (by omega)]
      exact List.pairwise_iff_getElem.1 h3 (k - 1) k (by omega) hk (by omega)
theorem storeV_len {l : List Pc} (h : storeV l = true) : l.length ≤ 40 := (storeV_iff.1 h).1
theorem storeV_sorted {l : List Pc} (h : storeV l = true) : Sorted l := (storeV_iff.1 h).2.2
theorem storeV_piece {l : List Pc} (h : storeV l = true) {p : Pc} (hp : p ∈ l) : pieceOk p = true := (storeV_iff.1 h).2.1 p hp
theorem storeV_bad {l : List Pc} {k : Nat} (h : k < l.length) (hb : storeAt l k = false) : storeV l = false := by
  cases hv : storeV l
  · rfl
  · unfold storeV at hv
    rw [Bool.and_eq_true, List.all_eq_true] at hv
    rw [hv.2 k (List.mem_range.2 h)] at hb; cases hb
theorem storeV_long {l : List Pc} (h : ¬ l.length ≤ 40) : storeV l = false := by
  unfold storeV; rw [decide_eq_false h]; rfl
def StoreUpto (l : List Pc) (k : Nat) : Prop := ∀ j, j < k → storeAt l j = true
theorem StoreUpto.zero (l : List Pc) : StoreUpto l 0 := fun j h => by omega
theorem StoreUpto.succ {l : List Pc} {k : Nat} (h : StoreUpto l k) (hk : storeAt l k = true) : StoreUpto l (k + 1) := fun j hj => by
  by_cases e : j = k
  · subst e; exact hk
  · exact h j (by omega)
theorem StoreUpto.done {l : List Pc} {k : Nat} (h : StoreUpto l k) (hk : ¬ k < l.length) (hl : l.length ≤ 40) : storeV l = true := by
  unfold storeV; rw [decide_eq_true hl, Bool.true_and, List.all_eq_true]
  intro j hj; rw [List.mem_range] at hj; exact h j (by omega)
theorem storeV_nil : storeV [] = true := rfl
theorem storeV_sub {l m : List Pc} (h : storeV l = true) (hs : m.Sublist l) : storeV m = true := by
  obtain ⟨h1, h2, h3⟩ := storeV_iff.1 h
  exact storeV_iff.2 ⟨Nat.le_trans hs.length_le h1, fun p hp => h2 p (hs.subset hp), h3.sublist hs⟩

/-! ### where a print stands -/
def below (l : List Pc) (p : Int) : Nat := (l.takeWhile fun x => decide (x.1 < p)).length
theorem below_le (l : List Pc) (p : Int) : below l p ≤ l.length := (List.takeWhile_sublist _).length_le
theorem below_of : ∀ (l : List Pc) (p : Int) (i : Nat), i ≤ l.length → (∀ t (h : t < l.length), t < i → l[t].1 < p) → (∀ h : i < l.length, ¬ l[i].1 < p) → below l p = i
  | [], p, i, hi, _, _ => by simp at hi; subst hi; rfl
  | x :: r, p, 0, _, _, h2 => by
    have := h2 (by simp)
    simp at this
    unfold below; rw [List.takeWhile_cons]
    rw [if_neg (by simpa using this)]; rfl
  | x :: r, p, i + 1, hi, h1, h2 => by
    have h0 := h1 0 (by simp) (by omega)
    simp at h0
    have ih := below_of r p i (by simpa using hi) (fun t h ht => h1 (t + 1) (Nat.succ_lt_succ h) (Nat.succ_lt_succ ht)) (fun h => h2 (Nat.succ_lt_succ h))
    unfold below at ih ⊢
    rw [List.takeWhile_cons, if_pos (by simpa using h0), List.length_cons, ih]
theorem below_lt : ∀ (l : List Pc) (p : Int) (t : Nat) (h : t < l.length), t < below l p → l[t].1 < p
  | x :: r, p, t, h, ht => by
    unfold below at ht
    rw [List.takeWhile_cons] at ht
    split at ht
    · rename_i hx
      cases t with
      | zero => simpa using hx
      | succ t => simpa using below_lt r p t (by simpa using h) (by unfold below; simpa using ht)
    · simp at ht
theorem below_ge : ∀ (l : List Pc) (p : Int) (h : below l p < l.length), ¬ l[below l p].1 < p
  | [], p, h => by simp at h
  | x :: r, p, h => by
    by_cases hx : x.1 < p
    · have e : below (x :: r) p = below r p + 1 := by unfold below; rw [List.takeWhile_cons, if_pos (by simpa using hx)]; rfl
      have h' : below r p < r.length := by rw [e] at h; simpa using h
      have := below_ge r p h'
      simp only [e, List.getElem_cons_succ]; exact this
    · have e : below (x :: r) p = 0 := by unfold below; rw [List.takeWhile_cons, if_neg (by simpa using hx)]; rfl
      simp only [e, List.getElem_cons_zero]; exact hx
def hereP (l : List Pc) (p : Int) : Bool := decide (below l p < l.length) && decide ((l.getD (below l p) pc0).1 = p)
def getT (l : List Pc) (p : Int) : Option ByteArray := (l.find? fun x => x.1 == p).map (·.2)
theorem getT_some {l : List Pc} {p : Int} {t : ByteArray} (h : getT l p = some t) : (p, t) ∈ l := by
  unfold getT at h
  obtain ⟨x, hx, rfl⟩ := Option.map_eq_some_iff.1 h
  have h1 := List.mem_of_find?_eq_some hx
  have h2 := List.find?_some hx
  simp at h2
  rw [← h2]; exact h1
theorem getT_none {l : List Pc} {p : Int} (h : getT l p = none) : ∀ x ∈ l, x.1 ≠ p := by
  unfold getT at h
  rw [Option.map_eq_none_iff, List.find?_eq_none] at h
  intro x hx e; exact h x hx (by simp [e])
theorem getT_none_iff {l : List Pc} {p : Int} : getT l p = none ↔ ∀ x ∈ l, x.1 ≠ p := by
  refine ⟨getT_none, fun h => ?_⟩
  unfold getT
  rw [Option.map_eq_none_iff, List.find?_eq_none]
  intro x hx; simpa using h x hx
theorem sorted_inj {l : List Pc} (h : Sorted l) {a b : Pc} (ha : a ∈ l) (hb : b ∈ l) (e : a.1 = b.1) : a = b := by
  obtain ⟨i, hi, rfl⟩ := List.getElem_of_mem ha
  obtain ⟨j, hj, rfl⟩ := List.getElem_of_mem hb
  have hp := List.pairwise_iff_getElem.1 h
  by_cases h1 : i < j
  · have := hp i j hi hj h1; omega
  · by_cases h2 : j < i
    · have := hp j i hj hi h2; omega
    · have : i = j := by omega
      subst this; rfl
theorem getT_mem {l : List Pc} (hs : Sorted l) {p : Int} {t : ByteArray} (h : (p, t) ∈ l) : getT l p = some t := by
  cases hg : getT l p with
  | none => exact absurd rfl (getT_none hg _ h)
  | some u =>
    have := sorted_inj hs (getT_some hg) h rfl
    injection this with _ e; rw [e]
theorem below_sorted {l : List Pc} (hs : Sorted l) {p : Int} {t : Nat} (h : t < l.length) (ht : below l p ≤ t) : ¬ l[t].1 < p := by
  by_cases e : below l p = t
  · subst e; exact below_ge l p h
  · have h1 := below_ge l p (by omega)
    have h2 := List.pairwise_iff_getElem.1 hs (below l p) t (by omega) h (by omega)
    omega
theorem getT_here {l : List Pc} (hs : Sorted l) {p : Int} : getT l p = if hereP l p then some (l.getD (below l p) pc0).2 else none := by
  unfold hereP
  by_cases hlt : below l p < l.length
  · rw [decide_eq_true hlt, Bool.true_and, getD_pc hlt]
    by_cases e : l[below l p].1 = p
    · rw [decide_eq_true e, if_pos rfl]
      exact getT_mem hs (by
        have e2 : (p, l[below l p].2) = l[below l p] := Prod.ext e.symm rfl
        rw [e2]; exact List.getElem_mem hlt)
    · rw [decide_eq_false e, if_neg (by simp)]
      refine getT_none_iff.2 fun x hx hxe => ?_
      obtain ⟨t, ht, rfl⟩ := List.getElem_of_mem hx
      by_cases h1 : t < below l p
      · have := below_lt l p t ht h1; omega
      · have h2 := below_ge l p hlt
        by_cases e2 : below l p = t
        · subst e2; exact e hxe
        · have h3 := List.pairwise_iff_getElem.1 hs (below l p) t hlt ht (by omega)
          omega
  · rw [decide_eq_false hlt, Bool.false_and, if_neg (by simp)]
    refine getT_none_iff.2 fun x hx hxe => ?_
    obtain ⟨t, ht, rfl⟩ := List.getElem_of_mem hx
    have := below_lt l p t ht (by omega)
    omega

/-! ### one text more -/
def putT (l : List Pc) (t : ByteArray) : List Pc × Int × Bool :=
  if storeV l then
    if textV (tx t) then
      match getT l (prOf (tx t)) with
      | some u => if u = t then (l, prOf (tx t), true) else (l, -1, false)
      | none => if l.length = 40 then (l, -1, false) else (l.take (below l (prOf (tx t))) ++ (prOf (tx t), t) :: l.drop (below l (prOf (tx t))), prOf (tx t), true)
    else (l, -1, false)
  else ([], -1, false)
theorem putT_bad {l : List Pc} {t : ByteArray} (h : storeV l = false) : putT l t = ([], -1, false) := by unfold putT; rw [h]; rfl
theorem putT_text {l : List Pc} {t : ByteArray} (h : storeV l = true) (ht : textV (tx t) = false) : putT l t = (l, -1, false) := by unfold putT; rw [h, ht]; rfl
theorem putT_there {l : List Pc} {t : ByteArray} (h : storeV l = true) (ht : textV (tx t) = true) (hg : getT l (prOf (tx t)) = some t) : putT l t = (l, prOf (tx t), true) := by
  unfold putT; rw [h, ht, hg]; simp
theorem putT_clash {l : List Pc} {t u : ByteArray} (h : storeV l = true) (ht : textV (tx t) = true) (hg : getT l (prOf (tx t)) = some u) (hne : u ≠ t) : putT l t = (l, -1, false) := by
  unfold putT; rw [h, ht, hg]; simp [hne]
theorem putT_full {l : List Pc} {t : ByteArray} (h : storeV l = true) (ht : textV (tx t) = true) (hg : getT l (prOf (tx t)) = none) (hl : l.length = 40) : putT l t = (l, -1, false) := by
  unfold putT; rw [h, ht, hg]; simp [hl]
theorem putT_new {l : List Pc} {t : ByteArray} (h : storeV l = true) (ht : textV (tx t) = true) (hg : getT l (prOf (tx t)) = none) (hl : l.length ≠ 40) :
    putT l t = (l.take (below l (prOf (tx t))) ++ (prOf (tx t), t) :: l.drop (below l (prOf (tx t))), prOf (tx t), true) := by
  unfold putT; rw [h, ht, hg]; simp [hl]
theorem insert_sorted {l : List Pc} (hs : Sorted l) {x : Pc} (hx : ∀ y ∈ l, y.1 ≠ x.1) : Sorted (l.take (below l x.1) ++ x :: l.drop (below l x.1)) := by
  unfold Sorted
  rw [List.pairwise_append, List.pairwise_cons]
  have hlo : ∀ a ∈ l.take (below l x.1), a.1 < x.1 := by
    intro a ha
    obtain ⟨t, ht, rfl⟩ := List.getElem_of_mem ha
    rw [List.length_take] at ht
    rw [List.getElem_take]
    exact below_lt l x.1 t (by omega) (by omega)
  have hhi : ∀ b ∈ l.drop (below l x.1), x.1 < b.1 := by
    intro b hb
    have hm := List.mem_of_mem_drop hb
    obtain ⟨t, ht, rfl⟩ := List.getElem_of_mem hb
    rw [List.length_drop] at ht
    rw [List.getElem_drop] at hm ⊢
    have h1 := below_sorted hs (p := x.1) (t := below l x.1 + t) (by omega) (by omega)
    have h2 := hx _ hm
    omega
  refine ⟨hs.sublist (List.take_sublist _ _), ⟨hhi, hs.sublist (List.drop_sublist _ _)⟩, fun a ha b hb => ?_⟩
  have h1 := hlo a ha
  rcases List.mem_cons.1 hb with rfl | hb
  · exact h1
  · have := hhi b hb; omega
/-- What a text that was put brings. -/
structure PutOk (l : List Pc) (t : ByteArray) (l' : List Pc) : Prop where
  valid : storeV l' = true
  mem : ∀ p, p ∈ l' ↔ p ∈ l ∨ p = (prOf (tx t), t)
  text : textV (tx t) = true
  len : l'.length ≤ l.length + 1
theorem putT_ok {l : List Pc} {t : ByteArray} (hok : (putT l t).2.2 = true) : storeV l = true ∧ PutOk l t (putT l t).1 ∧ (putT l t).2.1 = prOf (tx t) := by
  cases h : storeV l
  · rw [putT_bad h] at hok; cases hok
  cases ht : textV (tx t)
  · rw [putT_text h ht] at hok; cases hok
  cases hg : getT l (prOf (tx t)) with
  | some u =>
    by_cases e : u = t
    · subst e
      rw [putT_there h ht hg]
      refine ⟨rfl, ⟨h, fun p => ⟨.inl, fun hp => hp.elim id fun e => ?_⟩, ht, by simp⟩, rfl⟩
      rw [e]; exact getT_some hg
    · rw [putT_clash h ht hg e] at hok; cases hok
  | none =>
    by_cases hl : l.length = 40
    · rw [putT_full h ht hg hl] at hok; cases hok
    · rw [putT_new h ht hg hl]
      have hmem : ∀ p, p ∈ (l.take (below l (prOf (tx t))) ++ (prOf (tx t), t) :: l.drop (below l (prOf (tx t)))) ↔ p ∈ l ∨ p = (prOf (tx t), t) := by
        intro p
        rw [List.mem_append, List.mem_cons]
        constructor
        · rintro (hp | rfl | hp)
          · exact .inl (List.mem_of_mem_take hp)
          · exact .inr rfl
          · exact .inl (List.mem_of_mem_drop hp)
        · rintro (hp | rfl)
          · rw [← List.take_append_drop (below l (prOf (tx t))) l, List.mem_append] at hp
            rcases hp with hp | hp
            · exact .inl hp
            · exact .inr (.inr hp)
          · exact .inr (.inl rfl)
      have hlen : (l.take (below l (prOf (tx t))) ++ (prOf (tx t), t) :: l.drop (below l (prOf (tx t)))).length = l.length + 1 := by
        have := below_le l (prOf (tx t)); simp; omega
      refine ⟨rfl, ⟨storeV_iff.2 ⟨by have := storeV_len h; rw [hlen]; omega, fun p hp => ?_, insert_sorted (storeV_sorted h) (x := (prOf (tx t), t)) (getT_none hg)⟩, hmem, ht, by rw [hlen]; omega⟩, rfl⟩
      rcases (hmem p).1 hp with hp | rfl
      · exact storeV_piece h hp
      · exact pieceOk_iff.2 ⟨ht, rfl⟩
theorem putT_no {l : List Pc} {t : ByteArray} (h : storeV l = true) (hok : (putT l t).2.2 = false) : putT l t = (l, -1, false) := by
  cases ht : textV (tx t)
  · exact putT_text h ht
  cases hg : getT l (prOf (tx t)) with
  | some u =>
    by_cases e : u = t
    · subst e
      rw [putT_there h ht hg] at hok; cases hok
    · exact putT_clash h ht hg e
  | none =>
    by_cases hl : l.length = 40
    · exact putT_full h ht hg hl
    · rw [putT_new h ht hg hl] at hok; cases hok
theorem putT_len (l : List Pc) (t : ByteArray) : (putT l t).1.length ≤ 40 := by
  cases h : storeV l
  · rw [putT_bad h]; simp
  · cases hok : (putT l t).2.2
    · rw [putT_no h hok]; exact storeV_len h
    · exact storeV_len (putT_ok hok).2.1.valid
theorem putT_bd (l : List Pc) (t : ByteArray) : -1 ≤ (putT l t).2.1 ∧ (putT l t).2.1 ≤ 16777212 := by
  have hb := prOf_bd (tx t)
  cases h : storeV l
  · rw [putT_bad h]; simp
  · cases hok : (putT l t).2.2
    · rw [putT_no h hok]; simp
    · rw [(putT_ok hok).2.2]; exact hb
/-- When a text can be put. -/
theorem putT_can {l : List Pc} {t : ByteArray} : (putT l t).2.2 = true ↔ storeV l = true ∧ textV (tx t) = true ∧ (∀ u, (prOf (tx t), u) ∈ l → u = t) ∧ ((prOf (tx t), t) ∈ l ∨ l.length < 40) := by
  constructor
  · intro hok
    cases h : storeV l
    · rw [putT_bad h] at hok; cases hok
    cases ht : textV (tx t)
    · rw [putT_text h ht] at hok; cases hok
    refine ⟨rfl, rfl, ?_⟩
    cases hg : getT l (prOf (tx t)) with
    | some u =>
      by_cases e : u = t
      · subst e
        exact ⟨fun v hv => by have := getT_mem (storeV_sorted h) hv; rw [hg] at this; injection this with e; exact e.symm, .inl (getT_some hg)⟩
      · rw [putT_clash h ht hg e] at hok; cases hok
    | none =>
      by_cases hl : l.length = 40
      · rw [putT_full h ht hg hl] at hok; cases hok
      · exact ⟨fun v hv => absurd rfl (getT_none hg _ hv), .inr (by have := storeV_len h; omega)⟩
  · rintro ⟨h, ht, h1, h2⟩
    cases hg : getT l (prOf (tx t)) with
    | some u =>
      have := h1 u (getT_some hg)
      subst this
      rw [putT_there h ht hg]
    | none =>
      rw [putT_new h ht hg]
      rcases h2 with h2 | h2
      · exact absurd rfl (getT_none hg _ h2)
      · omega
/-- Two stores with the same pieces are the same. -/
theorem sorted_ext : ∀ {a b : List Pc}, Sorted a → Sorted b → (∀ p, p ∈ a ↔ p ∈ b) → a = b := by
  intro a b ha hb h
  have na : a.Nodup := ha.imp (fun h e => by subst e; omega)
  have nb : b.Nodup := hb.imp (fun h e => by subst e; omega)
  have hp : a.Perm b := (List.perm_ext_iff_of_nodup na nb).2 h
  exact hp.eq_of_pairwise (le := fun x y : Pc => x.1 < y.1) (fun x y _ _ h1 h2 => by omega) ha hb
theorem store_ext {a b : List Pc} (ha : storeV a = true) (hb : storeV b = true) (h : ∀ p, p ∈ a ↔ p ∈ b) : a = b := sorted_ext (storeV_sorted ha) (storeV_sorted hb) h
theorem store_keep {l : List Pc} {t : ByteArray} {l' : List Pc} (h : PutOk l t l') {p : Int} {u : ByteArray} (hu : (p, u) ∈ l) : getT l' p = some u := getT_mem (storeV_sorted h.valid) ((h.mem _).2 (.inl hu))
theorem store_put {l : List Pc} {t : ByteArray} {l' : List Pc} (h : PutOk l t l') : getT l' (prOf (tx t)) = some t := getT_mem (storeV_sorted h.valid) ((h.mem _).2 (.inr rfl))

/-! ### the right pieces of a list -/
def rightF : List Pc → List Pc → Option (List Pc)
  | s, [] => some s
  | s, p :: r => if pieceOk p then (if (putT s p.2).2.2 then rightF (putT s p.2).1 r else none) else rightF s r
def rightP (l : List Pc) : List Pc × Bool := match rightF [] l with | some s => (s, true) | none => ([], false)
theorem rightF_ok : ∀ (l s s' : List Pc), storeV s = true → rightF s l = some s' → storeV s' = true ∧ (∀ p, p ∈ s' ↔ p ∈ s ∨ (p ∈ l ∧ pieceOk p = true)) ∧ s'.length ≤ s.length + l.length
  | [], s, s', hs, h => by
    rw [rightF] at h; injection h with h; subst h
    exact ⟨hs, fun p => by simp, by simp⟩
  | q :: r, s, s', hs, h => by
    rw [rightF] at h
    cases hq : pieceOk q
    · rw [hq] at h
      have ih := rightF_ok r s s' hs h
      refine ⟨ih.1, fun p => ?_, by have := ih.2.2; simp; omega⟩
      rw [ih.2.1 p, List.mem_cons]
      constructor
      · rintro (h1 | h1)
        · exact .inl h1
        · exact .inr ⟨.inr h1.1, h1.2⟩
      · rintro (h1 | ⟨rfl | h1, h2⟩)
        · exact .inl h1
        · rw [hq] at h2; cases h2
        · exact .inr ⟨h1, h2⟩
    · rw [hq, if_pos rfl] at h
      split at h
      · rename_i hok
        obtain ⟨_, hp, _⟩ := putT_ok hok
        have ih := rightF_ok r _ s' hp.valid h
        have he : (prOf (tx q.2), q.2) = q := by rw [(pieceOk_iff.1 hq).2]
        refine ⟨ih.1, fun p => ?_, by have := ih.2.2; have := hp.len; simp; omega⟩
        rw [ih.2.1 p, hp.mem p, he, List.mem_cons]
        constructor
        · rintro ((h1 | rfl) | h1)
          · exact .inl h1
          · exact .inr ⟨.inl rfl, hq⟩
          · exact .inr ⟨.inr h1.1, h1.2⟩
        · rintro (h1 | ⟨rfl | h1, h2⟩)
          · exact .inl (.inl h1)
          · exact .inl (.inr rfl)
          · exact .inr ⟨h1, h2⟩
      · cases h
--END
end Go.Proofs.YtbpngpcjjinneaaDoor

/- Hexadecimal texts, in plain Lean. No program in sight. -/
set_option linter.unusedVariables false
namespace Go.Proofs.YtbpngpcjjinneaaDoor
--BEGIN
def hexD (d : Nat) : UInt8 := if d < 10 then UInt8.ofNat (48 + d) else UInt8.ofNat (87 + d)
def hexF : Nat → Nat → Bs
  | 0, _ => []
  | f + 1, n => if n < 16 then [hexD n] else hexF f (n / 16) ++ [hexD (n % 16)]
def hexT (n : Int) : Bs := if pv n then hexF 7 n.toNat else []
def hexV (c : UInt8) : Option Nat := if digitC c then some (c.toNat - 48) else if inI c.toNat 97 102 then some (c.toNat - 87) else none
def hexN : Nat → Bs → Option Nat
  | n, [] => some n
  | n, c :: r => match hexV c with
    | some d => hexN (16 * n + d) r
    | none => none
def readH (s : Bs) : Int :=
  if 1 ≤ s.length ∧ s.length ≤ 6 then
    match hexN 0 s with
    | some n => if hexT n = s then (n : Int) else -1
    | none => -1
  else -1
theorem hexV_hexD : ∀ d, d < 16 → hexV (hexD d) = some d := by decide
theorem hexV_lt {c : UInt8} {d : Nat} (h : hexV c = some d) : d < 16 := by
  unfold hexV at h
  split at h
  · rename_i h1; unfold digitC inI at h1; simp at h1 h; omega
  · split at h
    · rename_i h1; unfold inI at h1; simp at h1 h; omega
    · cases h
theorem hexN_append : ∀ (a : Bs) (n : Nat) (b : Bs), hexN n (a ++ b) = (hexN n a).bind fun m => hexN m b
  | [], n, b => rfl
  | c :: r, n, b => by
    rw [List.cons_append, hexN, hexN]
    cases hexV c with
    | none => rfl
    | some d => exact hexN_append r _ b
theorem hexN_hexF : ∀ (f n : Nat), n < 16 ^ f → hexN 0 (hexF f n) = some n
  | 0, n, h => by have : n = 0 := by simpa using h
                  subst this; rfl
  | f + 1, n, h => by
    rw [hexF]
    split
    · rename_i h1
      rw [hexN, hexV_hexD n h1]; simp [hexN]
    · rw [hexN_append, hexN_hexF f (n / 16) (by rw [Nat.pow_succ] at h; omega)]
      show hexN (n / 16) [hexD (n % 16)] = some n
      rw [hexN, hexV_hexD (n % 16) (by omega)]
      simp only [hexN]; congr 1; omega
theorem hexF_len : ∀ (f n k : Nat), n < 16 ^ (k + 1) → (hexF f n).length ≤ k + 1
  | 0, n, k, _ => by simp [hexF]
  | f + 1, n, k, h => by
    rw [hexF]
    split
    · simp
    · rename_i h1
      cases k with
      | zero => simp at h; omega
      | succ k =>
        have := hexF_len f (n / 16) k (by rw [Nat.pow_succ] at h; omega)
        simp; omega
theorem hexF_ne (f n : Nat) : 1 ≤ (hexF (f + 1) n).length := by
  rw [hexF]; split <;> simp
theorem hexT_ok {n : Nat} (h : n ≤ 16777212) : hexT n = hexF 7 n := by
  unfold hexT; rw [if_pos (pv_iff.2 (by omega))]; rfl
theorem hexT_bad {n : Int} (h : pv n = false) : hexT n = [] := by unfold hexT; rw [h]; rfl
theorem hexT_len (n : Int) : (hexT n).length ≤ 6 := by
  unfold hexT; split
  · rename_i h
    have h2 := pv_iff.1 h
    exact hexF_len 7 n.toNat 5 (by have : n.toNat ≤ 16777212 := by omega
                                   have e : (16 : Nat) ^ (5 + 1) = 16777216 := by decide
                                   omega)
  · simp
theorem hexT_pos {n : Int} (h : pv n = true) : 1 ≤ (hexT n).length := by
  unfold hexT; rw [if_pos h]; exact hexF_ne 6 _
theorem hexN_hexT {n : Int} (h : pv n = true) : hexN 0 (hexT n) = some n.toNat := by
  unfold hexT; rw [if_pos h]
  have h2 := pv_iff.1 h
  exact hexN_hexF 7 n.toNat (by have : n.toNat ≤ 16777212 := by omega
                                have e : (16 : Nat) ^ 7 = 268435456 := by decide
                                omega)
theorem readH_hexT {n : Int} (h : pv n = true) : readH (hexT n) = n := by
  have h2 := pv_iff.1 h
  have e : ((n.toNat : Nat) : Int) = n := by omega
  unfold readH
  rw [if_pos ⟨hexT_pos h, hexT_len n⟩, hexN_hexT h]
  show (if hexT (n.toNat : Int) = hexT n then ((n.toNat : Nat) : Int) else -1) = n
  rw [e, if_pos rfl]
theorem readH_cases (s : Bs) : readH s = -1 ∨ ∃ n : Nat, readH s = n ∧ pv (n : Int) = true ∧ hexT n = s := by
  unfold readH
  split
  · rename_i hl
    cases h : hexN 0 s with
    | none => left; rfl
    | some n =>
      by_cases e : hexT n = s
      · right
        refine ⟨n, by simp [e], ?_, e⟩
        cases hp : pv (n : Int)
        · rw [hexT_bad hp] at e; subst e; simp at hl
        · rfl
      · left; simp [e]
  · left; rfl
theorem readH_bd (s : Bs) : -1 ≤ readH s ∧ readH s ≤ 16777212 := by
  rcases readH_cases s with h | ⟨n, h, hp, _⟩
  · omega
  · have := pv_iff.1 hp; omega
theorem readH_some {s : Bs} (h : 0 ≤ readH s) : pv (readH s) = true ∧ hexT (readH s) = s := by
  rcases readH_cases s with h1 | ⟨n, h1, hp, he⟩
  · omega
  · rw [h1]; exact ⟨hp, he⟩
theorem hexT_inj {a b : Int} (ha : pv a = true) (hb : pv b = true) (h : hexT a = hexT b) : a = b := by
  rw [← readH_hexT ha, ← readH_hexT hb, h]
/-- What the reference has come to: N is left, 'acc' written. -/
def HexAt (n0 N : Nat) (acc : Bs) : Prop := acc.length ≤ 7 ∧ ∃ f, N < 16 ^ (f + 1) ∧ f + acc.length = 7 ∧ hexF 7 n0 = (if N < 16 then [] else hexF f (N / 16)) ++ acc
theorem HexAt.start {n0 : Nat} (h : n0 ≤ 16777212) : HexAt n0 n0 [hexD (n0 % 16)] := by
  refine ⟨by simp, 6, by have e : (16 : Nat) ^ (6 + 1) = 268435456 := by decide
                         omega, by simp, ?_⟩
  rw [hexF]
  split
  · rename_i h1; rw [Nat.mod_eq_of_lt h1]; rfl
  · rfl
theorem HexAt.step {n0 N : Nat} {acc : Bs} (h : HexAt n0 N acc) (hN : 16 ≤ N) : HexAt n0 (N / 16) (hexD (N / 16 % 16) :: acc) := by
  obtain ⟨hl, f, hf, hfl, he⟩ := h
  cases f with
  | zero => simp at hf; omega
  | succ f =>
    refine ⟨by simp; omega, f, by rw [Nat.pow_succ] at hf; omega, by simp; omega, ?_⟩
    rw [he, if_neg (by omega), hexF]
    split
    · rename_i h1; rw [Nat.mod_eq_of_lt h1]; rfl
    · simp
theorem HexAt.done {n0 N : Nat} {acc : Bs} (h : HexAt n0 N acc) (hN : N < 16) : hexF 7 n0 = acc := by
  obtain ⟨hl, f, hf, hfl, he⟩ := h
  rw [he, if_pos hN]; rfl
/-- What a reader has come to. -/
theorem hexN_snoc {s : Bs} {k : Nat} (hk : k < s.length) {n : Nat} (h : hexN 0 (s.take k) = some n) : hexN 0 (s.take (k + 1)) = (hexV s[k]).map fun d => 16 * n + d := by
  rw [List.take_succ_eq_append_getElem hk, hexN_append, h]
  show hexN n [s[k]] = _
  rw [hexN]
  cases hexV s[k] <;> rfl
theorem readH_char {s : Bs} {k : Nat} (hk : k < s.length) {n : Nat} (h : hexN 0 (s.take k) = some n) (hb : hexV s[k] = none) : readH s = -1 := by
  have h1 : hexN 0 s = none := by
    have e := (List.take_append_drop (k + 1) s).symm
    have h2 := hexN_snoc hk h
    rw [hb] at h2
    rw [e, hexN_append, h2]; rfl
  unfold readH
  rw [h1]; split <;> rfl
theorem readH_ok {s : Bs} (h1 : 1 ≤ s.length) {n : Nat} (h : hexN 0 s = some n) (he : hexT n = s) : readH s = n := by
  have h6 := hexT_len (n : Int)
  rw [he] at h6
  unfold readH
  rw [if_pos ⟨h1, h6⟩, h]
  show (if hexT (n : Int) = s then (n : Int) else -1) = n
  rw [if_pos he]
theorem readH_no {s : Bs} {n : Nat} (h : hexN 0 s = some n) (he : hexT n ≠ s) : readH s = -1 := by
  unfold readH
  rw [h]
  split
  · show (if hexT (n : Int) = s then (n : Int) else -1) = -1
    rw [if_neg he]
  · rfl
theorem readH_nil : readH [] = -1 := rfl
theorem readH_long {s : Bs} (h : 6 < s.length) : readH s = -1 := by unfold readH; rw [if_neg (by omega)]
theorem hexT_ne_long {s : Bs} (h : 6 < s.length) (n : Int) : hexT n ≠ s := by
  intro e; have := hexT_len n; rw [e] at this; omega
theorem hexT_chars (n : Int) : ∀ c ∈ hexT n, (hexV c).isSome = true := by
  by_cases hp : pv n = true
  · have h := hexN_hexT hp
    have aux : ∀ (s : Bs) (a m : Nat), hexN a s = some m → ∀ c ∈ s, (hexV c).isSome = true := by
      intro s
      induction s with
      | nil => intro a m _ c hc; simp at hc
      | cons x r ih =>
        intro a m hm c hc
        rw [hexN] at hm
        cases hx : hexV x with
        | none => rw [hx] at hm; cases hm
        | some d =>
          rw [hx] at hm
          rw [List.mem_cons] at hc
          rcases hc with rfl | hc
          · rw [hx]; rfl
          · exact ih _ _ hm c hc
    exact aux _ _ _ h
  · rw [hexT_bad (by simpa using hp)]; intro c hc; simp at hc
--END
end Go.Proofs.YtbpngpcjjinneaaDoor

/- Folders, files and paths, in plain Lean. No program in sight. -/
set_option linter.unusedVariables false
namespace Go.Proofs.YtbpngpcjjinneaaDoor
--BEGIN
/-! ### texts in order -/
abbrev lessB (a b : Bs) : Bool := Op.bytesLess a b
theorem lessB_iff : ∀ {a b : Bs}, lessB a b = true ↔ a < b
  | [], [] => by simp [lessB, Op.bytesLess]
  | _ :: _, [] => by simp [lessB, Op.bytesLess]
  | [], _ :: _ => by simp [lessB, Op.bytesLess]
  | x :: a, y :: b => by
    have ih := lessB_iff (a := a) (b := b)
    unfold lessB at ih ⊢
    rw [Op.bytesLess, List.cons_lt_cons_iff, Bool.or_eq_true, Bool.and_eq_true, decide_eq_true_eq, beq_iff_eq, ih]
theorem lessB_irrefl (a : Bs) : lessB a a = false := by
  cases h : lessB a a
  · rfl
  · exact absurd (lessB_iff.1 h) (List.lt_irrefl a)
theorem lessB_trans {a b c : Bs} (h1 : lessB a b = true) (h2 : lessB b c = true) : lessB a c = true := lessB_iff.2 (List.lt_trans (lessB_iff.1 h1) (lessB_iff.1 h2))
theorem lessB_asymm {a b : Bs} (h : lessB a b = true) : lessB b a = false := by
  cases h2 : lessB b a
  · rfl
  · have := lessB_trans h h2; rw [lessB_irrefl] at this; cases this
theorem lessB_tri {a b : Bs} (h1 : lessB a b = false) (h2 : lessB b a = false) : a = b := by
  have e1 : ¬ a < b := fun h => by rw [lessB_iff.2 h] at h1; cases h1
  have e2 : ¬ b < a := fun h => by rw [lessB_iff.2 h] at h2; cases h2
  exact List.le_antisymm (List.not_lt.1 e2) (List.not_lt.1 e1)
theorem tx_mk (b : Bs) : tx (mk b) = b := rfl
theorem mk_tx (s : ByteArray) : mk (tx s) = s := by cases s; rfl
theorem tx_inj {a b : ByteArray} (h : tx a = tx b) : a = b := by rw [← mk_tx a, ← mk_tx b, h]

/-! ### entries -/
def en0 : En := (⟨#[]⟩, 0)
def entOk (e : En) : Bool := wordV (tx e.1) && pv e.2
def entAt (l : List En) (k : Nat) : Bool := entOk (l.getD k en0) && (k == 0 || lessB (tx (l.getD (k - 1) en0).1) (tx (l.getD k en0).1))
def entsV (l : List En) : Bool := decide (l.length ≤ 3) && (List.range l.length).all (entAt l)
def SortE (l : List En) : Prop := l.Pairwise fun a b => lessB (tx a.1) (tx b.1) = true
theorem getD_en {l : List En} {k : Nat} (h : k < l.length) : l.getD k en0 = l[k] := by rw [List.getD_eq_getElem?_getD, List.getElem?_eq_getElem h]; rfl
theorem entsV_iff {l : List En} : entsV l = true ↔ l.length ≤ 3 ∧ (∀ p ∈ l, entOk p = true) ∧ SortE l := by
  unfold entsV
  rw [Bool.and_eq_true, decide_eq_true_eq, List.all_eq_true]
  constructor
  · rintro ⟨h1, h2⟩
    have hk : ∀ k (h : k < l.length), entOk l[k] = true ∧ (k = 0 ∨ lessB (tx (l.getD (k - 1) en0).1) (tx l[k].1) = true) := by
      intro k h
      have := h2 k (List.mem_range.2 h)
      unfold entAt at this
      rw [Bool.and_eq_true, Bool.or_eq_true, beq_iff_eq, getD_en h] at this
      exact this
    refine ⟨h1, fun p hp => ?_, ?_⟩
    · obtain ⟨k, h, rfl⟩ := List.getElem_of_mem hp; exact (hk k h).1
    · refine List.pairwise_iff_getElem.2 ?_
      have aux : ∀ j (hj : j < l.length) i (hi : i < l.length), i < j → lessB (tx l[i].1) (tx l[j].1) = true := by
        intro j
        induction j with
        | zero => intro _ i _ h; omega
        | succ j ih =>
          intro hj i hi hij
          have h3 := (hk (j + 1) hj).2
          have h4 : l.getD (j + 1 - 1) en0 = l[j] := getD_en (k := j) (by omega)
          rw [h4] at h3
          rcases h3 with h3 | h3
          · omega
          · by_cases e : i = j
            · subst e; exact h3
            · exact lessB_trans (ih (by omega) i hi (by omega)) h3
      exact fun i j hi hj hij => aux j hj i hi hij
  · rintro ⟨h1, h2, h3⟩
    refine ⟨h1, fun k hk => ?_⟩
    rw [List.mem_range] at hk
    unfold entAt
    rw [Bool.and_eq_true, Bool.or_eq_true, beq_iff_eq, getD_en hk]
    refine ⟨h2 _ (by simp), ?_⟩
    by_cases e : k = 0
    · exact .inl e
    · right
      rw [getD_en (k := k - 1) (by omega)]
      exact List.pairwise_iff_getElem.1 h3 (k - 1) k (by omega) hk (by omega)
theorem entsV_len {l : List En} (h : entsV l = true) : l.length ≤ 3 := (entsV_iff.1 h).1
theorem entsV_sorted {l : List En} (h : entsV l = true) : SortE l := (entsV_iff.1 h).2.2
theorem entsV_ok {l : List En} (h : entsV l = true) {p : En} (hp : p ∈ l) : entOk p = true := (entsV_iff.1 h).2.1 p hp
theorem entOk_iff {p : En} : entOk p = true ↔ wordV (tx p.1) = true ∧ pv p.2 = true := by unfold entOk; rw [Bool.and_eq_true]
theorem entsV_bad {l : List En} {k : Nat} (h : k < l.length) (hb : entAt l k = false) : entsV l = false := by
  cases hv : entsV l
  · rfl
  · unfold entsV at hv
    rw [Bool.and_eq_true, List.all_eq_true] at hv
    rw [hv.2 k (List.mem_range.2 h)] at hb; cases hb
theorem entsV_long {l : List En} (h : ¬ l.length ≤ 3) : entsV l = false := by unfold entsV; rw [decide_eq_false h]; rfl
def EntUpto (l : List En) (k : Nat) : Prop := ∀ j, j < k → entAt l j = true
theorem EntUpto.zero (l : List En) : EntUpto l 0 := fun j h => by omega
theorem EntUpto.succ {l : List En} {k : Nat} (h : EntUpto l k) (hk : entAt l k = true) : EntUpto l (k + 1) := fun j hj => by
  by_cases e : j = k
  · subst e; exact hk
  · exact h j (by omega)
theorem EntUpto.done {l : List En} {k : Nat} (h : EntUpto l k) (hk : ¬ k < l.length) (hl : l.length ≤ 3) : entsV l = true := by
  unfold entsV; rw [decide_eq_true hl, Bool.true_and, List.all_eq_true]
  intro j hj; rw [List.mem_range] at hj; exact h j (by omega)
theorem entsV_nil : entsV [] = true := rfl
theorem entsV_sub {l m : List En} (h : entsV l = true) (hs : m.Sublist l) : entsV m = true := by
  obtain ⟨h1, h2, h3⟩ := entsV_iff.1 h
  exact entsV_iff.2 ⟨Nat.le_trans hs.length_le h1, fun p hp => h2 p (hs.subset hp), h3.sublist hs⟩

/-! ### where a name stands -/
def posE (l : List En) (n : Bs) : Nat := (l.takeWhile fun x => lessB (tx x.1) n).length
theorem posE_le (l : List En) (n : Bs) : posE l n ≤ l.length := (List.takeWhile_sublist _).length_le
theorem posE_of : ∀ (l : List En) (n : Bs) (i : Nat), i ≤ l.length → (∀ t (h : t < l.length), t < i → lessB (tx l[t].1) n = true) → (∀ h : i < l.length, lessB (tx l[i].1) n = false) → posE l n = i
  | [], n, i, hi, _, _ => by simp at hi; subst hi; rfl
  | x :: r, n, 0, _, _, h2 => by
    have := h2 (by simp)
    simp at this
    unfold posE; rw [List.takeWhile_cons]
    rw [if_neg (by simp [this])]; rfl
  | x :: r, n, i + 1, hi, h1, h2 => by
    have h0 := h1 0 (by simp) (by omega)
    simp at h0
    have ih := posE_of r n i (by simpa using hi) (fun t h ht => h1 (t + 1) (Nat.succ_lt_succ h) (Nat.succ_lt_succ ht)) (fun h => h2 (Nat.succ_lt_succ h))
    unfold posE at ih ⊢
    rw [List.takeWhile_cons, if_pos h0, List.length_cons, ih]
theorem posE_lt : ∀ (l : List En) (n : Bs) (t : Nat) (h : t < l.length), t < posE l n → lessB (tx l[t].1) n = true
  | x :: r, n, t, h, ht => by
    unfold posE at ht
    rw [List.takeWhile_cons] at ht
    split at ht
    · rename_i hx
      cases t with
      | zero => simpa using hx
      | succ t => simpa using posE_lt r n t (by simpa using h) (by unfold posE; simpa using ht)
    · simp at ht
theorem posE_ge : ∀ (l : List En) (n : Bs) (h : posE l n < l.length), lessB (tx l[posE l n].1) n = false
  | [], n, h => by simp at h
  | x :: r, n, h => by
    by_cases hx : lessB (tx x.1) n = true
    · have e : posE (x :: r) n = posE r n + 1 := by unfold posE; rw [List.takeWhile_cons, if_pos hx]; rfl
      have h' : posE r n < r.length := by rw [e] at h; simpa using h
      have := posE_ge r n h'
      simp only [e, List.getElem_cons_succ]; exact this
    · have e : posE (x :: r) n = 0 := by unfold posE; rw [List.takeWhile_cons, if_neg hx]; rfl
      simp only [e, List.getElem_cons_zero]; simpa using hx
def hereE (l : List En) (n : Bs) : Bool := decide (posE l n < l.length) && (tx (l.getD (posE l n) en0).1 == n)
def getE (l : List En) (n : Bs) : Option Int := (l.find? fun x => tx x.1 == n).map (·.2)
theorem getE_some {l : List En} {n : Bs} {p : Int} (h : getE l n = some p) : (mk n, p) ∈ l := by
  unfold getE at h
  obtain ⟨x, hx, rfl⟩ := Option.map_eq_some_iff.1 h
  have h1 := List.mem_of_find?_eq_some hx
  have h2 := List.find?_some hx
  simp at h2
  have e : x = (mk n, x.2) := Prod.ext (tx_inj (by rw [h2]; rfl)) rfl
  rw [← e]; exact h1
theorem getE_none_iff {l : List En} {n : Bs} : getE l n = none ↔ ∀ x ∈ l, tx x.1 ≠ n := by
  unfold getE
  rw [Option.map_eq_none_iff, List.find?_eq_none]
  simp
theorem sortE_inj {l : List En} (h : SortE l) {a b : En} (ha : a ∈ l) (hb : b ∈ l) (e : tx a.1 = tx b.1) : a = b := by
  obtain ⟨i, hi, rfl⟩ := List.getElem_of_mem ha
  obtain ⟨j, hj, rfl⟩ := List.getElem_of_mem hb
  have hp := List.pairwise_iff_getElem.1 h
  by_cases h1 : i < j
  · have := hp i j hi hj h1; rw [e, lessB_irrefl] at this; cases this
  · by_cases h2 : j < i
    · have := hp j i hj hi h2; rw [e, lessB_irrefl] at this; cases this
    · have : i = j := by omega
      subst this; rfl
theorem getE_mem {l : List En} (hs : SortE l) {n : Bs} {p : Int} (h : (mk n, p) ∈ l) : getE l n = some p := by
  cases hg : getE l n with
  | none => exact absurd rfl (getE_none_iff.1 hg _ h)
  | some u =>
    have := sortE_inj hs (getE_some hg) h rfl
    injection this with _ e; rw [e]
theorem getE_here {l : List En} (hs : SortE l) {n : Bs} : getE l n = if hereE l n then some (l.getD (posE l n) en0).2 else none := by
  unfold hereE
  by_cases hlt : posE l n < l.length
  · rw [decide_eq_true hlt, Bool.true_and, getD_en hlt]
    by_cases e : tx l[posE l n].1 = n
    · rw [beq_iff_eq.2 e, if_pos rfl]
      exact getE_mem hs (by
        have e2 : (mk n, l[posE l n].2) = l[posE l n] := Prod.ext (tx_inj (by rw [e]; rfl)) rfl
        rw [e2]; exact List.getElem_mem hlt)
    · rw [beq_eq_false_iff_ne.2 e, if_neg (by simp)]
      refine getE_none_iff.2 fun x hx hxe => ?_
      obtain ⟨t, ht, rfl⟩ := List.getElem_of_mem hx
      by_cases h1 : t < posE l n
      · have := posE_lt l n t ht h1; rw [hxe, lessB_irrefl] at this; cases this
      · by_cases e2 : posE l n = t
        · subst e2; exact e hxe
        · have h2 := posE_ge l n hlt
          have h3 := List.pairwise_iff_getElem.1 hs (posE l n) t hlt ht (by omega)
          rw [hxe] at h3; rw [h3] at h2; cases h2
  · rw [decide_eq_false hlt, Bool.false_and, if_neg (by simp)]
    refine getE_none_iff.2 fun x hx hxe => ?_
    obtain ⟨t, ht, rfl⟩ := List.getElem_of_mem hx
    have := posE_lt l n t ht (by omega)
    rw [hxe, lessB_irrefl] at this; cases this
theorem posE_sorted {l : List En} (hs : SortE l) {n : Bs} {t : Nat} (h : t < l.length) (ht : posE l n ≤ t) : lessB (tx l[t].1) n = false := by
  by_cases e : posE l n = t
  · subst e; exact posE_ge l n h
  · cases h1 : lessB (tx l[t].1) n
    · rfl
    · have h2 := posE_ge l n (by omega)
      have h3 := List.pairwise_iff_getElem.1 hs (posE l n) t (by omega) h (by omega)
      rw [lessB_trans h3 h1] at h2; cases h2

/-! ### one entry more, one less -/
def insE (l : List En) (e : En) : List En := l.take (posE l (tx e.1)) ++ e :: l.drop (posE l (tx e.1) + if hereE l (tx e.1) then 1 else 0)
def putE (l : List En) (e : En) : List En × Bool := if entsV l then (if entsV (insE l e) then (insE l e, true) else (l, false)) else ([], false)
def dropE (l : List En) (n : Bs) : List En × Bool := if entsV l then (if hereE l n then (l.take (posE l n) ++ l.drop (posE l n + 1), true) else (l, false)) else ([], false)
theorem hereE_iff {l : List En} {n : Bs} : hereE l n = true ↔ ∃ h : posE l n < l.length, tx l[posE l n].1 = n := by
  unfold hereE
  rw [Bool.and_eq_true, decide_eq_true_eq, beq_iff_eq]
  constructor
  · rintro ⟨h1, h2⟩; rw [getD_en h1] at h2; exact ⟨h1, h2⟩
  · rintro ⟨h1, h2⟩; rw [getD_en h1]; exact ⟨h1, h2⟩
theorem hereE_get {l : List En} (hs : SortE l) {n : Bs} : hereE l n = (getE l n).isSome := by
  rw [getE_here hs]; cases hereE l n <;> rfl
theorem mem_insE {l : List En} (hs : SortE l) (e x : En) : x ∈ insE l e ↔ x = e ∨ (x ∈ l ∧ tx x.1 ≠ tx e.1) := by
  unfold insE
  rw [List.mem_append, List.mem_cons]
  have hlo : ∀ a ∈ l.take (posE l (tx e.1)), tx a.1 ≠ tx e.1 := by
    intro a ha he
    obtain ⟨t, ht, rfl⟩ := List.getElem_of_mem ha
    rw [List.length_take] at ht
    rw [List.getElem_take] at he
    have := posE_lt l (tx e.1) t (by omega) (by omega)
    rw [he, lessB_irrefl] at this; cases this
  cases hh : hereE l (tx e.1)
  · simp only [Bool.false_eq_true, if_false, Nat.add_zero]
    rw [hereE_get hs, Option.isSome_eq_false_iff, Option.isNone_iff_eq_none] at hh
    have hn := getE_none_iff.1 hh
    constructor
    · rintro (h | h | h)
      · exact .inr ⟨List.mem_of_mem_take h, hlo _ h⟩
      · exact .inl h
      · exact .inr ⟨List.mem_of_mem_drop h, hn _ (List.mem_of_mem_drop h)⟩
    · rintro (h | ⟨h, _⟩)
      · exact .inr (.inl h)
      · rw [← List.take_append_drop (posE l (tx e.1)) l, List.mem_append] at h
        exact h.elim .inl fun h => .inr (.inr h)
  · simp only [if_true]
    obtain ⟨hp, he⟩ := hereE_iff.1 hh
    have hdr : l.drop (posE l (tx e.1)) = l[posE l (tx e.1)] :: l.drop (posE l (tx e.1) + 1) := List.drop_eq_getElem_cons hp
    constructor
    · rintro (h | h | h)
      · exact .inr ⟨List.mem_of_mem_take h, hlo _ h⟩
      · exact .inl h
      · refine .inr ⟨List.mem_of_mem_drop h, fun hx => ?_⟩
        obtain ⟨t, ht, rfl⟩ := List.getElem_of_mem h
        rw [List.length_drop] at ht
        rw [List.getElem_drop] at hx
        have h3 := List.pairwise_iff_getElem.1 hs (posE l (tx e.1)) (posE l (tx e.1) + 1 + t) hp (by omega) (by omega)
        rw [hx, he, lessB_irrefl] at h3; cases h3
    · rintro (h | ⟨h, hne⟩)
      · exact .inr (.inl h)
      · rw [← List.take_append_drop (posE l (tx e.1)) l, List.mem_append, hdr, List.mem_cons] at h
        rcases h with h | h | h
        · exact .inl h
        · rw [h] at hne; exact absurd he hne
        · exact .inr (.inr h)
theorem insE_sorted {l : List En} (hs : SortE l) (e : En) : SortE (insE l e) := by
  unfold insE SortE
  rw [List.pairwise_append, List.pairwise_cons]
  have hlo : ∀ a ∈ l.take (posE l (tx e.1)), lessB (tx a.1) (tx e.1) = true := by
    intro a ha
    obtain ⟨t, ht, rfl⟩ := List.getElem_of_mem ha
    rw [List.length_take] at ht
    rw [List.getElem_take]
    exact posE_lt l (tx e.1) t (by omega) (by omega)
  have hhi : ∀ b ∈ l.drop (posE l (tx e.1) + if hereE l (tx e.1) then 1 else 0), lessB (tx e.1) (tx b.1) = true := by
    intro b hb
    have hm := List.mem_of_mem_drop hb
    obtain ⟨t, ht, rfl⟩ := List.getElem_of_mem hb
    rw [List.length_drop] at ht
    rw [List.getElem_drop] at hm ⊢
    generalize hq : posE l (tx e.1) + (if hereE l (tx e.1) then 1 else 0) = q at *
    have hq2 : posE l (tx e.1) ≤ q := by rw [← hq]; omega
    have h1 := posE_sorted hs (n := tx e.1) (t := q + t) (by omega) (by omega)
    cases h2 : lessB (tx e.1) (tx l[q + t].1)
    · have h3 := lessB_tri h1 h2
      cases hh : hereE l (tx e.1)
      · rw [hereE_get hs, Option.isSome_eq_false_iff, Option.isNone_iff_eq_none] at hh
        exact absurd h3 (getE_none_iff.1 hh _ hm)
      · rw [hh, if_pos rfl] at hq
        obtain ⟨hp, he⟩ := hereE_iff.1 hh
        have h4 := List.pairwise_iff_getElem.1 hs (posE l (tx e.1)) (q + t) hp (by omega) (by omega)
        rw [he, h3, lessB_irrefl] at h4; cases h4
    · rfl
  refine ⟨hs.sublist (List.take_sublist _ _), ⟨hhi, hs.sublist (List.drop_sublist _ _)⟩, fun a ha b hb => ?_⟩
  have h1 := hlo a ha
  rcases List.mem_cons.1 hb with rfl | hb
  · exact h1
  · exact lessB_trans h1 (hhi b hb)
theorem insE_len (l : List En) (e : En) : (insE l e).length ≤ l.length + 1 := by
  have := posE_le l (tx e.1)
  unfold insE; simp; omega
theorem dropE_filter {l : List En} (h : entsV l = true) (n : Bs) : (dropE l n).1 = l.filter fun x => !(tx x.1 == n) := by
  have hs := entsV_sorted h
  unfold dropE
  rw [h, if_pos rfl]
  cases hh : hereE l n
  · rw [hereE_get hs, Option.isSome_eq_false_iff, Option.isNone_iff_eq_none] at hh
    have hn := getE_none_iff.1 hh
    rw [if_neg (by simp)]
    refine (List.filter_eq_self.2 fun x hx => ?_).symm
    simpa using hn x hx
  · rw [if_pos rfl]
    obtain ⟨hp, he⟩ := hereE_iff.1 hh
    have hdr : l.drop (posE l n) = l[posE l n] :: l.drop (posE l n + 1) := List.drop_eq_getElem_cons hp
    conv => rhs; rw [← List.take_append_drop (posE l n) l, hdr, List.filter_append, List.filter_cons]
    rw [if_neg (by simp [he])]
    show l.take (posE l n) ++ l.drop (posE l n + 1) = _
    congr 1
    · refine (List.filter_eq_self.2 fun x hx => ?_).symm
      obtain ⟨t, ht, rfl⟩ := List.getElem_of_mem hx
      rw [List.length_take] at ht
      rw [List.getElem_take]
      have := posE_lt l n t (by omega) (by omega)
      simp only [Bool.not_eq_true', beq_eq_false_iff_ne]
      intro e; rw [e, lessB_irrefl] at this; cases this
    · refine (List.filter_eq_self.2 fun x hx => ?_).symm
      obtain ⟨t, ht, rfl⟩ := List.getElem_of_mem hx
      rw [List.length_drop] at ht
      rw [List.getElem_drop]
      have h4 := List.pairwise_iff_getElem.1 hs (posE l n) (posE l n + 1 + t) hp (by omega) (by omega)
      simp only [Bool.not_eq_true', beq_eq_false_iff_ne]
      intro e; rw [he, e, lessB_irrefl] at h4; cases h4
theorem dropE_ok {l : List En} (h : entsV l = true) (n : Bs) : (dropE l n).2 = hereE l n := by
  unfold dropE; rw [h, if_pos rfl]; cases hereE l n <;> rfl
theorem dropE_valid {l : List En} (h : entsV l = true) (n : Bs) : entsV (dropE l n).1 = true := by
  rw [dropE_filter h]; exact entsV_sub h List.filter_sublist
theorem dropE_bad {l : List En} (h : entsV l = false) (n : Bs) : dropE l n = ([], false) := by unfold dropE; rw [h]; rfl
theorem dropE_lt {l : List En} (h : entsV l = true) (n : Bs) : decide ((dropE l n).1.length < l.length) = hereE l n := by
  unfold dropE
  rw [h, if_pos rfl]
  cases hh : hereE l n
  · simp
  · obtain ⟨hp, _⟩ := hereE_iff.1 hh
    simp; omega
theorem putE_here {l : List En} (h : entsV l = true) {e : En} (he : entOk e = true) (hh : hereE l (tx e.1) = true) : putE l e = (insE l e, true) := by
  unfold putE
  rw [h, if_pos rfl, if_pos]
  refine entsV_iff.2 ⟨?_, fun p hp => ?_, insE_sorted (entsV_sorted h) e⟩
  · obtain ⟨hp, _⟩ := hereE_iff.1 hh
    have := entsV_len h
    unfold insE; rw [hh]; simp; omega
  · rcases (mem_insE (entsV_sorted h) e p).1 hp with rfl | ⟨hp, _⟩
    · exact he
    · exact entsV_ok h hp
theorem putE_bad {l : List En} (h : entsV l = false) (e : En) : putE l e = ([], false) := by unfold putE; rw [h]; rfl
theorem putE_ok {l : List En} {e : En} (h : (putE l e).2 = true) : entsV l = true ∧ entsV (putE l e).1 = true ∧ (putE l e).1 = insE l e := by
  unfold putE at h ⊢
  cases h1 : entsV l
  · rw [h1] at h; cases h
  · rw [h1, if_pos rfl] at h
    rw [if_pos rfl]
    cases h2 : entsV (insE l e)
    · rw [h2] at h; cases h
    · exact ⟨rfl, h2, rfl⟩
theorem putE_len (l : List En) (e : En) : (putE l e).1.length ≤ 3 := by
  unfold putE
  cases h1 : entsV l
  · simp
  · rw [if_pos rfl]
    split
    · rename_i h; exact entsV_len h
    · exact entsV_len h1
--END
end Go.Proofs.YtbpngpcjjinneaaDoor

/- Folders' texts, files, paths, walks, in plain Lean. No program in sight. -/
set_option linter.unusedVariables false
namespace Go.Proofs.YtbpngpcjjinneaaDoor
--BEGIN
/-! ### a folder's text -/
def entT (e : En) : Bs := tx e.1 ++ 61 :: (hexT e.2 ++ [59])
def foldB (l : List En) : Bs := 100 :: l.flatMap entT
def foldT (l : List En) : Bs := if entsV l then foldB l else []
def headN (s : Bs) : Bs := s.takeWhile fun c => c != 61
def tailN (s : Bs) : Bs := s.drop ((headN s).length + 1)
def headD' (s : Bs) : Bs := s.takeWhile fun c => c != 59
def tailD (s : Bs) : Bs := s.drop ((headD' s).length + 1)
def parE : Nat → Bs → Option (List En)
  | 0, s => if s = [] then some [] else none
  | n + 1, s => if s = [] then some [] else (parE n (tailD (tailN s))).map fun l => (mk (headN s), readH (headD' (tailN s))) :: l
def readF (s : Bs) : Option (List En) := match parE 3 (s.drop 1) with | some l => if entsV l && (foldB l == s) then some l else none | none => none
theorem word_chars {s : Bs} (h : wordV s = true) : ∀ c ∈ s, smallC c = true ∨ digitC c = true := by
  unfold wordV at h
  rw [Bool.and_eq_true, List.all_eq_true] at h
  intro c hc
  have := h.2 c hc
  rwa [Bool.or_eq_true] at this
theorem word_range {c : UInt8} (h : smallC c = true ∨ digitC c = true) : (48 ≤ c.toNat ∧ c.toNat ≤ 57) ∨ (97 ≤ c.toNat ∧ c.toNat ≤ 122) := by
  unfold smallC digitC inI at h
  rw [decide_eq_true_eq, decide_eq_true_eq] at h
  omega
theorem hex_range {c : UInt8} (h : (hexV c).isSome = true) : (48 ≤ c.toNat ∧ c.toNat ≤ 57) ∨ (97 ≤ c.toNat ∧ c.toNat ≤ 122) := by
  unfold hexV at h
  split at h
  · rename_i h1; exact word_range (.inr h1)
  · split at h
    · rename_i h1; unfold inI at h1; rw [decide_eq_true_eq] at h1; omega
    · cases h
theorem byte_ne {c : UInt8} {n : Nat} (hn : n < 256) (h : c.toNat ≠ n) : c ≠ UInt8.ofNat n := by
  intro e; apply h; rw [e, UInt8.toNat_ofNat']; omega
theorem range_ne {c : UInt8} (h : (48 ≤ c.toNat ∧ c.toNat ≤ 57) ∨ (97 ≤ c.toNat ∧ c.toNat ≤ 122)) : c ≠ 61 ∧ c ≠ 59 ∧ c ≠ 47 ∧ c ≠ 32 ∧ okC c = true := by
  refine ⟨byte_ne (n := 61) (by omega) (by omega), byte_ne (n := 59) (by omega) (by omega), byte_ne (n := 47) (by omega) (by omega), byte_ne (n := 32) (by omega) (by omega), ?_⟩
  unfold okC; rw [decide_eq_true_eq]; omega
theorem takeWhile_stop {p : UInt8 → Bool} {a : Bs} {c : UInt8} {r : Bs} (ha : ∀ x ∈ a, p x = true) (hc : p c = false) : (a ++ c :: r).takeWhile p = a := by
  rw [List.takeWhile_append_of_pos ha, List.takeWhile_cons, hc]; simp
theorem drop_past (a : Bs) (c : UInt8) (r : Bs) : (a ++ c :: r).drop (a.length + 1) = r := by
  rw [List.drop_append]; simp
theorem entT_word {e : En} (h : entOk e = true) : ∀ c ∈ tx e.1, (c != 61) = true := fun c hc => by
  have := (range_ne (word_range (word_chars (entOk_iff.1 h).1 c hc))).1; simpa using this
theorem entT_hex (n : Int) : ∀ c ∈ hexT n, (c != 59) = true := fun c hc => by
  have := (range_ne (hex_range (hexT_chars n c hc))).2.1; simpa using this
theorem headN_ent {e : En} (h : entOk e = true) (r : Bs) : headN (entT e ++ r) = tx e.1 := by
  unfold headN entT
  rw [List.append_assoc, List.cons_append]
  exact takeWhile_stop (entT_word h) (by decide)
theorem tailN_ent {e : En} (h : entOk e = true) (r : Bs) : tailN (entT e ++ r) = hexT e.2 ++ 59 :: r := by
  unfold tailN
  rw [headN_ent h]
  unfold entT
  rw [List.append_assoc, List.cons_append, drop_past, List.append_assoc]; rfl
theorem headD_ent (n : Int) (r : Bs) : headD' (hexT n ++ 59 :: r) = hexT n := takeWhile_stop (entT_hex n) (by decide)
theorem tailD_ent (n : Int) (r : Bs) : tailD (hexT n ++ 59 :: r) = r := by unfold tailD; rw [headD_ent, drop_past]
theorem entT_ne (e : En) (r : Bs) : entT e ++ r ≠ [] := by unfold entT; simp
theorem parE_ok : ∀ (n : Nat) (l : List En), l.length ≤ n → (∀ e ∈ l, entOk e = true) → parE n (l.flatMap entT) = some l
  | 0, l, hn, _ => by
    have : l = [] := List.eq_nil_of_length_eq_zero (by omega)
    subst this; rfl
  | n + 1, [], _, _ => rfl
  | n + 1, e :: r, hn, h => by
    have he := h e (by simp)
    rw [List.flatMap_cons, parE, if_neg (entT_ne _ _), headN_ent he, tailN_ent he, headD_ent, tailD_ent, parE_ok n r (by simpa using hn) (fun x hx => h x (by simp [hx])), readH_hexT (entOk_iff.1 he).2]
    rw [mk_tx]; rfl
theorem readF_iff {s : Bs} {l : List En} : readF s = some l ↔ entsV l = true ∧ foldB l = s := by
  unfold readF
  constructor
  · intro h
    split at h
    · split at h
      · rename_i hc
        injection h with h; subst h
        rw [Bool.and_eq_true, beq_iff_eq] at hc; exact hc
      · cases h
    · cases h
  · rintro ⟨h1, rfl⟩
    have e : (foldB l).drop 1 = l.flatMap entT := rfl
    rw [e, parE_ok 3 l (entsV_len h1) (fun x hx => entsV_ok h1 hx)]
    show (if entsV l && (foldB l == foldB l) then some l else none) = some l
    rw [h1]; simp
theorem readF_none {s : Bs} (h : ∀ l, entsV l = true → foldB l ≠ s) : readF s = none := by
  cases hr : readF s with
  | none => rfl
  | some l => obtain ⟨h1, h2⟩ := readF_iff.1 hr; exact absurd h2 (h l h1)
theorem foldB_inj {l m : List En} (h1 : entsV l = true) (h2 : entsV m = true) (h : foldB l = foldB m) : l = m := by
  have a := readF_iff.2 ⟨h1, h⟩
  have b := readF_iff.2 ⟨h2, rfl⟩
  rw [a] at b; injection b
theorem readF_foldT {l : List En} (h : entsV l = true) : readF (foldT l) = some l := by unfold foldT; rw [h, if_pos rfl]; exact readF_iff.2 ⟨h, rfl⟩
theorem entT_len (e : En) (h : entOk e = true) : (entT e).length ≤ 16 := by
  have h1 := hexT_len e.2
  have h2 : (tx e.1).length ≤ 8 := by
    have := (entOk_iff.1 h).1; unfold wordV at this; rw [Bool.and_eq_true, Bool.and_eq_true, decide_eq_true_eq] at this; exact this.1.1.2
  unfold entT
  rw [List.length_append, List.length_cons, List.length_append, List.length_singleton]; omega
theorem flat_ent_len : ∀ l : List En, (∀ e ∈ l, entOk e = true) → (l.flatMap entT).length ≤ 16 * l.length
  | [], _ => by simp
  | e :: r, h => by
    have h1 := entT_len e (h e (by simp))
    have h2 := flat_ent_len r fun x hx => h x (by simp [hx])
    rw [List.flatMap_cons, List.length_append, List.length_cons]; omega
theorem foldB_len {l : List En} (h : entsV l = true) : (foldB l).length ≤ 49 := by
  have h1 := flat_ent_len l fun e he => entsV_ok h he
  have h2 := entsV_len h
  unfold foldB; rw [List.length_cons]; omega
theorem foldT_len (l : List En) : (foldT l).length ≤ 49 := by
  unfold foldT; split
  · rename_i h; exact foldB_len h
  · simp
theorem entT_ok {e : En} (h : entOk e = true) : ∀ c ∈ entT e, okC c = true := by
  intro c hc
  unfold entT at hc
  rw [List.mem_append, List.mem_cons, List.mem_append, List.mem_singleton] at hc
  rcases hc with hc | rfl | hc | rfl
  · exact (range_ne (word_range (word_chars (entOk_iff.1 h).1 c hc))).2.2.2.2
  · decide
  · exact (range_ne (hex_range (hexT_chars _ c hc))).2.2.2.2
  · decide
theorem foldB_text {l : List En} (h : entsV l = true) : textV (foldB l) = true := by
  unfold textV
  rw [Bool.and_eq_true, decide_eq_true_eq, List.all_eq_true]
  refine ⟨by have := foldB_len h; omega, fun c hc => ?_⟩
  unfold foldB at hc
  rcases List.mem_cons.1 hc with rfl | hc
  · decide
  · obtain ⟨e, he, hc⟩ := List.mem_flatMap.1 hc
    exact entT_ok (entsV_ok h he) c hc

/-! ### files -/
def contV (s : Bs) : Bool := textV s && decide (s.length ≤ 40)
def fileT (s : Bs) : Bs := if contV s then 102 :: s else []
def readFi (s : Bs) : Option Bs := match s with | [] => none | c :: r => if c == 102 && contV r then some r else none
def textK (s : Bs) : Int := if (readFi s).isSome then 1 else if (readF s).isSome then 2 else 0
theorem readFi_iff {s r : Bs} : readFi s = some r ↔ s = 102 :: r ∧ contV r = true := by
  unfold readFi
  cases s with
  | nil => simp
  | cons c t =>
    simp only
    constructor
    · intro h
      split at h
      · rename_i hc
        injection h with h; subst h
        rw [Bool.and_eq_true, beq_iff_eq] at hc
        exact ⟨by rw [hc.1], hc.2⟩
      · cases h
    · rintro ⟨h1, h2⟩
      injection h1 with h3 h4; subst h3 h4
      rw [h2]; simp
theorem readF_file {s : Bs} (h : (readFi s).isSome = true) : readF s = none := by
  obtain ⟨r, hr⟩ := Option.isSome_iff_exists.1 h
  obtain ⟨rfl, _⟩ := readFi_iff.1 hr
  refine readF_none fun l _ e => ?_
  unfold foldB at e; injection e with e _; exact absurd e (by decide)
theorem textK_two {s : Bs} : textK s = 2 ↔ (readF s).isSome = true := by
  unfold textK
  cases h : (readFi s).isSome
  · cases h2 : (readF s).isSome <;> simp
  · rw [readF_file h]; simp
theorem textK_one {s : Bs} : textK s = 1 ↔ (readFi s).isSome = true := by
  unfold textK
  cases h : (readFi s).isSome
  · cases h2 : (readF s).isSome <;> simp
  · simp
theorem fileT_ok {s : Bs} (h : contV s = true) : fileT s = 102 :: s := by unfold fileT; rw [h, if_pos rfl]
theorem fileT_text {s : Bs} (h : contV s = true) : textV (fileT s) = true := by
  rw [fileT_ok h]
  unfold contV textV at h
  rw [Bool.and_eq_true, Bool.and_eq_true, decide_eq_true_eq, decide_eq_true_eq] at h
  unfold textV
  rw [Bool.and_eq_true, decide_eq_true_eq, List.all_cons, Bool.and_eq_true]
  exact ⟨by simp; omega, by decide, h.1.2⟩
theorem readFi_fileT {s : Bs} (h : contV s = true) : readFi (fileT s) = some s := readFi_iff.2 ⟨fileT_ok h, h⟩

/-! ### paths -/
def joinB (ps : List Bs) : Bs := ps.flatMap fun p => 47 :: p
def partsV (ps : List Bs) : Bool := decide (ps.length ≤ 3) && ps.all wordV
def joinP (ps : List Bs) : Bs := if partsV ps then (if ps = [] then [47] else joinB ps) else []
def splitS (c : UInt8) : Bs → List Bs
  | [] => [[]]
  | x :: r => if x = c then [] :: splitS c r else match splitS c r with | p :: ps => (x :: p) :: ps | [] => [[x]]
theorem splitS_ne (c : UInt8) (s : Bs) : splitS c s ≠ [] := by
  cases s with
  | nil => simp [splitS]
  | cons x r =>
    rw [splitS]; split
    · simp
    · split <;> simp
theorem joinB_split : ∀ s : Bs, joinB (splitS 47 s) = 47 :: s
  | [] => rfl
  | x :: r => by
    rw [splitS]
    have ih := joinB_split r
    split
    · rename_i h
      subst h
      unfold joinB at ih ⊢
      rw [List.flatMap_cons, ih]; rfl
    · split
      · rename_i p ps he
        rw [he] at ih
        unfold joinB at ih ⊢
        rw [List.flatMap_cons] at ih ⊢
        injection ih with _ ih
        show 47 :: x :: (p.append _) = _
        rw [ih]
      · rename_i he; exact absurd he (splitS_ne 47 r)
def pathP (s : Bs) : Option (List Bs) := if s = [47] then some [] else if s.headD 0 = 47 then (if partsV (splitS 47 s.tail) then some (splitS 47 s.tail) else none) else none
theorem pathP_join {s : Bs} {ps : List Bs} (h : pathP s = some ps) : partsV ps = true ∧ joinP ps = s := by
  unfold pathP at h
  split at h
  · rename_i e; injection h with h; subst h e; exact ⟨rfl, rfl⟩
  · split at h
    · rename_i hd
      split at h
      · rename_i hv
        injection h with h; subst h
        refine ⟨hv, ?_⟩
        unfold joinP
        rw [hv, if_pos rfl, if_neg (splitS_ne _ _), joinB_split]
        cases s with
        | nil => exact absurd hd (by decide)
        | cons x r => simp at hd; subst hd; rfl
      · cases h
    · cases h
theorem splitS_word {p : Bs} (hp : ∀ c ∈ p, c ≠ 47) : splitS 47 p = [p] := by
  induction p with
  | nil => rfl
  | cons x r ih =>
    rw [splitS, if_neg (hp x (by simp)), ih fun c hc => hp c (by simp [hc])]
theorem splitS_join {p : Bs} (hp : ∀ c ∈ p, c ≠ 47) (r : Bs) : splitS 47 (p ++ 47 :: r) = p :: splitS 47 r := by
  induction p with
  | nil => rw [List.nil_append, splitS, if_pos rfl]
  | cons x q ih =>
    rw [List.cons_append, splitS, if_neg (hp x (by simp)), ih fun c hc => hp c (by simp [hc])]
theorem word_noslash {p : Bs} (h : wordV p = true) : ∀ c ∈ p, c ≠ 47 := fun c hc => (range_ne (word_range (word_chars h c hc))).2.2.1
theorem split_joinB : ∀ (ps : List Bs) (p : Bs), wordV p = true → (∀ q ∈ ps, wordV q = true) → splitS 47 (p ++ joinB ps) = p :: ps
  | [], p, hp, _ => by unfold joinB; rw [List.flatMap_nil, List.append_nil]; exact splitS_word (word_noslash hp)
  | q :: r, p, hp, h => by
    have e : p ++ joinB (q :: r) = p ++ 47 :: (q ++ joinB r) := by unfold joinB; rw [List.flatMap_cons]; rfl
    rw [e, splitS_join (word_noslash hp), split_joinB r q (h q (by simp)) fun x hx => h x (by simp [hx])]
theorem partsV_iff {ps : List Bs} : partsV ps = true ↔ ps.length ≤ 3 ∧ ∀ p ∈ ps, wordV p = true := by unfold partsV; rw [Bool.and_eq_true, decide_eq_true_eq, List.all_eq_true]
theorem word_ne {p : Bs} (h : wordV p = true) : p ≠ [] := by
  intro e; subst e; cases h
theorem pathP_of {ps : List Bs} (h : partsV ps = true) : pathP (joinP ps) = some ps := by
  obtain ⟨h1, h2⟩ := partsV_iff.1 h
  unfold joinP
  rw [h, if_pos rfl]
  cases ps with
  | nil => rfl
  | cons p r =>
    rw [if_neg (by simp)]
    have e : joinB (p :: r) = 47 :: (p ++ joinB r) := by unfold joinB; rw [List.flatMap_cons]; rfl
    have hne := word_ne (h2 p (by simp))
    unfold pathP
    rw [e, if_neg (by intro e2; injection e2 with _ e2; rw [List.append_eq_nil_iff] at e2; exact hne e2.1), if_pos (by rfl), List.tail_cons, split_joinB r p (h2 p (by simp)) fun x hx => h2 x (by simp [hx]), h, if_pos rfl]
theorem joinP_inj {a b : List Bs} (ha : partsV a = true) (hb : partsV b = true) (h : joinP a = joinP b) : a = b := by
  have h1 := pathP_of ha
  have h2 := pathP_of hb
  rw [h, h2] at h1; injection h1 with h1; exact h1.symm
def belowP (path above : Bs) : Bool := match pathP path, pathP above with | some a, some b => b.isPrefixOf a | _, _ => false

/-! ### walks -/
def folderOf (s : List Pc) (p : Int) : Option (List En) := (getT s p).bind fun t => readF (tx t)
def fileOf (s : List Pc) (p : Int) : Option Bs := (getT s p).bind fun t => readFi (tx t)
def walkP (s : List Pc) : Int → List Bs → Option Int
  | p, [] => if (getT s p).isSome then some p else none
  | p, n :: r => (folderOf s p).bind fun l => (getE l n).bind fun q => walkP s q r
def walkTo (s : List Pc) (root : Int) (path : Bs) : Option Int := if storeV s then (pathP path).bind fun ps => walkP s root ps else none
def readAt (s : List Pc) (root : Int) (path : Bs) : Option Bs := (walkTo s root path).bind fun p => fileOf s p
theorem getT_valid {s : List Pc} (hs : storeV s = true) {p : Int} {t : ByteArray} (h : getT s p = some t) : textV (tx t) = true ∧ prOf (tx t) = p ∧ pv p = true := by
  have := pieceOk_iff.1 (storeV_piece hs (getT_some h))
  have h2 : prOf (tx t) = p := this.2
  exact ⟨this.1, h2, by rw [← h2]; exact prOf_pv this.1⟩
theorem folder_valid {s : List Pc} {p : Int} {l : List En} (h : folderOf s p = some l) : entsV l = true := by
  unfold folderOf at h
  obtain ⟨t, _, h2⟩ := Option.bind_eq_some_iff.1 h
  exact (readF_iff.1 h2).1
theorem walkP_there {s : List Pc} : ∀ {ps : List Bs} {p q : Int}, walkP s p ps = some q → (getT s q).isSome = true
  | [], p, q, h => by
    rw [walkP] at h; split at h
    · rename_i hs; injection h with h; subst h; exact hs
    · cases h
  | n :: r, p, q, h => by
    rw [walkP] at h
    obtain ⟨l, _, h⟩ := Option.bind_eq_some_iff.1 h
    obtain ⟨x, _, h⟩ := Option.bind_eq_some_iff.1 h
    exact walkP_there h
--END
end Go.Proofs.YtbpngpcjjinneaaDoor

/- 'append' of a whole slice onto a row of the call's own; 'append' of one struct. -/
set_option linter.unusedVariables false
namespace Go.Proofs.YtbpngpcjjinneaaDoor
open Go.RowKit

theorem Own.cz {α : Type} {enc : α → List Value} {w : World} {base size : Nat} {E : TypeId} {A : Option Addr} {n c : Nat} {l : List α} (h : Own w base E size enc (.slice A n c) l) : A = none → c = 0 := by
  rintro rfl
  rcases h.2 with ⟨hv, hn⟩ | ⟨g, cap, cur, hv, hg, hh, hnc, hcm, hsz, ht⟩
  · injection hv
  · injection hv with e; cases e
theorem wpList_appN {P : Program} {α : Type} {enc : α → List Value} {ops : Array Oper} {rest : List Oper} {o : Oper} {a : Act} {Q : Exit → Act → World → Prop} {w0 wr : World} {B base size bytes : Nat} {t E : TypeId} {i : TypeInfo} {z : Value} {v : Value} {l m : List α} {A : Option Addr} {c : Nat}
    (ht : P.underlying t = some (.slice E)) (hi : P.info? E = some i) (hz : i.zero = some z) (hsize : i.size = size) (hby : i.bytes = bytes) (hzs : z.cells.size = size) (hsz : 0 < size) (hb200 : bytes ≤ 256)
    (hgd : o.guard = none) (s x : Operand) (ho : o.op = .call { callee := .builtin .append, args := #[s, x], argTypes := #[t, t] })
    (hown : Own wr base E size enc v l) (hb : Below B w0 wr) (hB : B ≤ base) (hbase : base ≤ wr.heap.size) (hn : l.length + m.length ≤ 33554432)
    (hsl : Sl wr enc size A m) (hcz : A = none → c = 0) (hce : ∀ y, (enc y).length = size) (h1 : ∀ y, ∀ u ∈ enc y, u.oneCell' = true)
    (hs : a.eval s = v) (hx : a.eval x = .slice A m.length c)
    (h : ∀ v' w', Own w' base E size enc v' (l ++ m) → Below B w0 w' → Grew v wr w' → wpList P ops Q rest (a.put o.dst v') w') : wpList P ops Q (o :: rest) a wr := by
  cases A with
  | none =>
    have hm : m = [] := by
      cases m with
      | nil => rfl
      | cons y r => obtain ⟨b, o, e, _⟩ := hsl (by simp); cases e
    subst hm
    rw [hcz rfl] at hx
    refine wpList_append_own_none hgd s x t ho base E i size ht hi v l.length (flat enc l) hs hown hx ?_
    exact h v wr (by rw [List.append_nil]; exact hown) hb (Grew.refl _ _)
  | some ad =>
    refine wpList_append_own _ hgd s x t ho base E i z size bytes ht hi hz hsize hby hzs hsz v l.length (flat enc l) hs hown ad m.length c (flat enc m) hx (flat_length hce m) ?_ ?_ ?_ ?_ hbase ?_
    · intro j u hu
      have hpos : 0 < m.length := by
        have hlt := (List.getElem?_eq_some_iff.1 hu).1
        rw [flat_length hce] at hlt
        cases m with
        | nil => simp at hlt
        | cons y r => simp
      obtain ⟨b, o', e, hc⟩ := hsl hpos
      injection e with e
      subst e
      have hadd : (⟨b, o', none⟩ : Addr).add j = ⟨b, o' + j, none⟩ := by unfold Addr.add; split <;> simp_all
      rw [hadd]; exact hc j u hu
    · intro u hu
      unfold flat at hu
      obtain ⟨y, _, hy⟩ := List.mem_flatMap.1 hu
      exact h1 y u hy
    · unfold maxLen; omega
    · have := Nat.mul_le_mul_left (l.length + m.length) hb200; omega
    · intro v' w' hown' hg _
      refine h v' w' ?_ (hb.grown hg (Nat.le_trans hB hbase) (fun k hk => Nat.le_trans hB (World.ownsRow.lt hown k hk).1)) hg
      show w'.ownsRow base E size v' (l ++ m).length (flat enc (l ++ m))
      rw [flat_append, List.length_append]; exact hown'
theorem oneI : ∀ y, ∀ u ∈ encI y, u.oneCell' = true := by intro y u hu; simp [encI] at hu; subst hu; rfl
theorem oneS : ∀ y, ∀ u ∈ encS y, u.oneCell' = true := by intro y u hu; simp [encS] at hu; subst hu; rfl
theorem oneP : ∀ y, ∀ u ∈ encP y, u.oneCell' = true := by intro y u hu; simp [encP] at hu; rcases hu with rfl | rfl <;> rfl
theorem oneV : ∀ y, ∀ u ∈ encV y, u.oneCell' = true := by intro y u hu; simp [encV] at hu; rcases hu with rfl | rfl | rfl <;> rfl
theorem oneT : ∀ y, ∀ u ∈ encT y, u.oneCell' = true := by intro y u hu; simp [encT] at hu; rcases hu with rfl | rfl | rfl | rfl <;> rfl
section
variable {ops : Array Oper} {rest : List Oper} {o : Oper} {a : Act} {Q : Exit → Act → World → Prop} {w0 wr : World} {v : Value}
theorem app_pcN {l m : List Pc} {A : Option Addr} {c : Nat} {s x : Operand} (hgd : o.guard = none) (ho : o.op = .call { callee := .builtin .append, args := #[s, x], argTypes := #[37, 37] })
    (hown : Own wr w0.heap.size 79 2 encP v l) (hb : Below w0.heap.size w0 wr) (hn : l.length + m.length ≤ 33554432) (hsl : Sl wr encP 2 A m) (hcz : A = none → c = 0)
    (hs : a.eval s = v) (hx : a.eval x = .slice A m.length c)
    (h : ∀ v' w', Own w' w0.heap.size 79 2 encP v' (l ++ m) → Below w0.heap.size w0 w' → Grew v wr w' → wpList Tryd.prog ops Q rest (a.put o.dst v') w') : wpList Tryd.prog ops Q (o :: rest) a wr := by
  obtain ⟨i0, hi0, hz0, hz1, hz2⟩ := info_parts pc_info
  exact wpList_appN Tryd.underlying37 hi0 hz0 hz1 hz2 rfl (by decide) (by decide) hgd s x ho hown hb (Nat.le_refl _) hb.size hn hsl hcz (fun _ => rfl) oneP hs hx h
theorem app_strN {l m : List ByteArray} {A : Option Addr} {c : Nat} {s x : Operand} (hgd : o.guard = none) (ho : o.op = .call { callee := .builtin .append, args := #[s, x], argTypes := #[49, 49] })
    (hown : Own wr w0.heap.size 9 1 encS v l) (hb : Below w0.heap.size w0 wr) (hn : l.length + m.length ≤ 33554432) (hsl : Sl wr encS 1 A m) (hcz : A = none → c = 0)
    (hs : a.eval s = v) (hx : a.eval x = .slice A m.length c)
    (h : ∀ v' w', Own w' w0.heap.size 9 1 encS v' (l ++ m) → Below w0.heap.size w0 w' → Grew v wr w' → wpList Tryd.prog ops Q rest (a.put o.dst v') w') : wpList Tryd.prog ops Q (o :: rest) a wr := by
  obtain ⟨i0, hi0, hz0, hz1, hz2⟩ := info_parts str_info
  exact wpList_appN Tryd.underlying49 hi0 hz0 hz1 hz2 rfl (by decide) (by decide) hgd s x ho hown hb (Nat.le_refl _) hb.size hn hsl hcz (fun _ => rfl) oneS hs hx h
end
/-! ### slices.Clone -/
set_option maxHeartbeats 2000000 in
set_option maxRecDepth 100000 in
theorem ClonePc_any (A : Option Addr) (c : Nat) (l : List Pc) (w : World) (hs : Sl w encP 2 A l) (hcz : A = none → c = 0) (hl : l.length ≤ 16777216) :
    Calls Tryd.prog 87 #[.slice A l.length c] w (OwnRes 79 2 encP l w) := by
  have HS := Lib.hid hs
  have HC := Lib.hid hcz
  clear hs hcz
  have hnil := fun (W : World) (A : Option Addr) (n c : Nat) => Lib.run_eql_slice_nil (P := Tryd.prog) W 37 79 A n c 0 0 Tryd.underlying37
  cases A with
  | none =>
    have hm : l = [] := by
      cases l with
      | nil => rfl
      | cons y r => obtain ⟨b, o, e, _⟩ := HS.out (by simp); cases e
    subst hm
    go_enter Tryd.func87, Tryd.ntmps87
    go_wp2
    go_ret
    exact ⟨_, rfl, Own.nil, Below.refl _ _⟩
  | some ad =>
    go_enter Tryd.func87, Tryd.ntmps87
    go_wp2_with (at_builtin; refine app_pcN rfl rfl (Own.made (Nat.le_refl _)) ((Below.refl _ _).alloc (Nat.le_refl _) _) (by simp; omega) (HS.out.alloc _) HC.out (by rfl) (by rfl) ?_; intro v1 w2 hown2 hb2 hg2; have HW2 := Lib.hid hown2; have HB2 := Lib.hid hb2; clear hown2 hb2 hg2)
    go_ret
    exact ⟨_, rfl, by have h := HW2.out; rwa [List.nil_append] at h, HB2.out⟩
end Go.Proofs.YtbpngpcjjinneaaDoor

/- Entries: the type's facts, slices.Clone, append of one. -/
set_option linter.unusedVariables false
namespace Go.Proofs.YtbpngpcjjinneaaDoor
open Go.RowKit
theorem en_info : (Tryd.prog.info? 126).map (fun i => (i.zero, i.size, i.bytes)) = some (some (.agg #[.string ⟨#[]⟩, .int .i64 0]), 2, 24) := by kernel_rfl
theorem oneE : ∀ y, ∀ u ∈ encE y, u.oneCell' = true := by intro y u hu; simp [encE] at hu; rcases hu with rfl | rfl <;> rfl
section
variable {ops : Array Oper} {rest : List Oper} {o : Oper} {a : Act} {Q : Exit → Act → World → Prop} {w0 wr : World} {v : Value}
theorem app_enN {l m : List En} {A : Option Addr} {c : Nat} {s x : Operand} (hgd : o.guard = none) (ho : o.op = .call { callee := .builtin .append, args := #[s, x], argTypes := #[98, 98] })
    (hown : Own wr w0.heap.size 126 2 encE v l) (hb : Below w0.heap.size w0 wr) (hn : l.length + m.length ≤ 33554432) (hsl : Sl wr encE 2 A m) (hcz : A = none → c = 0)
    (hs : a.eval s = v) (hx : a.eval x = .slice A m.length c)
    (h : ∀ v' w', Own w' w0.heap.size 126 2 encE v' (l ++ m) → Below w0.heap.size w0 w' → Grew v wr w' → wpList Tryd.prog ops Q rest (a.put o.dst v') w') : wpList Tryd.prog ops Q (o :: rest) a wr := by
  obtain ⟨i0, hi0, hz0, hz1, hz2⟩ := info_parts en_info
  exact wpList_appN Tryd.underlying98 hi0 hz0 hz1 hz2 rfl (by decide) (by decide) hgd s x ho hown hb (Nat.le_refl _) hb.size hn hsl hcz (fun _ => rfl) oneE hs hx h
theorem app_en {base : Nat} {l : List En} {y : En} {s x : Operand} (hgd : o.guard = none) (ho : o.op = .call { callee := .builtin .append, args := #[s, x], argTypes := #[98, 98] })
    (hs : a.eval s = v) (hx : a.eval x = .slice (some ⟨wr.heap.size, 0, none⟩) 1 1)
    (hown : Own wr base 126 2 encE v l) (hb : Below w0.heap.size w0 wr) (hB : w0.heap.size ≤ base) (hbase : base ≤ wr.heap.size) (hn : l.length ≤ 16777216)
    (h : ∀ v' w', Own w' base 126 2 encE v' (l ++ [y]) → Below w0.heap.size w0 w' → wpList Tryd.prog ops Q rest (a.put o.dst v') w') : wpList Tryd.prog ops Q (o :: rest) a (wr.alloc (.cells #[.string y.1, .int .i64 y.2] 126)) := by
  obtain ⟨i0, hi0, hz0, hz1, hz2⟩ := info_parts en_info
  exact wpList_app1 Tryd.underlying98 hi0 hz0 hz1 hz2 rfl (by decide) (by decide) hgd s x ho hs hx hown hb hB hbase hn y _ rfl rfl (oneE y) h
end
end Go.Proofs.YtbpngpcjjinneaaDoor

/- Names: folds, Contains, ClashOf of the program. -/
set_option linter.unusedVariables false
namespace Go.Proofs.YtbpngpcjjinneaaDoor
open Go.RowKit
attribute [local go_sem] mk_toList
theorem eq_toList (a b : ByteArray) : (a.toList == b.toList) = (bs a == bs b) := by rw [ByteArray.toList_eq, ByteArray.toList_eq]

/-! ### plain: the first index -/
def idxIn (l : List ByteArray) (x : ByteArray) (r : Int) : Prop := if (l.any fun y => bs x == bs y) then 0 ≤ r else r < 0
def hasS (l : List ByteArray) (x : ByteArray) : Bool := l.any fun y => bs x == bs y
def NotYet (l : List ByteArray) (x : ByteArray) (k : Nat) : Prop := ∀ y ∈ l.take k, (bs x == bs y) = false
theorem NotYet.succ {l : List ByteArray} {x : ByteArray} {k : Nat} (h : NotYet l x k) (hk : k < l.length) (hx : (bs x == bs l[k]) = false) : NotYet l x (k + 1) := by
  intro y hy
  rw [List.take_succ_eq_append_getElem hk, List.mem_append, List.mem_singleton] at hy
  rcases hy with hy | rfl
  · exact h y hy
  · exact hx
theorem NotYet.none {l : List ByteArray} {x : ByteArray} {k : Nat} (h : NotYet l x k) (hk : ¬ k < l.length) : hasS l x = false := by
  unfold hasS; rw [List.any_eq_false]; intro y hy
  rw [h y (by rw [List.take_of_length_le (by omega)]; exact hy)]; simp
theorem hasS_at {l : List ByteArray} {x : ByteArray} {k : Nat} (hk : k < l.length) (hx : (bs x == bs l[k]) = true) : hasS l x = true := by
  unfold hasS; rw [List.any_eq_true]; exact ⟨l[k], by simp, hx⟩
def IndexR (l : List ByteArray) (x : ByteArray) (w : World) (e : Ending) (w' : World) : Prop := ∃ r : Int, e = .returned (.int .i64 r) ∧ (hasS l x = true → 0 ≤ r) ∧ (hasS l x = false → r = -1) ∧ w = w'


/-! ### folds -/
def folds (ss : List ByteArray) : List ByteArray := ss.map fun s => mk (foldName (bs s))
def allFold (ss : List ByteArray) : Bool := ss.all fun s => !(foldName (bs s)).isEmpty
theorem folds_take {ss : List ByteArray} {k : Nat} (h : k < ss.length) : folds (ss.take (k + 1)) = folds (ss.take k) ++ [mk (foldName (bs ss[k]))] := by
  unfold folds; rw [List.take_succ_eq_append_getElem h, List.map_append]; rfl
theorem folds_len (ss : List ByteArray) : (folds ss).length = ss.length := by simp [folds]
def FoldsR (ss : List ByteArray) (w : World) (e : Ending) (w' : World) : Prop :=
  ∃ v, e = .returned (.tuple #[v, .bool (allFold ss)]) ∧ Own w' w.heap.size 9 1 encS v (if allFold ss then folds ss else []) ∧ Below w.heap.size w w'

/-! ### clashes -/
/-- The first place before 'k' whose text is one before it; -1 if there is none. -/
def clashTo (fs : List ByteArray) : Nat → Int
  | 0 => -1
  | k + 1 => if 0 ≤ clashTo fs k then clashTo fs k else if hasS (fs.take k) (fs.getD k ⟨#[]⟩) then k else -1
def clashOf (ss : List ByteArray) : Int := if allFold ss then clashTo (folds ss) ss.length else -1
theorem clashTo_lt (fs : List ByteArray) : ∀ k, clashTo fs k < k ∧ -1 ≤ clashTo fs k
  | 0 => by simp [clashTo]
  | k + 1 => by
    have := clashTo_lt fs k
    unfold clashTo; split
    · omega
    · split <;> omega
theorem clashTo_no {fs : List ByteArray} {k : Nat} (h : clashTo fs k = -1) (hn : hasS (fs.take k) (fs.getD k ⟨#[]⟩) = false) : clashTo fs (k + 1) = -1 := by
  unfold clashTo; rw [if_neg (by omega), if_neg (by rw [hn]; simp)]
theorem clashTo_yes {fs : List ByteArray} {k : Nat} (h : clashTo fs k = -1) (hn : hasS (fs.take k) (fs.getD k ⟨#[]⟩) = true) : clashTo fs (k + 1) = k := by
  unfold clashTo; rw [if_neg (by omega), if_pos hn]
theorem clashTo_keep {fs : List ByteArray} {k : Nat} (h : 0 ≤ clashTo fs k) : clashTo fs (k + 1) = clashTo fs k := by
  rw [clashTo, if_pos h]
theorem clashTo_stays {fs : List ByteArray} {k : Nat} (h : 0 ≤ clashTo fs k) : ∀ n, clashTo fs (k + n) = clashTo fs k
  | 0 => rfl
  | n + 1 => by
    have ih := clashTo_stays h n
    rw [← Nat.add_assoc, clashTo_keep (by rw [ih]; exact h), ih]
theorem getD_at {fs : List ByteArray} {k : Nat} (h : k < fs.length) : fs.getD k ⟨#[]⟩ = fs[k] := by
  rw [List.getD_eq_getElem?_getD, List.getElem?_eq_getElem h]; rfl
theorem Sl.take {α : Type} {enc : α → List Value} {w : World} {size : Nat} {A : Option Addr} {l : List α} (h : Sl w enc size A l) (k : Nat) : Sl w enc size A (l.take k) := by
  intro hn
  obtain ⟨b, o, e, hc⟩ := h (by rw [List.length_take] at hn; omega)
  refine ⟨b, o, e, fun j u hu => hc j u ?_⟩
  have hf : flat enc l = flat enc (l.take k) ++ flat enc (l.drop k) := by rw [← flat_append, List.take_append_drop]
  rw [hf, List.getElem?_append_left (List.getElem?_eq_some_iff.1 hu).1]; exact hu
end Go.Proofs.YtbpngpcjjinneaaDoor

/- Where a name stands: cmp.Compare of texts, slices.BinarySearchFunc, findEntry, printNamed, walked. -/
set_option linter.unusedVariables false
namespace Go.Proofs.YtbpngpcjjinneaaDoor
open Go.RowKit

def FitE (l : List En) : Prop := ∀ p ∈ l, p.1.size ≤ 16777216
def cmpS (a b : ByteArray) : Int := if lessB (tx a) (tx b) then -1 else if lessB (tx b) (tx a) then 1 else 0
theorem less_tl (a b : ByteArray) : Op.bytesLess a.toList b.toList = lessB (tx a) (tx b) := by rw [ByteArray.toList_eq, ByteArray.toList_eq]
theorem eq_tl (a b : ByteArray) : (a.toList == b.toList) = (tx a == tx b) := by rw [ByteArray.toList_eq, ByteArray.toList_eq]
theorem less_ne {a b : ByteArray} (h : lessB (tx a) (tx b) = true) : (tx a == tx b) = false := by
  rw [beq_eq_false_iff_ne]; intro e; rw [e, lessB_irrefl] at h; cases h
def PnRes (l : List En) (x : ByteArray) (w : World) (e : Ending) (w' : World) : Prop := e = .returned (.tuple #[.int .i64 ((getE l (tx x)).getD (-1)), .bool (getE l (tx x)).isSome]) ∧ Below w.heap.size w w'
end Go.Proofs.YtbpngpcjjinneaaDoor

/- Repaired pieces, and free names, in plain Lean. -/
set_option linter.unusedVariables false
namespace Go.Proofs.YtbpngpcjjinneaaDoor
--BEGIN
def goodCopy (p : Int) (copies : List Pc) : Option Pc := copies.find? fun c => c.1 == p && pieceR c
/-- A piece, repaired; and how many were (0, 1). -/
def repair1 (copies : List Pc) (p : Pc) : Pc × Int := if pieceR p then (p, 0) else match goodCopy p.1 copies with | some c => (c, 1) | none => (p, 0)
def repairs (copies : List Pc) (l : List Pc) : List Pc := l.map fun p => (repair1 copies p).1
def many (copies : List Pc) : List Pc → Int
  | [] => 0
  | p :: r => (repair1 copies p).2 + many copies r
def damaged (l : List Pc) : List Int := (l.filter fun p => !pieceR p).map (·.1)
theorem many_append (copies : List Pc) : ∀ a b : List Pc, many copies (a ++ b) = many copies a + many copies b
  | [], b => by simp [many]
  | p :: r, b => by rw [List.cons_append, many, many, many_append copies r b]; omega
theorem many_take {copies l : List Pc} {k : Nat} (h : k < l.length) : many copies (l.take (k + 1)) = many copies (l.take k) + (repair1 copies l[k]).2 := by
  rw [List.take_succ_eq_append_getElem h, many_append]; simp [many]
theorem repair1_bd (copies : List Pc) (p : Pc) : 0 ≤ (repair1 copies p).2 ∧ (repair1 copies p).2 ≤ 1 := by
  unfold repair1; split
  · simp
  · split <;> simp
theorem many_bd (copies : List Pc) : ∀ l : List Pc, 0 ≤ many copies l ∧ many copies l ≤ l.length
  | [] => by simp [many]
  | p :: r => by
    have := many_bd copies r
    have := repair1_bd copies p
    rw [many, List.length_cons]; omega
theorem goodCopy_some {p : Int} {copies : List Pc} {c : Pc} (h : goodCopy p copies = some c) : c.1 = p ∧ pieceR c = true := by
  have := List.find?_some h
  simp only [Bool.and_eq_true, beq_iff_eq] at this
  exact this
theorem repair1_print (copies : List Pc) (p : Pc) : (repair1 copies p).1.1 = p.1 := by
  unfold repair1; split
  · rfl
  · split
    · rename_i c h; exact (goodCopy_some h).1
    · rfl
theorem repair1_right {copies : List Pc} {p : Pc} (h : pieceR p = true) : repair1 copies p = (p, 0) := by unfold repair1; rw [if_pos h]
theorem damaged_many (copies : List Pc) : ∀ l : List Pc, ((damaged (repairs copies l)).length : Int) + many copies l = (damaged l).length
  | [] => rfl
  | p :: r => by
    have ih := damaged_many copies r
    have e : repairs copies (p :: r) = (repair1 copies p).1 :: repairs copies r := rfl
    rw [e, many]
    unfold damaged at ih ⊢
    cases hp : pieceR p
    · cases hg : goodCopy p.1 copies with
      | none =>
        have e1 : repair1 copies p = (p, 0) := by unfold repair1; rw [if_neg (by simp [hp]), hg]
        rw [e1]
        simp only [List.filter_cons, hp, Bool.not_false, if_true, List.map_cons, List.length_cons]
        omega
      | some c =>
        have e1 : repair1 copies p = (c, 1) := by unfold repair1; rw [if_neg (by simp [hp]), hg]
        rw [e1]
        have hc := (goodCopy_some hg).2
        simp only [List.filter_cons, hp, hc, Bool.not_false, Bool.not_true, if_true, List.map_cons, List.length_cons]
        simp
        simp at ih
        omega
    · rw [repair1_right hp]
      simp only [List.filter_cons, hp, Bool.not_true]
      simp at ih ⊢
      omega
theorem damaged_len (l : List Pc) : (damaged l).length ≤ l.length := by
  unfold damaged; rw [List.length_map]; exact List.length_filter_le _ _
theorem damaged_take {l : List Pc} {k : Nat} (h : k < l.length) : damaged (l.take (k + 1)) = damaged (l.take k) ++ if pieceR l[k] then [] else [l[k].1] := by
  unfold damaged
  rw [List.take_succ_eq_append_getElem h, List.filter_append, List.map_append]
  congr 1
  cases hp : pieceR l[k] <;> simp [hp]
--END
end Go.Proofs.YtbpngpcjjinneaaDoor

/- Damaged pieces, walked. -/
set_option linter.unusedVariables false
namespace Go.Proofs.YtbpngpcjjinneaaDoor
open Go.RowKit

def FitP (l : List Pc) : Prop := ∀ p ∈ l, p.2.size ≤ 16777216
theorem FitP.at {l : List Pc} (h : FitP l) {k : Nat} (hk : k < l.length) : l[k].2.size ≤ 16777216 := h _ (by simp)

end Go.Proofs.YtbpngpcjjinneaaDoor

/- More words for memory: 'append' of one element inside a region that draws its order. -/
set_option linter.unusedVariables false
namespace Go.Proofs.YtbpngpcjjinneaaDoor
open Go.RowKit
theorem step_app1 {P : Program} {α : Type} {enc : α → List Value} {ops : Array Oper} {o : Oper} {a : Act} {K : Act → World → Prop} {Q : Exit → Act → World → Prop} {E' : Prop} {w0 W : World} {B base size bytes g : Nat} {t E : TypeId} {i : TypeInfo} {z : Value} {v : Value} {l : List α}
    (ht : P.underlying t = some (.slice E)) (hi : P.info? E = some i) (hz : i.zero = some z) (hsize : i.size = size) (hby : i.bytes = bytes) (hzs : z.cells.size = size) (hsz : 0 < size) (hb200 : bytes ≤ 256)
    (hgd : o.guard = none) (s x : Operand) (ho : o.op = .call { callee := .builtin .append, args := #[s, x], argTypes := #[t, t] })
    (hs : a.eval s = v) (hx : a.eval x = .slice (some ⟨g, 0, none⟩) 1 1)
    (hown : Own W base E size enc v l) (hb : Below B w0 W) (hB : B ≤ base) (hbase : base ≤ W.heap.size) (hn : l.length ≤ 16777216) (y : α) (hcell : ∀ j u, (enc y)[j]? = some u → W.cell? ⟨g, j, none⟩ = some u) (hce : (enc y).length = size) (h1 : ∀ u ∈ enc y, u.oneCell' = true)
    (h : ∀ v' w', Own w' base E size enc v' (l ++ [y]) → Below B w0 w' → K (a.put o.dst v') w') :
    if Region.wanted o (yielded ops a.tmps) = true then Oper.wp P o a W K Q else E' := by
  have hw : Region.wanted o (yielded ops a.tmps) = true := by simp [Region.wanted, hgd]
  rw [if_pos hw]
  refine wp_append_own W s x t ho base E i z size bytes ht hi hz hsize hby hzs hsz v l.length (flat enc l) hs hown ⟨g, 0, none⟩ 1 1 (enc y) hx (by rw [hce, Nat.one_mul]) ?_ h1 ?_ ?_ hbase ?_
  · intro j u hu
    have hadd : (⟨g, 0, none⟩ : Addr).add j = ⟨g, j, none⟩ := by unfold Addr.add; split <;> simp_all
    rw [hadd]; exact hcell j u hu
  · unfold maxLen; omega
  · have := Nat.mul_le_mul_left (l.length + 1) hb200; omega
  · intro v' w' hown' hg _
    refine h v' w' ?_ (hb.grown hg (Nat.le_trans hB hbase) (fun k hk => Nat.le_trans hB (World.ownsRow.lt hown k hk).1))
    show w'.ownsRow base E size v' (l ++ [y]).length (flat enc (l ++ [y]))
    rw [flat_snoc, List.length_append]; exact hown'
section
variable {ops : Array Oper} {o : Oper} {a : Act} {K : Act → World → Prop} {Q : Exit → Act → World → Prop} {E' : Prop} {w0 W : World} {v : Value}
theorem step_int {g : Nat} {l : List Int} {y : Int} {s x : Operand} (hgd : o.guard = none) (ho : o.op = .call { callee := .builtin .append, args := #[s, x], argTypes := #[123, 123] })
    (hs : a.eval s = v) (hx : a.eval x = .slice (some ⟨g, 0, none⟩) 1 1)
    (hown : Own W w0.heap.size 3 1 encI v l) (hb : Below w0.heap.size w0 W) (hn : l.length ≤ 16777216) (hc : W.cell? ⟨g, 0, none⟩ = some (.int .i64 y))
    (h : ∀ v' w', Own w' w0.heap.size 3 1 encI v' (l ++ [y]) → Below w0.heap.size w0 w' → K (a.put o.dst v') w') :
    if Region.wanted o (yielded ops a.tmps) = true then Oper.wp Tryd.prog o a W K Q else E' := by
  obtain ⟨i0, hi0, hz0, hz1, hz2⟩ := info_parts int_info
  exact step_app1 Tryd.underlying123 hi0 hz0 hz1 hz2 rfl (by decide) (by decide) hgd s x ho hs hx hown hb (Nat.le_refl _) hb.size hn y (by
    intro j u hu
    have hj : j = 0 := by have := (List.getElem?_eq_some_iff.1 hu).1; simp [encI] at this; omega
    subst hj; simp [encI] at hu; rw [← hu]; exact hc) rfl (by intro u hu; simp [encI] at hu; subst hu; rfl) h
end
end Go.Proofs.YtbpngpcjjinneaaDoor

/- Trees: levels, roots, proofs. -/
set_option linter.unusedVariables false
namespace Go.Proofs.YtbpngpcjjinneaaDoor
open Go.RowKit
theorem new_cell1 (w : World) (u : Value) (E : TypeId) : (w.alloc (.cells #[u] E)).drew.cell? ⟨w.heap.size, 0, none⟩ = some u := by
  show (w.alloc (.cells #[u] E)).cell? ⟨w.heap.size, 0, none⟩ = some u
  rw [cell_of_row _ _ 0 _ E (0, 0) (heap_alloc_new w _)]; rfl
theorem lvlUp_two {l : List Int} {k : Nat} (h : k + 1 < l.length) : lvlUp (l.drop k) = prPair l[k] l[k + 1] :: lvlUp (l.drop (k + 2)) := by
  rw [List.drop_eq_getElem_cons (by omega), List.drop_eq_getElem_cons (by omega)]; rfl
theorem lvlUp_one {l : List Int} {k : Nat} (h : k < l.length) (h2 : ¬ k + 1 < l.length) : lvlUp (l.drop k) = [l[k]] := by
  rw [List.drop_eq_getElem_cons (by omega), List.drop_of_length_le (by omega)]; rfl
theorem lvlUp_none {l : List Int} {k : Nat} (h : ¬ k < l.length) : lvlUp (l.drop k) = [] := by
  rw [List.drop_of_length_le (by omega)]; rfl
theorem lvlUp_drop_end {l : List Int} {k : Nat} (h : k < l.length) (h2 : ¬ k + 1 < l.length) : lvlUp (l.drop (k + 2)) = [] := by
  rw [List.drop_of_length_le (by omega)]; rfl

end Go.Proofs.YtbpngpcjjinneaaDoor

/- Trees: valid leaves, the root, and the same of texts. -/
set_option linter.unusedVariables false
namespace Go.Proofs.YtbpngpcjjinneaaDoor
open Go.RowKit

theorem lvlUp_length : ∀ (n : Nat) (l : List Int), l.length ≤ n → (lvlUp l).length = (l.length + 1) / 2
  | 0, l, h => by have : l = [] := List.eq_nil_of_length_eq_zero (by omega); subst this; rfl
  | n + 1, l, h => by
    match l, h with
    | [], _ => rfl
    | [a], _ => simp [lvlUp]
    | a :: b :: r, h =>
      have := lvlUp_length n r (by simp at h; omega)
      simp only [lvlUp, List.length_cons, this]; omega
theorem lvlUp_len (l : List Int) : (lvlUp l).length = (l.length + 1) / 2 := lvlUp_length _ l (Nat.le_refl _)
theorem lvlUp_pv : ∀ (n : Nat) (l : List Int), l.length ≤ n → l.all pv = true → (lvlUp l).all pv = true
  | 0, l, h, _ => by have : l = [] := List.eq_nil_of_length_eq_zero (by omega); subst this; rfl
  | n + 1, l, h, ha => by
    match l, h, ha with
    | [], _, _ => rfl
    | [a], _, ha => exact ha
    | a :: b :: r, h, ha =>
      simp only [List.all_cons, Bool.and_eq_true] at ha
      simp only [lvlUp, List.all_cons, Bool.and_eq_true]
      exact ⟨prPair_pv ha.1 ha.2.1, lvlUp_pv n r (by simp at h; omega) ha.2.2⟩
theorem topF_step {f : Nat} {l : List Int} (h : 1 < l.length) : topF (f + 1) l = topF f (lvlUp l) := by
  rw [topF, if_pos h]
theorem topF_one {f : Nat} {l : List Int} (h : l.length = 1) : topF f l = l.headD 0 := by
  cases f with
  | zero => rfl
  | succ f => rw [topF, if_neg (by omega)]
theorem treeRoot_bad {l : List Int} (h : leavesV l = false) : treeRoot l = -1 := by unfold treeRoot; simp [h]
theorem treeRoot_ok {l : List Int} (h : leavesV l = true) : treeRoot l = topF 5 l := by unfold treeRoot; simp [h]
theorem leavesV_iff {l : List Int} : leavesV l = true ↔ 1 ≤ l.length ∧ l.length ≤ 16 ∧ l.all pv = true := by
  unfold leavesV; rw [Bool.and_eq_true, decide_eq_true_eq, and_assoc]
theorem leavesV_len {l : List Int} (h : ¬ (1 ≤ l.length ∧ l.length ≤ 16)) : leavesV l = false := by
  cases hl : leavesV l with
  | false => rfl
  | true => exact absurd ⟨(leavesV_iff.1 hl).1, (leavesV_iff.1 hl).2.1⟩ h
theorem leavesV_all {l : List Int} (h : l.all pv = false) : leavesV l = false := by
  cases hl : leavesV l with
  | false => rfl
  | true => rw [(leavesV_iff.1 hl).2.2] at h; cases h

def lenOf : Value → Nat | .slice _ n _ => n | _ => 0
def Level (l : List Int) (v : Value) (wr : World) : Prop := ∃ (A : Option Addr) (c f : Nat) (m : List Int), v = .slice A m.length c ∧ Sl wr encI 1 A m ∧ 1 ≤ m.length ∧ m.length ≤ 16 ∧ m.length ≤ 2 ^ f ∧ topF 5 l = topF f m

end Go.Proofs.YtbpngpcjjinneaaDoor

/- Trees in plain Lean: proofs, roots of proofs; that they meet. -/
set_option linter.unusedVariables false
namespace Go.Proofs.YtbpngpcjjinneaaDoor

/-- The root to which a proof leads. -/
def rootF : List Int → Int → Nat → Nat → Int
  | [], p, _, m => if 1 < m then -1 else p
  | x :: r, p, n, m =>
    if m = 1 then -1
    else if m ≤ n ^^^ 1 then (if x = -1 then rootF r p (n / 2) ((m + 1) / 2) else -1)
    else if pv x then rootF r (if n % 2 = 0 then prPair p x else prPair x p) (n / 2) ((m + 1) / 2)
    else -1
def inTree (p n m : Int) : Bool := pv p && decide (1 ≤ m ∧ m ≤ 16) && decide (0 ≤ n ∧ n < m)
def proofRoot (p n m : Int) (l : List Int) : Int := if inTree p n m then rootF l p n.toNat m.toNat else -1

theorem xor1 (n : Nat) : n ^^^ 1 = n + 1 - n % 2 * 2 := by
  have h2 : (n ^^^ 1) / 2 = n / 2 := by
    have := Nat.xor_div_two (a := n) (b := 1)
    simpa using this
  have h := Nat.xor_mod_two_pow (a := n) (b := 1) (n := 1)
  have h3 : n % 2 = 0 ∨ n % 2 = 1 := by omega
  have e0 : (0 ^^^ 1 % 2 : Nat) = 1 := rfl
  have e1 : (1 ^^^ 1 % 2 : Nat) = 0 := rfl
  simp only [Nat.pow_one] at h
  rcases h3 with h3 | h3
  · rw [h3, e0] at h; omega
  · rw [h3, e1] at h; omega
theorem xor1_even {n : Nat} (h : n % 2 = 0) : n ^^^ 1 = n + 1 := by rw [xor1]; omega
theorem xor1_odd {n : Nat} (h : n % 2 = 1) : n ^^^ 1 = n - 1 := by rw [xor1]; omega

theorem proofF_done {f : Nat} {m : List Int} {n : Nat} (h : m.length = 1) : proofF f m n = [] := by
  cases f with
  | zero => rfl
  | succ f => rw [proofF, if_neg (by omega)]
theorem proofF_step {f : Nat} {m : List Int} {n : Nat} (h : 1 < m.length) : proofF (f + 1) m n = (if n ^^^ 1 < m.length then m.getD (n ^^^ 1) 0 else -1) :: proofF f (lvlUp m) (n / 2) := by
  rw [proofF, if_pos h]
theorem proofF_len (f : Nat) : ∀ (m : List Int) (n : Nat), (proofF f m n).length ≤ f := by
  induction f with
  | zero => intro m n; simp [proofF]
  | succ f ih =>
    intro m n; rw [proofF]; split
    · simp; exact ih _ _
    · simp
theorem treeProof_bad {l : List Int} {n : Int} (h : leavesV l = false ∨ n < 0 ∨ (l.length : Int) ≤ n) : treeProof l n = [] := by
  unfold treeProof; rw [if_neg]; rintro ⟨h1, h2, h3⟩
  rcases h with h | h | h
  · rw [h] at h1; cases h1
  · omega
  · omega
theorem treeProof_ok {l : List Int} {n : Int} (h : leavesV l = true) (h0 : 0 ≤ n) (h1 : n < l.length) : treeProof l n = proofF 5 l n.toNat := by
  unfold treeProof; rw [if_pos ⟨h, h0, h1⟩]
theorem treeProof_len (l : List Int) (n : Int) : (treeProof l n).length ≤ 5 := by
  unfold treeProof; split
  · exact proofF_len _ _ _
  · simp

theorem lvlUp_at : ∀ (k : Nat) (l : List Int) (d : Int), (lvlUp l).getD k d = if 2 * k + 1 < l.length then prPair (l.getD (2 * k) d) (l.getD (2 * k + 1) d) else l.getD (2 * k) d
  | 0, [], d => rfl
  | 0, [a], d => rfl
  | 0, a :: b :: r, d => by simp [lvlUp]
  | k + 1, [], d => by simp [lvlUp]
  | k + 1, [a], d => by simp [lvlUp]
  | k + 1, a :: b :: r, d => by
    have ih := lvlUp_at k r d
    show (prPair a b :: lvlUp r).getD (k + 1) d = _
    have e : 2 * (k + 1) = 2 * k + 1 + 1 := by omega
    rw [List.getD_cons_succ, ih, e]
    simp only [List.length_cons, List.getD_cons_succ]
    have e2 : 2 * k + 1 + 1 + 1 < r.length + 1 + 1 ↔ 2 * k + 1 < r.length := by omega
    simp only [e2]
theorem getD_pv {l : List Int} (h : l.all pv = true) {k : Nat} (hk : k < l.length) (d : Int) : pv (l.getD k d) = true := by
  rw [List.getD_eq_getElem?_getD, List.getElem?_eq_getElem hk]
  exact List.all_eq_true.1 h _ (by simp)

/-- A proof leads to the root. -/
theorem root_of_proof (f : Nat) : ∀ (l : List Int) (n : Nat), l.all pv = true → n < l.length → l.length ≤ 2 ^ f → rootF (proofF f l n) (l.getD n 0) n l.length = topF f l := by
  induction f with
  | zero =>
    intro l n hp hn hl
    have h1 : l.length = 1 := by simp at hl; omega
    obtain ⟨x, rfl⟩ : ∃ x, l = [x] := by
      match l, h1 with
      | [x], _ => exact ⟨x, rfl⟩
    have : n = 0 := by simp at hn; omega
    subst this
    simp [proofF, rootF, topF]
  | succ f ih =>
    intro l n hp hn hl
    by_cases h1 : 1 < l.length
    · rw [proofF_step h1, topF_step h1]
      have hlen := lvlUp_len l
      have hup := lvlUp_pv _ l (Nat.le_refl _) hp
      have hih := ih (lvlUp l) (n / 2) hup (by omega) (by rw [hlen]; simp only [Nat.pow_succ] at hl; omega)
      have hat := lvlUp_at (n / 2) l 0
      rw [rootF, if_neg (by omega)]
      by_cases hb : n ^^^ 1 < l.length
      · rw [if_neg (by omega), if_pos hb, if_pos (getD_pv hp hb 0), ← hih]
        rw [hlen]
        congr 1
        rw [hat]
        by_cases he : n % 2 = 0
        · rw [if_pos he, xor1_even he] at *
          have e : 2 * (n / 2) = n := by omega
          rw [e, if_pos hb]
        · have ho : n % 2 = 1 := by omega
          rw [if_neg he, xor1_odd ho] at *
          have e : 2 * (n / 2) = n - 1 := by omega
          have e2 : n - 1 + 1 = n := by omega
          rw [e, e2, if_pos hn]
      · rw [if_pos (by omega), if_neg hb, if_pos rfl, ← hih, hlen]
        congr 1
        rw [hat]
        have he : n % 2 = 0 := by
          by_cases he : n % 2 = 0
          · exact he
          · exfalso; rw [xor1_odd (by omega)] at hb; omega
        rw [xor1_even he] at hb
        have e : 2 * (n / 2) = n := by omega
        rw [e, if_neg hb]
    · have h2 : l.length = 1 := by omega
      rw [proofF_done h2, topF_one h2, rootF, if_neg (by omega)]
      have : n = 0 := by omega
      subst this
      cases l <;> rfl
theorem topF_pv (f : Nat) : ∀ l : List Int, l.all pv = true → 1 ≤ l.length → pv (topF f l) = true := by
  induction f with
  | zero => intro l hp hl; rw [topF]; cases l with
    | nil => simp at hl
    | cons a r => simp only [List.all_cons, Bool.and_eq_true] at hp; exact hp.1
  | succ f ih =>
    intro l hp hl
    rw [topF]
    split
    · exact ih _ (lvlUp_pv _ l (Nat.le_refl _) hp) (by rw [lvlUp_len]; omega)
    · cases l with
      | nil => simp at hl
      | cons a r => simp only [List.all_cons, Bool.and_eq_true] at hp; exact hp.1
theorem treeRoot_pv {l : List Int} (h : leavesV l = true) : pv (treeRoot l) = true := by
  obtain ⟨h1, h2, h3⟩ := leavesV_iff.1 h
  rw [treeRoot_ok h]; exact topF_pv 5 l h3 h1
theorem treeRoot_bd (l : List Int) : -1 ≤ treeRoot l ∧ treeRoot l ≤ 16777212 := by
  cases h : leavesV l
  · rw [treeRoot_bad h]; omega
  · have := pv_iff.1 (treeRoot_pv h); omega
theorem treeRoot_neg {l : List Int} (h : treeRoot l < 0) : leavesV l = false := by
  cases hl : leavesV l
  · rfl
  · have := pv_iff.1 (treeRoot_pv hl); omega
theorem treeRoot_nonneg {l : List Int} (h : ¬ treeRoot l < 0) : leavesV l = true := by
  cases hl : leavesV l
  · rw [treeRoot_bad hl] at h; omega
  · rfl
/-- The proof of a leaf leads to the root. -/
theorem proofRoot_tree {l : List Int} {n : Int} (h : leavesV l = true) (h0 : 0 ≤ n) (h1 : n < l.length) : proofRoot (l.getD n.toNat 0) n l.length (treeProof l n) = treeRoot l := by
  obtain ⟨hl1, hl2, hp⟩ := leavesV_iff.1 h
  have hin : inTree (l.getD n.toNat 0) n l.length = true := by
    unfold inTree
    rw [getD_pv hp (by omega), Bool.true_and, Bool.and_eq_true]
    exact ⟨decide_eq_true (by omega), decide_eq_true (by omega)⟩
  unfold proofRoot
  rw [if_pos hin, treeProof_ok h h0 h1, treeRoot_ok h]
  have := root_of_proof 5 l n.toNat hp (by omega) (by omega)
  simpa using this
theorem rootF_bd : ∀ (l : List Int) (p : Int) (n m : Nat), -1 ≤ p ∧ p ≤ 16777212 → -1 ≤ rootF l p n m ∧ rootF l p n m ≤ 16777212
  | [], p, n, m, h => by rw [rootF]; split <;> omega
  | x :: r, p, n, m, h => by
    rw [rootF]
    split
    · omega
    · split
      · split
        · exact rootF_bd r p _ _ h
        · omega
      · split
        · refine rootF_bd r _ _ _ ?_
          split <;> exact prPair_bd _ _
        · omega
theorem proofRoot_bd (p n m : Int) (l : List Int) : -1 ≤ proofRoot p n m l ∧ proofRoot p n m l ≤ 16777212 := by
  unfold proofRoot; split
  · rename_i h
    have hp : pv p = true := by unfold inTree at h; simp only [Bool.and_eq_true] at h; exact h.1.1
    have := pv_iff.1 hp
    exact rootF_bd _ _ _ _ (by omega)
  · omega
end Go.Proofs.YtbpngpcjjinneaaDoor

/- Trees: proofs, walked. -/
set_option linter.unusedVariables false
namespace Go.Proofs.YtbpngpcjjinneaaDoor
open Go.RowKit

theorem i64_xor_nat (a b : Nat) (ha : a < 9223372036854775808) (hb : b < 9223372036854775808) : bits .xor .i64 (a : Int) (b : Int) = ((a ^^^ b : Nat) : Int) := by
  show IntKind.i64.wrap ((BitVec.ofInt 64 (a : Int) ^^^ BitVec.ofInt 64 (b : Int)).toNat : Int) = _
  rw [BitVec.toNat_xor, ofInt_i64 a ha, ofInt_i64 b hb, IntKind.wrap_i64]
  have := Nat.xor_lt_two_pow (n := 63) (x := a) (y := b) (by simpa using ha) (by simpa using hb)
  omega
theorem xor1_int (N : Nat) (h : N ≤ 1000) : bits .xor .i64 (N : Int) 1 = ((N ^^^ 1 : Nat) : Int) := i64_xor_nat N 1 (by omega) (by omega)

/-- One level of a tree on the way of a proof: what was written so far, what is to come. -/
def ProofAt (l : List Int) (n : Nat) (acc m : List Int) (N : Nat) : Prop := ∃ f, m.length ≤ 2 ^ f ∧ proofF 5 l n = acc ++ proofF f m N
theorem ProofAt.start {l : List Int} {n : Nat} (h : l.length ≤ 16) : ProofAt l n [] l n := ⟨5, by omega, rfl⟩
theorem ProofAt.len {l : List Int} {n : Nat} {acc m : List Int} {N : Nat} (h : ProofAt l n acc m N) : acc.length ≤ 5 := by
  obtain ⟨f, _, e⟩ := h
  have := proofF_len 5 l n
  rw [e, List.length_append] at this; omega
theorem ProofAt.step {l : List Int} {n : Nat} {acc m : List Int} {N : Nat} (h : ProofAt l n acc m N) (h1 : 1 < m.length) (x : Int) (hx : x = if N ^^^ 1 < m.length then m.getD (N ^^^ 1) 0 else -1) : ProofAt l n (acc ++ [x]) (lvlUp m) (N / 2) := by
  obtain ⟨f, hf, e⟩ := h
  cases f with
  | zero => simp at hf; omega
  | succ f =>
    refine ⟨f, ?_, ?_⟩
    · rw [lvlUp_len]; simp only [Nat.pow_succ] at hf; omega
    · rw [e, proofF_step h1, ← hx]; simp
theorem ProofAt.done {l : List Int} {n : Nat} {acc m : List Int} {N : Nat} (h : ProofAt l n acc m N) (h1 : m.length = 1) : proofF 5 l n = acc := by
  obtain ⟨f, hf, e⟩ := h
  rw [e, proofF_done h1, List.append_nil]
theorem getD_of_lt {m : List Int} {k : Nat} (h : k < m.length) : m.getD k 0 = m[k] := by rw [List.getD_eq_getElem?_getD, List.getElem?_eq_getElem h]; rfl
/-- A level that is read: no part of what is written. -/
def LvlIn (w0 wr : World) (v : Value) (m : List Int) (A : Option Addr) : Prop := Sl wr encI 1 A m ∧ Apart A v

end Go.Proofs.YtbpngpcjjinneaaDoor

/- Roots of proofs, walked. -/
set_option linter.unusedVariables false
namespace Go.Proofs.YtbpngpcjjinneaaDoor
open Go.RowKit

theorem rootF_one {x p : Int} {r : List Int} {N : Nat} : rootF (x :: r) p N 1 = -1 := by rw [rootF, if_pos rfl]
theorem rootF_alone {p : Int} {r : List Int} {N M : Nat} (h1 : M ≠ 1) (h2 : M ≤ N ^^^ 1) : rootF (-1 :: r) p N M = rootF r p (N / 2) ((M + 1) / 2) := by rw [rootF, if_neg h1, if_pos h2, if_pos rfl]
theorem rootF_alone_bad {x p : Int} {r : List Int} {N M : Nat} (h1 : M ≠ 1) (h2 : M ≤ N ^^^ 1) (hx : x ≠ -1) : rootF (x :: r) p N M = -1 := by rw [rootF, if_neg h1, if_pos h2, if_neg hx]
theorem rootF_bad {x p : Int} {r : List Int} {N M : Nat} (h1 : M ≠ 1) (h2 : ¬ M ≤ N ^^^ 1) (hx : pv x = false) : rootF (x :: r) p N M = -1 := by rw [rootF, if_neg h1, if_neg h2, if_neg (by rw [hx]; simp)]
theorem rootF_left {x p : Int} {r : List Int} {N M : Nat} (h1 : M ≠ 1) (h2 : ¬ M ≤ N ^^^ 1) (hx : pv x = true) (h : N % 2 = 0) : rootF (x :: r) p N M = rootF r (prPair p x) (N / 2) ((M + 1) / 2) := by rw [rootF, if_neg h1, if_neg h2, if_pos hx, if_pos h]
theorem rootF_right {x p : Int} {r : List Int} {N M : Nat} (h1 : M ≠ 1) (h2 : ¬ M ≤ N ^^^ 1) (hx : pv x = true) (h : ¬ N % 2 = 0) : rootF (x :: r) p N M = rootF r (prPair x p) (N / 2) ((M + 1) / 2) := by rw [rootF, if_neg h1, if_neg h2, if_pos hx, if_neg h]
theorem rootF_end {p : Int} {N M : Nat} : rootF [] p N M = if 1 < M then -1 else p := rfl
theorem inTree_iff {p n m : Int} : inTree p n m = true ↔ pv p = true ∧ (1 ≤ m ∧ m ≤ 16) ∧ (0 ≤ n ∧ n < m) := by
  unfold inTree; simp only [Bool.and_eq_true, decide_eq_true_eq, and_assoc]
theorem proofRoot_out {p n m : Int} {l : List Int} (h : inTree p n m = false) : proofRoot p n m l = -1 := by unfold proofRoot; rw [h]; rfl
theorem inTree_bad {p n m : Int} (h : ¬ (pv p = true ∧ (1 ≤ m ∧ m ≤ 16) ∧ (0 ≤ n ∧ n < m))) : inTree p n m = false := by
  cases hh : inTree p n m
  · rfl
  · exact absurd (inTree_iff.1 hh) h
/-- How a proof is read: what is left to be reckoned. -/
def RootAt (l : List Int) (R : Int) (k : Nat) (p : Int) (N M : Nat) : Prop := R = rootF (l.drop k) p N M
theorem RootAt.cons {l : List Int} {R p : Int} {k N M : Nat} (h : RootAt l R k p N M) (hk : k < l.length) : R = rootF (l[k] :: l.drop (k + 1)) p N M := by
  unfold RootAt at h; rw [h, List.drop_eq_getElem_cons hk]
theorem RootAt.nil {l : List Int} {R p : Int} {k N M : Nat} (h : RootAt l R k p N M) (hk : ¬ k < l.length) : R = if 1 < M then -1 else p := by
  unfold RootAt at h; rw [h, List.drop_of_length_le (by omega)]; rfl

theorem inI_pv {x : Int} (h : inI x (-1) 16777212 = true) (hx : x ≠ -1) : pv x = true := by
  simp only [inI, decide_eq_true_eq] at h; exact pv_iff.2 (by omega)
theorem inI_bad {x : Int} (h : inI x (-1) 16777212 = false) : pv x = false ∧ x ≠ -1 := by
  simp only [inI, decide_eq_false_iff_not] at h
  exact ⟨pv_false.2 (by omega), by omega⟩
theorem alone_iff {N M : Nat} (hN : N < M) : M ≤ N ^^^ 1 ↔ N % 2 = 0 ∧ N + 1 = M := by
  by_cases h : N % 2 = 0
  · rw [xor1_even h]; omega
  · rw [xor1_odd (by omega)]; omega
end Go.Proofs.YtbpngpcjjinneaaDoor

/- Drawn inputs: prints, filters. -/
set_option linter.unusedVariables false
namespace Go.Proofs.YtbpngpcjjinneaaDoor
open Go.RowKit

def IntIn (lo hi : Int) (v : Value) : Prop := ∃ n : Int, v = .int .i64 n ∧ lo ≤ n ∧ n ≤ hi
theorem three_cells {a b c : Int} (ha : 0 ≤ a ∧ a ≤ 16777212) (hb : 0 ≤ b ∧ b ≤ 16777212) (hc : 0 ≤ c ∧ c ≤ 16777212) (m : Nat) (hm : m < 3) :
    ∃ u : Int, (#[Value.int .i64 a, .int .i64 b, .int .i64 c] : Array Value)[m]? = some (.int .i64 u) ∧ 0 ≤ u ∧ u ≤ 16777212 := by
  match m, hm with
  | 0, _ => exact ⟨a, rfl, ha⟩
  | 1, _ => exact ⟨b, rfl, hb⟩
  | 2, _ => exact ⟨c, rfl, hc⟩

/-- What 'odd(n)' may answer. -/
def OddQ (Q : Bool → Prop) (n : Int) (g p : Nat) : Prop :=
  ∀ W, Rdr W g p → Calls Tryd.prog 75 #[.pointer (some ⟨g, 0, none⟩), .int .i64 n] W fun e w' => ∃ (x : Bool) (p1 : Nat), e = .returned (.bool x) ∧ Q x ∧ Only g W w' ∧ Rdr w' g p1 ∧ p1 ≤ p + 1
theorem oddq_any (n : Int) (g p : Nat) (hp : p ≤ 1000000000) (hn : n ≤ 1000000000) : OddQ (fun _ => True) n g p := fun W hr =>
  (odd_any n g p W hr hp hn).mono fun e w' ⟨x, p', h1, h2, h3, h4⟩ => ⟨x, p', h1, trivial, h2, h3, h4⟩
theorem oddq_zero (g p : Nat) (hp : p ≤ 1000000000) : OddQ (fun x => x = false) 0 g p := fun W hr =>
  (odd0_any g p W hr hp).mono fun e w' ⟨h1, h2⟩ => ⟨false, p, h1, rfl, by rw [← h2]; exact Only.refl _ _, by rw [← h2]; exact hr, by omega⟩

theorem IntIn.mono {a b c d : Int} {v : Value} (h : IntIn a b v) (h1 : c ≤ a) (h2 : b ≤ d) : IntIn c d v := by
  obtain ⟨n, e, x, y⟩ := h; exact ⟨n, e, by omega, by omega⟩
theorem Drew.imp {P P' : Value → Prop} {C g p : Nat} {w w' : World} {e : Ending} (h : Drew P C w g p e w') (hP : ∀ v, P v → P' v) : Drew P' C w g p e w' := by
  obtain ⟨v, p', h1, h2, h3⟩ := h; exact ⟨v, p', h1, hP v h2, h3⟩
/-- A drawn slice in new memory: its elements, at most M of them, meet P. -/
def DrewSl {α : Type} (E : TypeId) (size : Nat) (enc : α → List Value) (P : List α → Prop) (C : Nat) (w : World) (g p : Nat) (e : Ending) (w' : World) : Prop :=
  ∃ (v : Value) (l : List α) (p' : Nat), e = .returned v ∧ Own w' w.heap.size E size enc v l ∧ P l ∧ Only g w w' ∧ Rdr w' g p' ∧ p' ≤ p + C

/-- 'append' of one element onto a row, where the reader's block may have turned as well. -/
theorem app_int_only {ops : Array Oper} {rest : List Oper} {o : Oper} {a : Act} {Q : Exit → Act → World → Prop} {w0 wr : World} {v : Value} {g : Nat} {l : List Int} {y : Int} {s x : Operand} (hgd : o.guard = none) (ho : o.op = .call { callee := .builtin .append, args := #[s, x], argTypes := #[123, 123] })
    (hs : a.eval s = v) (hx : a.eval x = .slice (some ⟨wr.heap.size, 0, none⟩) 1 1)
    (hown : Own wr w0.heap.size 3 1 encI v l) (hb : Only g w0 wr) (hn : l.length ≤ 16777216)
    (h : ∀ v' w', Own w' w0.heap.size 3 1 encI v' (l ++ [y]) → Below w0.heap.size wr w' → wpList Tryd.prog ops Q rest (a.put o.dst v') w') :
    wpList Tryd.prog ops Q (o :: rest) a (wr.alloc (.cells #[.int .i64 y] 3)) := by
  obtain ⟨i0, hi0, hz0, hz1, hz2⟩ := info_parts int_info
  exact wpList_app1 Tryd.underlying123 hi0 hz0 hz1 hz2 rfl (by decide) (by decide) hgd s x ho hs hx hown (Below.refl w0.heap.size wr) (Nat.le_refl _) hb.size hn y _ rfl rfl (by intro u hu; simp [encI] at hu; subst hu; rfl) h
theorem Only.and_below {g : Nat} {w0 wr w' : World} (h : Only g w0 wr) (hb : Below w0.heap.size wr w') : Only g w0 w' :=
  ⟨hb.os.trans h.os, hb.tape.trans h.tape, hb.output.trans h.output, Nat.le_trans h.size hb.size, fun k hk hne => (hb.block k hk).trans (h.block k hk hne)⟩

/-! ### drawn prints -/
end Go.Proofs.YtbpngpcjjinneaaDoor

/- Drawn inputs: texts, pieces. -/
set_option linter.unusedVariables false
namespace Go.Proofs.YtbpngpcjjinneaaDoor
open Go.RowKit

theorem Only.frozen {g : Nat} {w w1 : World} (h : Only g w w1) {b o : Nat} (hb : b ≠ g) (hlt : b < w.heap.size) : w1.frozen? ⟨b, o, none⟩ = w.frozen? ⟨b, o, none⟩ :=
  World.frozen?_of_block (w := w) (h.block b hlt (by intro e; injection e; contradiction))
theorem Only.setNew {g : Nat} {w w1 : World} (h : Only g w w1) {p : Addr} (hp : w.heap.size ≤ p.block) (u : Value) : Only g w (w1.setCell p u) :=
  ⟨h.os, h.tape, h.output, by simpa [World.setCell] using h.size, fun k hk hne => (Below.heap_setCell _ _ _ _ (by omega)).trans (h.block k hk hne)⟩
theorem Rdr.setNew {w : World} {g p : Nat} (h : Rdr w g p) {q : Addr} (hq : g < q.block) (u : Value) : Rdr (w.setCell q u) g p :=
  h.under hq ((Below.refl _ _).setCell (Nat.le_refl _) u)
/-- A block of the call's own: what it holds, and that it is not frozen. -/
theorem new_cell {w : World} {cs : Array Value} {E : TypeId} {k : Nat} {u : Value} (hu : cs[k]? = some u) : (w.alloc (.cells cs E)).cell? ⟨w.heap.size, k, none⟩ = some u := by
  rw [cell_of_row _ _ k _ E (0, 0) (heap_alloc_new w _)]; exact hu
theorem new_free {w : World} {cs : Array Value} {E : TypeId} (k : Nat) : (w.alloc (.cells cs E)).frozen? ⟨w.heap.size, k, none⟩ = false := by
  have h := heap_alloc_new w (.cells cs E)
  unfold World.frozen?
  simp only [h]
  simp

/-- A drawn text: valid, and with another print than the one text that a law puts in its place. -/
def txB : Value → Bool | .string s => textV (bs s) && decide (s.size ≤ 60) && !(prOf (bs s) == prOf (bs ⟨#[113, 117, 105, 116, 101, 32, 111, 116, 104, 101, 114]⟩)) | _ => false
def Txt (v : Value) : Prop := ∃ s : ByteArray, v = .string s ∧ s.size ≤ 60 ∧ textV (bs s) = true ∧ prOf (bs s) ≠ prOf (bs ⟨#[113, 117, 105, 116, 101, 32, 111, 116, 104, 101, 114]⟩)
theorem txB_iff {v : Value} (h : txB v = true) : Txt v := by
  unfold txB at h; split at h
  · simp only [Bool.and_eq_true, decide_eq_true_eq, Bool.not_eq_true', beq_eq_false_iff_ne] at h
    exact ⟨_, rfl, h.1.2, h.1.1, h.2⟩
  · cases h
theorem flat3 {a0 a1 a2 : Int} {t0 t1 t2 : ByteArray} (x : Nat) (hx : x < 3) : ∃ (a : Int) (t : ByteArray), (#[Value.int .i64 a0, .string t0, .int .i64 a1, .string t1, .int .i64 a2, .string t2] : Array Value)[x * 2]? = some (.int .i64 a) ∧
    (#[Value.int .i64 a0, .string t0, .int .i64 a1, .string t1, .int .i64 a2, .string t2] : Array Value)[x * 2 + 1]? = some (.string t) ∧ (a = a0 ∨ a = a1 ∨ a = a2) ∧ (t = t0 ∨ t = t1 ∨ t = t2) := by
  match x, hx with
  | 0, _ => exact ⟨a0, t0, rfl, rfl, .inl rfl, .inl rfl⟩
  | 1, _ => exact ⟨a1, t1, rfl, rfl, .inr (.inl rfl), .inr (.inl rfl)⟩
  | 2, _ => exact ⟨a2, t2, rfl, rfl, .inr (.inr rfl), .inr (.inr rfl)⟩
def PcV (v : Value) : Prop := ∃ (a : Int) (t : ByteArray), v = .agg #[.int .i64 a, .string t] ∧ -1 ≤ a ∧ a ≤ 16777212 ∧ t.size ≤ 60
def DrawnPc (w : World) (e : Ending) (w' : World) : Prop := ∃ (a : Int) (t : ByteArray), e = .returned (.agg #[.int .i64 a, .string t]) ∧ -1 ≤ a ∧ a ≤ 16777212 ∧ t.size ≤ 60 ∧ Below w.heap.size w w'
end Go.Proofs.YtbpngpcjjinneaaDoor

/- StoreValid, BundlePrint, walked. -/
set_option linter.unusedVariables false
namespace Go.Proofs.YtbpngpcjjinneaaDoor
open Go.RowKit

theorem storeAt_eq {l : List Pc} {k : Nat} (hk : k < l.length) : storeAt l k = ((textV (bs l[k].2) && (prOf (bs l[k].2) == l[k].1)) && (k == 0 || decide ((l.getD (k - 1) pc0).1 < l[k].1))) := by
  unfold storeAt pieceOk; rw [getD_pc hk]
theorem storeAt_txt {l : List Pc} {k : Nat} (hk : k < l.length) (h : textV (bs l[k].2) = false) : storeAt l k = false := by rw [storeAt_eq hk, h]; rfl
theorem storeAt_pr {l : List Pc} {k : Nat} (hk : k < l.length) (h : ¬ prOf (bs l[k].2) = l[k].1) : storeAt l k = false := by
  rw [storeAt_eq hk, (show (prOf (bs l[k].2) == l[k].1) = false by simpa using h), Bool.and_false]; rfl
theorem storeAt_asc {l : List Pc} {k : Nat} (hk : k < l.length) (h0 : k ≠ 0) (h : ¬ (l.getD (k - 1) pc0).1 < l[k].1) : storeAt l k = false := by
  rw [storeAt_eq hk, decide_eq_false h, (show (k == 0) = false by simpa using h0), Bool.or_false, Bool.and_false]
theorem storeAt_ok {l : List Pc} {k : Nat} (hk : k < l.length) (h1 : textV (bs l[k].2) = true) (h2 : prOf (bs l[k].2) = l[k].1) (h3 : k = 0 ∨ (l.getD (k - 1) pc0).1 < l[k].1) : storeAt l k = true := by
  rw [storeAt_eq hk, h1, (show (prOf (bs l[k].2) == l[k].1) = true by simpa using h2)]
  rcases h3 with h3 | h3
  · subst h3; rfl
  · rw [decide_eq_true h3, Bool.or_true]; rfl
theorem cell_allocP {u : Value} {w : World} {x : Obj} {a : Addr} (hc : w.cell? a = some u) : (w.alloc x).cell? a = some u :=
  (World.cell?_alloc_lt w x a (World.block_lt_of_cell? w _ hc)).trans hc
/-- The cell of the piece before. -/
theorem prev_cell {w : World} {b o : Nat} {l : List Pc} {k : Nat} (h : Sl w encP 2 (some ⟨b, o, none⟩) l) (hk : k < l.length) (h0 : k ≠ 0) : w.cell? ⟨b, o + (k - 1) * 2, none⟩ = some (.int .i64 (l.getD (k - 1) pc0).1) := by
  obtain ⟨b', o', e, h', _⟩ := h.getP (k := k - 1) (by omega)
  injection e with e; injection e with e1 e2
  rw [e1, e2, getD_pc (by omega)]; exact h'
set_option maxHeartbeats 4000000 in
set_option maxRecDepth 100000 in
theorem iStoreValid_any (A : Option Addr) (c : Nat) (l : List Pc) (w : World) (hs : Sl w encP 2 A l) (hl : l.length ≤ 16777216) (hf : FitP l) :
    Calls Tryd.prog 66 #[.slice A l.length c] w fun e w' => e = .returned (.bool (storeV l)) ∧ Below w.heap.size w w' := by
  have HS := Lib.hid hs
  have HF := Lib.hid hf
  clear hs hf
  by_cases h40 : l.length ≤ 40
  case neg =>
    have E := Lib.hid (storeV_long h40)
    go_enter Tryd.func66, Tryd.ntmps66
    go_wp2
    go_ret
    exact ⟨ret_bool E.out.symm, Below.refl _ _⟩
  go_enter Tryd.func66, Tryd.ntmps66
  go_wp2
  go_loopw [10] (fun i wr => ∃ (k : Nat), k ≤ l.length ∧ i = .int .i64 k ∧ Hid (StoreUpto l k) ∧ Hid (Below w.heap.size w wr)) (fun i _ => l.length - (intOf i).toNat)
  case atStart => exact ⟨0, Nat.zero_le _, rfl, StoreUpto.zero l, Below.refl _ _⟩
  case round =>
    obtain ⟨k, hk, rfl, hh, HB⟩ := hrel
    by_cases hlt : k < l.length
    · have hsk := HS.out.below HB.out
      obtain ⟨b, o, rfl, hc0, hc1⟩ := hsk.getP hlt
      have hfk := HF.out.at hlt
      have hpv := @prev_cell _ _ _ _ k hsk hlt
      have H1 := Lib.hid (fun h => storeV_bad hlt (storeAt_txt hlt h))
      have H2 := Lib.hid (fun h => storeV_bad hlt (storeAt_pr hlt h))
      have H3 := Lib.hid (fun h0 h => storeV_bad hlt (storeAt_asc hlt h0 h))
      have H4 := Lib.hid (fun h1 h2 h3 => hh.out.succ (storeAt_ok hlt h1 h2 h3))
      have HB2 := Lib.hid (HB.out.alloc HB.out.size (.cells #[.int .i64 l[k].1, .string l[k].2] 79))
      have hx0 := far_cell (new_cell (w := wr) (cs := #[.int .i64 l[k].1, .string l[k].2]) (E := 79) (k := 0) rfl)
      have hx1 := far_cell (new_cell (w := wr) (cs := #[.int .i64 l[k].1, .string l[k].2]) (E := 79) (k := 1) rfl)
      clear hsk
      generalize (l.getD (k - 1) pc0).1 = z at *
      generalize l[k] = p at *
      obtain ⟨a, t⟩ := p
      simp only at *
      have hTV := fun w => iTextValid_any t w hfk
      cases h1 : textV (bs t)
      · have HE := Lib.hid (H1.out h1)
        rw [h1] at hTV
        have HTV := Lib.hid hTV
        clear hTV h1 H1 H2 H3 H4 hpv
        go_wp2
        refine wp_region_far (by kernel_rfl) (by kernel_rfl) ?_
        repeat (go_big_quiet_step ((go_at_call 84; exact far_same (HTV.out _))))
        refine wpQuiet_nil ?_
        intro _ hwF
        obtain ⟨pF, hwF⟩ := hwF
        subst hwF
        have HB5 := Lib.hid (Below_then HB2.out (far_below _ pF) (Nat.le_refl _))
        generalize far _ pF = wF at *
        go_wp2
        go_ret
        exact ⟨ret_bool HE.out.symm, HB5.out⟩
      · rw [h1] at hTV
        have HTV := Lib.hid hTV
        have hPO := fun w => iPrintOf_any t w hfk
        generalize hq : prOf (bs t) = q at *
        have HPO := Lib.hid hPO
        clear hTV hPO
        by_cases h2 : q = a
        · subst h2
          have hq2 : (q != q) = false := by simp
          by_cases h0 : k = 0
          · have HN := Lib.hid (H4.out h1 rfl (.inl h0))
            clear H1 H2 H3 H4 hpv
            have hk0 : decide (0 < k) = false := decide_eq_false (by omega)
            clear h0
            go_wp2
            refine wp_region_far (by kernel_rfl) (by kernel_rfl) ?_
            repeat (go_big_quiet_step ((first | (go_at_call 84; exact far_same (HTV.out _)) | (go_at_call 85; exact far_same (HPO.out _)))))
            refine wpQuiet_nil ?_
            intro _ hwF
            obtain ⟨pF, hwF⟩ := hwF
            subst hwF
            have HB5 := Lib.hid (Below_then HB2.out (far_below _ pF) (Nat.le_refl _))
            generalize far _ pF = wF at *
            go_wp2
            refine wp_region_far (by kernel_rfl) (by kernel_rfl) ?_
            repeat (go_big_quiet_step (fail))
            refine wpQuiet_nil ?_
            intro _ hwF
            obtain ⟨pF, hwF⟩ := hwF
            subst hwF
            have HB6 := Lib.hid (Below_then HB5.out (far_below _ pF) (Nat.le_refl _))
            generalize far _ pF = wG at *
            go_wp2
            go_roundw
            case rel => exact ⟨k + 1, by omega, by go_num, HN.out, HB6.out⟩
            case measure => simp [intOf]; omega
          · have hp1 := far_cell (cell_allocP (x := (.cells #[.int .i64 q, .string t] 79)) (hpv h0))
            have hk1 : 0 < k := by omega
            have hk2 : IntKind.i64.wrap ((k : Int) - 1) = (k : Int) - 1 := IntWalk.i64_in _ (by omega)
            have hk3 : (0 : Int) ≤ (k : Int) - 1 := by omega
            have hk4 : (k : Int) - 1 < (l.length : Int) := by omega
            have hk5 : ((k : Int) - 1).toNat = k - 1 := by omega
            by_cases h3 : z < q
            · have HN := Lib.hid (H4.out h1 rfl (.inr h3))
              clear H1 H2 H3 H4 hpv
              go_wp2
              refine wp_region_far (by kernel_rfl) (by kernel_rfl) ?_
              repeat (go_big_quiet_step ((first | (go_at_call 84; exact far_same (HTV.out _)) | (go_at_call 85; exact far_same (HPO.out _)))))
              refine wpQuiet_nil ?_
              intro _ hwF
              obtain ⟨pF, hwF⟩ := hwF
              subst hwF
              have HB5 := Lib.hid (Below_then HB2.out (far_below _ pF) (Nat.le_refl _))
              have hy0 := far_cell (hx0 pF)
              have hy1 := far_cell (hp1 pF)
              clear hx0 hx1 hp1
              generalize far _ pF = wF at *
              go_wp2
              refine wp_region_far (by kernel_rfl) (by kernel_rfl) ?_
              repeat (go_big_quiet_step (fail))
              refine wpQuiet_nil ?_
              intro _ hwF
              obtain ⟨pF, hwF⟩ := hwF
              subst hwF
              have HB6 := Lib.hid (Below_then HB5.out (far_below _ pF) (Nat.le_refl _))
              clear hy0 hy1
              generalize far _ pF = wG at *
              go_wp2
              go_roundw
              case rel => exact ⟨k + 1, by omega, by go_num, HN.out, HB6.out⟩
              case measure => simp [intOf]; omega
            · have HE := Lib.hid (H3.out h0 h3)
              clear H1 H2 H3 H4 hpv
              go_wp2
              refine wp_region_far (by kernel_rfl) (by kernel_rfl) ?_
              repeat (go_big_quiet_step ((first | (go_at_call 84; exact far_same (HTV.out _)) | (go_at_call 85; exact far_same (HPO.out _)))))
              refine wpQuiet_nil ?_
              intro _ hwF
              obtain ⟨pF, hwF⟩ := hwF
              subst hwF
              have HB5 := Lib.hid (Below_then HB2.out (far_below _ pF) (Nat.le_refl _))
              have hy0 := far_cell (hx0 pF)
              have hy1 := far_cell (hp1 pF)
              clear hx0 hx1 hp1
              generalize far _ pF = wF at *
              go_wp2
              refine wp_region_far (by kernel_rfl) (by kernel_rfl) ?_
              repeat (go_big_quiet_step (fail))
              refine wpQuiet_nil ?_
              intro _ hwF
              obtain ⟨pF, hwF⟩ := hwF
              subst hwF
              have HB6 := Lib.hid (Below_then HB5.out (far_below _ pF) (Nat.le_refl _))
              clear hy0 hy1
              generalize far _ pF = wG at *
              go_wp2
              go_ret
              exact ⟨ret_bool HE.out.symm, HB6.out⟩
        · have HE := Lib.hid (H2.out h2)
          have hq2 : (a != q) = true := by simpa using fun e => h2 e.symm
          clear H1 H2 H3 H4 hpv
          go_wp2
          refine wp_region_far (by kernel_rfl) (by kernel_rfl) ?_
          repeat (go_big_quiet_step ((first | (go_at_call 84; exact far_same (HTV.out _)) | (go_at_call 85; exact far_same (HPO.out _)))))
          refine wpQuiet_nil ?_
          intro _ hwF
          obtain ⟨pF, hwF⟩ := hwF
          subst hwF
          have HB5 := Lib.hid (Below_then HB2.out (far_below _ pF) (Nat.le_refl _))
          generalize far _ pF = wF at *
          go_wp2
          go_ret
          exact ⟨ret_bool HE.out.symm, HB5.out⟩
    · have HE := Lib.hid (hh.out.done hlt h40)
      go_wp2
      go_ret
      exact ⟨ret_bool HE.out.symm, HB.out⟩
set_option maxHeartbeats 8000000 in
set_option maxRecDepth 100000 in
theorem sStoreValid_any (A : Option Addr) (c : Nat) (l : List Pc) (w : World) (hs : Sl w encP 2 A l) (hl : l.length ≤ 16777216) (hf : FitP l) :
    Calls Tryd.prog 61 #[.slice A l.length c] w fun e w' => e = .returned (.bool (storeV l)) ∧ Below w.heap.size w w' := by
  have HS := Lib.hid hs
  have HF := Lib.hid hf
  clear hs hf
  go_enter Tryd.func61, Tryd.ntmps61
  go_wp2
  go_loopw [3] (fun i wr => ∃ (k : Nat), k ≤ l.length ∧ i = .int .i64 k ∧ Hid (StoreUpto l k) ∧ Hid (Below w.heap.size w wr)) (fun i _ => l.length - (intOf i).toNat)
  case atStart => exact ⟨0, Nat.zero_le _, rfl, StoreUpto.zero l, Below.refl _ _⟩
  case round =>
    obtain ⟨k, hk, rfl, hh, HB⟩ := hrel
    by_cases hlt : k < l.length
    · have hsk := HS.out.below HB.out
      obtain ⟨b, o, rfl, hc0, hc1⟩ := hsk.getP hlt
      have hfk := HF.out.at hlt
      have hpv := @prev_cell _ _ _ _ k hsk hlt
      have H1 := Lib.hid (fun h => storeV_bad hlt (storeAt_txt hlt h))
      have H2 := Lib.hid (fun h => storeV_bad hlt (storeAt_pr hlt h))
      have H3 := Lib.hid (fun h0 h => storeV_bad hlt (storeAt_asc hlt h0 h))
      have H4 := Lib.hid (fun h1 h2 h3 => hh.out.succ (storeAt_ok hlt h1 h2 h3))
      have hx0 := far_cell hc0
      have hx1 := far_cell hc1
      clear hsk hc0 hc1
      generalize (l.getD (k - 1) pc0).1 = z at *
      generalize l[k] = p at *
      obtain ⟨a, t⟩ := p
      simp only at *
      have hTV := fun w => sTextValid_any t w hfk
      cases h1 : textV (bs t)
      · have HE := Lib.hid (H1.out h1)
        rw [h1] at hTV
        have HTV := Lib.hid hTV
        clear hTV h1 H1 H2 H3 H4 hpv
        go_wp2
        refine wp_region_far (by kernel_rfl) (by kernel_rfl) ?_
        repeat (go_big_quiet_step ((go_at_call 82; exact far_same (HTV.out _))))
        refine wpQuiet_nil ?_
        intro _ hwF
        obtain ⟨pF, hwF⟩ := hwF
        subst hwF
        have HB5 := Lib.hid (Below_then HB.out (far_below _ pF) (Nat.le_refl _))
        generalize far _ pF = wF at *
        go_wp2
        go_ret
        exact ⟨ret_bool HE.out.symm, HB5.out⟩
      · rw [h1] at hTV
        have HTV := Lib.hid hTV
        have hPO := fun w => sPrintOf_any t w hfk
        generalize hq : prOf (bs t) = q at *
        have HPO := Lib.hid hPO
        clear hTV hPO
        by_cases h2 : q = a
        · subst h2
          by_cases h0 : k = 0
          · have HN := Lib.hid (H4.out h1 rfl (.inl h0))
            clear H1 H2 H3 H4 hpv
            have hk0 : decide (0 < k) = false := decide_eq_false (by omega)
            clear h0
            go_wp2
            refine wp_region_far (by kernel_rfl) (by kernel_rfl) ?_
            repeat (go_big_quiet_step ((first | (go_at_call 82; exact far_same (HTV.out _)) | (go_at_call 54; exact far_same (HPO.out _)))))
            refine wpQuiet_nil ?_
            intro _ hwF
            obtain ⟨pF, hwF⟩ := hwF
            subst hwF
            have HB5 := Lib.hid (Below_then HB.out (far_below _ pF) (Nat.le_refl _))
            generalize far _ pF = wF at *
            go_wp2
            go_roundw
            case rel => exact ⟨k + 1, by omega, by go_num, HN.out, HB5.out⟩
            case measure => simp [intOf]; omega
          · have hp1 := far_cell (hpv h0)
            have hk1 : 0 < k := by omega
            have hk2 : IntKind.i64.wrap ((k : Int) - 1) = (k : Int) - 1 := IntWalk.i64_in _ (by omega)
            have hk3 : (0 : Int) ≤ (k : Int) - 1 := by omega
            have hk4 : (k : Int) - 1 < (l.length : Int) := by omega
            have hk5 : ((k : Int) - 1).toNat = k - 1 := by omega
            by_cases h3 : z < q
            · have HN := Lib.hid (H4.out h1 rfl (.inr h3))
              clear H1 H2 H3 H4 hpv
              go_wp2
              refine wp_region_far (by kernel_rfl) (by kernel_rfl) ?_
              repeat (go_big_quiet_step ((first | (go_at_call 82; exact far_same (HTV.out _)) | (go_at_call 54; exact far_same (HPO.out _)))))
              refine wpQuiet_nil ?_
              intro _ hwF
              obtain ⟨pF, hwF⟩ := hwF
              subst hwF
              have HB5 := Lib.hid (Below_then HB.out (far_below _ pF) (Nat.le_refl _))
              clear hx0 hx1 hp1
              generalize far _ pF = wF at *
              go_wp2
              go_roundw
              case rel => exact ⟨k + 1, by omega, by go_num, HN.out, HB5.out⟩
              case measure => simp [intOf]; omega
            · have HE := Lib.hid (H3.out h0 h3)
              clear H1 H2 H3 H4 hpv
              go_wp2
              refine wp_region_far (by kernel_rfl) (by kernel_rfl) ?_
              repeat (go_big_quiet_step ((first | (go_at_call 82; exact far_same (HTV.out _)) | (go_at_call 54; exact far_same (HPO.out _)))))
              refine wpQuiet_nil ?_
              intro _ hwF
              obtain ⟨pF, hwF⟩ := hwF
              subst hwF
              have HB5 := Lib.hid (Below_then HB.out (far_below _ pF) (Nat.le_refl _))
              clear hx0 hx1 hp1
              generalize far _ pF = wF at *
              go_wp2
              go_ret
              exact ⟨ret_bool HE.out.symm, HB5.out⟩
        · have HE := Lib.hid (H2.out h2)
          have hq2 : (q != a) = true := by simpa using h2
          clear H1 H2 H3 H4 hpv
          go_wp2
          refine wp_region_far (by kernel_rfl) (by kernel_rfl) ?_
          repeat (go_big_quiet_step ((first | (go_at_call 82; exact far_same (HTV.out _)) | (go_at_call 54; exact far_same (HPO.out _)))))
          refine wpQuiet_nil ?_
          intro _ hwF
          obtain ⟨pF, hwF⟩ := hwF
          subst hwF
          have HB5 := Lib.hid (Below_then HB.out (far_below _ pF) (Nat.le_refl _))
          generalize far _ pF = wF at *
          go_wp2
          go_ret
          exact ⟨ret_bool HE.out.symm, HB5.out⟩
    · have HD := Lib.hid (fun h40 => hh.out.done hlt h40)
      have HL := Lib.hid (@storeV_long l)
      by_cases h40 : l.length ≤ 40
      · have HE := Lib.hid (HD.out h40)
        go_wp2
        go_ret
        exact ⟨ret_bool (by rw [HE.out]; simp; omega), HB.out⟩
      · have HE := Lib.hid (HL.out h40)
        go_wp2
        go_ret
        exact ⟨ret_bool (by rw [HE.out]; simp; omega), HB.out⟩
def bundF (l : List Pc) : Int := l.foldl (fun n p => prPair n p.1) 13
def bundP (l : List Pc) : Int := if storeV l then bundF l else -1
theorem bundF_take {l : List Pc} {k : Nat} (h : k < l.length) : bundF (l.take (k + 1)) = prPair (bundF (l.take k)) l[k].1 := by
  unfold bundF; rw [List.take_succ_eq_append_getElem h, List.foldl_append]; rfl
end Go.Proofs.YtbpngpcjjinneaaDoor
