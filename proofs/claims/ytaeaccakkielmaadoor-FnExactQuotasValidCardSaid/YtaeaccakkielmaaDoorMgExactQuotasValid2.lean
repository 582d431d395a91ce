/- Written by merge.py: Fi, Dr1, Fi2, Ap, Eq, Far, Mk, W3, St, Ap2, Ne, Ve, Nm, Rp, Dm, STag, Vt, Heap2, SVersion, Dr2, Dr3, Av, R3, Ss, Fb, Ht, Rh, Jp, Rw. -/
import Derived.Laws.BitsAllLaws
import Derived.Laws.BitsLemmas
import Derived.Laws.AppendOwnNone
import Derived.Laws.StructEq
import Derived.RegionTactic
import Derived.Deep.RegionLaw
import Derived.Deep.RegionHeld3
import Derived.Test.YtaeaccakkielmaaDoorMgExactQuotasValid1
/- Filters: the plain law, and the walks of the program and of the reference. -/
set_option linter.unusedVariables false
namespace Go.Proofs.YtaeaccakkielmaaDoor
open Go.RowKit

/-! ### the plain law -/
def maskN (P : Nat) : Nat := 2 ^ (P % 30) ||| 2 ^ (P / 30 % 30)
def filtN (l : List Int) : Nat := l.foldl (fun f p => f ||| maskN p.toNat) 0
def fv (f : Int) : Bool := inI f 0 1073741823
def filterOf (l : List Int) : Int := if l.all pv then (filtN l : Int) else -1
def filterHas (f p : Int) : Bool := fv f && pv p && (f.toNat &&& maskN p.toNat == maskN p.toNat)
def filterJoin (a b : Int) : Int := if fv a && fv b then ((a.toNat ||| b.toNat : Nat) : Int) else -1
def filterWanted (f : Int) (l : List Int) : List Int := if fv f && l.all pv then l.filter (fun p => !filterHas f p) else []

theorem fv_iff {n : Int} : fv n = true ↔ 0 ≤ n ∧ n ≤ 1073741823 := by simp [fv, inI]
theorem pow30 {x : Nat} (h : x < 30) : (2 : Nat) ^ x < 2 ^ 30 := Nat.pow_lt_pow_right (by omega) h
theorem maskN_lt (P : Nat) : maskN P < 2 ^ 30 := Nat.or_lt_two_pow (pow30 (Nat.mod_lt _ (by omega))) (pow30 (Nat.mod_lt _ (by omega)))
theorem filtN_from (l : List Int) : ∀ f : Nat, f < 2 ^ 30 → l.foldl (fun f p => f ||| maskN p.toNat) f < 2 ^ 30 ∧ f ||| l.foldl (fun f p => f ||| maskN p.toNat) f = l.foldl (fun f p => f ||| maskN p.toNat) f := by
  induction l with
  | nil => intro f hf; exact ⟨hf, Nat.or_self f⟩
  | cons p r ih =>
    intro f hf
    have h := ih (f ||| maskN p.toNat) (Nat.or_lt_two_pow hf (maskN_lt _))
    refine ⟨h.1, ?_⟩
    simp only [List.foldl_cons]
    have h2 := h.2
    generalize List.foldl (fun f p => f ||| maskN p.toNat) (f ||| maskN p.toNat) r = g at *
    rw [← h2, Nat.or_assoc, ← Nat.or_assoc f f, Nat.or_self]
theorem filtN_lt (l : List Int) : filtN l < 2 ^ 30 := (filtN_from l 0 (by decide)).1
theorem or_and_self (f m : Nat) : (f ||| m) &&& m = m := by
  apply Nat.eq_of_testBit_eq; intro i; simp [Nat.testBit_and, Nat.testBit_or]; intro h; exact .inr h
theorem and_of_or {f m g : Nat} (h : f ||| g = g) (hm : f &&& m = m) : g &&& m = m := by
  apply Nat.eq_of_testBit_eq; intro i
  have h1 := congrArg (fun x => x.testBit i) h
  have h2 := congrArg (fun x => x.testBit i) hm
  simp only [Nat.testBit_and, Nat.testBit_or] at *
  cases hb : m.testBit i <;> simp_all
theorem filtN_has (l : List Int) : ∀ f : Nat, f < 2 ^ 30 → ∀ p ∈ l, l.foldl (fun f p => f ||| maskN p.toNat) f &&& maskN p.toNat = maskN p.toNat := by
  induction l with
  | nil => intro f _ p hp; cases hp
  | cons q r ih =>
    intro f hf p hp
    have hq : f ||| maskN q.toNat < 2 ^ 30 := Nat.or_lt_two_pow hf (maskN_lt _)
    rcases List.mem_cons.1 hp with rfl | hp
    · exact and_of_or (filtN_from r _ hq).2 (or_and_self f _)
    · exact ih _ hq p hp
theorem filtN_snoc (l : List Int) (p : Int) : filtN (l ++ [p]) = filtN l ||| maskN p.toNat := by simp [filtN, List.foldl_append]
theorem has_all {l : List Int} (hl : l.all pv = true) : ∀ p ∈ l, filterHas (filterOf l) p = true := by
  intro p hp
  have hlt := filtN_lt l
  unfold filterHas filterOf
  rw [if_pos hl]
  have h1 : fv (filtN l : Int) = true := fv_iff.2 ⟨by omega, by omega⟩
  rw [h1, List.all_eq_true.1 hl p hp]
  have := filtN_has l 0 (by decide) p hp
  simp only [Bool.and_self, Bool.true_and, beq_iff_eq, Int.toNat_natCast]
  exact this
theorem filterOf_bad {l : List Int} (h : l.all pv = false) : filterOf l = -1 := by unfold filterOf; simp [h]
theorem filterOf_ok {l : List Int} (h : l.all pv = true) : filterOf l = filtN l := by unfold filterOf; simp [h]
theorem filterOf_fv {l : List Int} (h : l.all pv = true) : fv (filterOf l) = true := by
  have := filtN_lt l
  rw [filterOf_ok h]; exact fv_iff.2 ⟨by omega, by omega⟩
theorem filterOf_lt0 {l : List Int} (h : filterOf l < 0) : filterOf l = -1 := by
  cases hl : l.all pv with
  | false => exact filterOf_bad hl
  | true => rw [filterOf_ok hl] at h; omega
theorem filterOf_valid {l : List Int} (h : ¬ filterOf l < 0) : l.all pv = true := by
  cases hl : l.all pv with
  | true => rfl
  | false => exact absurd (by rw [filterOf_bad hl]; omega) h
theorem wanted_of_has {f : Int} {l : List Int} (h : ∀ p ∈ l, filterHas f p = true) : filterWanted f l = [] := by
  unfold filterWanted; split
  · exact List.filter_eq_nil_iff.2 fun p hp => by simp [h p hp]
  · rfl
theorem join_comm (a b : Int) : filterJoin a b = filterJoin b a := by
  unfold filterJoin; rw [Bool.and_comm, Nat.or_comm]
theorem join_facts {a b : Int} (h : ¬ filterJoin a b < 0) : fv a = true ∧ fv b = true ∧ filterJoin (filterJoin a b) a = filterJoin a b ∧ a ≤ filterJoin a b ∧ b ≤ filterJoin a b ∧ filterJoin a b ≤ 1073741823 := by
  by_cases hv : (fv a && fv b) = true
  · have h2 : fv a = true ∧ fv b = true := by simpa using hv
    have e : filterJoin a b = ((a.toNat ||| b.toNat : Nat) : Int) := by unfold filterJoin; rw [if_pos hv]
    have ha := fv_iff.1 h2.1
    have hb := fv_iff.1 h2.2
    have hlt : a.toNat ||| b.toNat < 2 ^ 30 := Nat.or_lt_two_pow (by omega) (by omega)
    have l1 : a.toNat ≤ a.toNat ||| b.toNat := Nat.left_le_or
    have l2 : b.toNat ≤ a.toNat ||| b.toNat := Nat.right_le_or
    refine ⟨h2.1, h2.2, ?_, by rw [e]; omega, by rw [e]; omega, by rw [e]; omega⟩
    rw [e]
    have hf : fv ((a.toNat ||| b.toNat : Nat) : Int) = true := fv_iff.2 ⟨by omega, by omega⟩
    unfold filterJoin
    rw [hf, h2.1, Int.toNat_natCast, Nat.or_assoc, Nat.or_comm b.toNat, ← Nat.or_assoc, Nat.or_self]; rfl
  · exfalso; apply h; unfold filterJoin; rw [if_neg hv]; omega
theorem join_lt0 {a b : Int} (h : filterJoin a b < 0) : filterJoin a b = -1 := by
  unfold filterJoin at h ⊢; split
  · rename_i hv; rw [if_pos hv] at h; omega
  · rfl
theorem has_of_join {f g p : Int} (hf : fv f = true) (hg : fv g = true) (h : filterHas f p = true ∨ filterHas g p = true) : filterHas (filterJoin f g) p = true := by
  have e : filterJoin f g = ((f.toNat ||| g.toNat : Nat) : Int) := by unfold filterJoin; rw [hf, hg]; rfl
  have ha := fv_iff.1 hf
  have hb := fv_iff.1 hg
  have hlt : f.toNat ||| g.toNat < 2 ^ 30 := Nat.or_lt_two_pow (by omega) (by omega)
  have hv : fv (filterJoin f g) = true := by rw [e]; exact fv_iff.2 ⟨by omega, by omega⟩
  have hp : pv p = true := by
    rcases h with h | h <;> · unfold filterHas at h; simp only [Bool.and_eq_true] at h; exact h.1.2
  unfold filterHas
  rw [hv, hp, e, Int.toNat_natCast]
  simp only [Bool.and_self, Bool.true_and, beq_iff_eq]
  rcases h with h | h
  · unfold filterHas at h; simp only [Bool.and_eq_true, beq_iff_eq] at h
    exact and_of_or (by rw [← Nat.or_assoc, Nat.or_self]) h.2
  · unfold filterHas at h; simp only [Bool.and_eq_true, beq_iff_eq] at h
    refine and_of_or ?_ h.2
    rw [Nat.or_comm f.toNat, ← Nat.or_assoc, Nat.or_self]
theorem has_full {f p : Int} (h : filterHas f p = true) : filterHas 1073741823 p = true := by
  have hp : pv p = true := by unfold filterHas at h; simp only [Bool.and_eq_true] at h; exact h.1.2
  have h1 : fv 1073741823 = true := by decide
  unfold filterHas; rw [h1, hp]
  have := maskN_lt p.toNat
  simp only [Bool.and_self, Bool.true_and, beq_iff_eq]
  show 1073741823 &&& maskN p.toNat = maskN p.toNat
  rw [Nat.and_comm]
  have e : (1073741823 : Nat) = 2 ^ 30 - 1 := rfl
  rw [e, Nat.and_two_pow_sub_one_eq_mod, Nat.mod_eq_of_lt this]
theorem has_empty (p : Int) : filterHas 0 p = false := by
  unfold filterHas
  have h : ((0 : Int).toNat &&& maskN p.toNat == maskN p.toNat) = false := by
    rw [show (0 : Int).toNat = 0 from rfl, Nat.zero_and]
    apply beq_eq_false_iff_ne.2
    have : 2 ^ (p.toNat % 30) ≤ maskN p.toNat := Nat.left_le_or
    have := Nat.two_pow_pos (p.toNat % 30)
    omega
  rw [h]; simp
theorem wanted_join {f : Int} {l : List Int} : filterWanted (filterJoin f (filterOf (filterWanted f l))) l = [] := by
  by_cases hv : (fv f && l.all pv) = true
  · have h2 : fv f = true ∧ l.all pv = true := by simpa using hv
    have e : filterWanted f l = l.filter (fun p => !filterHas f p) := by unfold filterWanted; rw [if_pos hv]
    have hx : (filterWanted f l).all pv = true := by
      rw [e, List.all_eq_true]; intro p hp; exact List.all_eq_true.1 h2.2 p (List.mem_filter.1 hp |>.1)
    refine wanted_of_has fun p hp => has_of_join h2.1 (filterOf_fv hx) ?_
    cases hh : filterHas f p with
    | true => exact .inl rfl
    | false => right; exact has_all hx p (by rw [e]; exact List.mem_filter.2 ⟨hp, by simp [hh]⟩)
  · have hf : filterWanted f l = [] := by unfold filterWanted; rw [if_neg hv]
    cases hl : l.all pv with
    | false => unfold filterWanted; simp [hl]
    | true =>
      have hff : fv f = false := by cases h : fv f <;> simp_all
      have : filterJoin f (filterOf (filterWanted f l)) = -1 := by unfold filterJoin; simp [hff]
      rw [this]; unfold filterWanted; rw [if_neg]; simp [fv, inI]

/-! ### bits of int64 -/
theorem ofInt_i64 (a : Nat) (ha : a < 9223372036854775808) : (BitVec.ofInt 64 (a : Int)).toNat = a := by
  rw [BitVec.ofInt_natCast, BitVec.toNat_ofNat]; exact Nat.mod_eq_of_lt (by omega)
theorem i64_and_nat (a b : Nat) (ha : a < 9223372036854775808) (hb : b < 9223372036854775808) : bits .and .i64 (a : Int) (b : Int) = ((a &&& b : Nat) : Int) := by
  have hx : a &&& b < 2 ^ 63 := Nat.and_lt_two_pow _ (by omega)
  show IntKind.i64.wrap ((BitVec.ofInt 64 (a : Int) &&& BitVec.ofInt 64 (b : Int)).toNat : Int) = _
  rw [BitVec.toNat_and, ofInt_i64 a ha, ofInt_i64 b hb, IntKind.wrap_i64]
  omega
theorem i64_or_nat (a b : Nat) (ha : a < 9223372036854775808) (hb : b < 9223372036854775808) : bits .or .i64 (a : Int) (b : Int) = ((a ||| b : Nat) : Int) := by
  have hx : a ||| b < 2 ^ 63 := Nat.or_lt_two_pow (by omega) (by omega)
  show IntKind.i64.wrap ((BitVec.ofInt 64 (a : Int) ||| BitVec.ofInt 64 (b : Int)).toNat : Int) = _
  rw [BitVec.toNat_or, ofInt_i64 a ha, ofInt_i64 b hb, IntKind.wrap_i64]
  omega
theorem or_pows {x y : Nat} (hx : x < 30) (hy : y < 30) : bits .or .i64 (wrap64 (2 ^ x)) (wrap64 (2 ^ y)) = ((2 ^ x ||| 2 ^ y : Nat) : Int) := by
  have h1 := pow30 hx
  have h2 := pow30 hy
  have p1 : ((2 : Int) ^ x) = ((2 ^ x : Nat) : Int) := by simp
  have p2 : ((2 : Int) ^ y) = ((2 ^ y : Nat) : Int) := by simp
  rw [p1, p2]
  generalize (2 ^ x : Nat) = X at *
  generalize (2 ^ y : Nat) = Y at *
  have e1 : wrap64 (X : Int) = X := IntWalk.wrap64_in _ (by omega)
  have e2 : wrap64 (Y : Int) = Y := IntWalk.wrap64_in _ (by omega)
  rw [e1, e2, i64_or_nat _ _ (by omega) (by omega)]

/-! ### the walks -/
theorem all_take_succ {α : Type} {p : α → Bool} {l : List α} {k : Nat} (hk : k < l.length) (h : (l.take k).all p = true) (hx : p l[k] = true) : (l.take (k + 1)).all p = true := by
  rw [List.take_succ_eq_append_getElem hk, List.all_append, h]; simp [hx]
theorem all_of_take {α : Type} {p : α → Bool} {l : List α} {k : Nat} (hk : ¬ k < l.length) (h : (l.take k).all p = true) : l.all p = true := by
  rwa [List.take_of_length_le (by omega)] at h
theorem all_bad {α : Type} {p : α → Bool} {l : List α} {k : Nat} (hk : k < l.length) (h : p l[k] = false) : l.all p = false := by
  rw [List.all_eq_false]; exact ⟨l[k], by simp, by simp [h]⟩

theorem filtN_take {l : List Int} {k : Nat} (hk : k < l.length) : filtN (l.take (k + 1)) = filtN (l.take k) ||| maskN l[k].toNat := by
  rw [List.take_succ_eq_append_getElem hk, filtN_snoc]
end Go.Proofs.YtaeaccakkielmaaDoor

/- Drawn inputs: names, prints, and the like. -/
set_option linter.unusedVariables false
namespace Go.Proofs.YtaeaccakkielmaaDoor
open Go.RowKit

/-- A drawn result that lies in no memory: 'P v'; at most 'C' bytes were read. -/
def Drew (P : Value → Prop) (C : Nat) (w : World) (g p : Nat) (e : Ending) (w' : World) : Prop :=
  ∃ (v : Value) (p' : Nat), e = .returned v ∧ P v ∧ Only g w w' ∧ Rdr w' g p' ∧ p' ≤ p + C
def ShortStr (m : Nat) (v : Value) : Prop := ∃ s : ByteArray, v = .string s ∧ s.size ≤ m
theorem size_lit (a : Array UInt8) : (ByteArray.mk a).size = a.size := rfl

theorem lit_cell {w w1 : World} {g : Nat} {cs : Array Value} {E : TypeId} (ho : Only g (w.alloc (.cells cs E)) w1) (hg : g < w.heap.size) {k : Nat} {u : Value} (hu : cs[k]? = some u) : w1.cell? ⟨w.heap.size, k, none⟩ = some u :=
  ho.cell (by omega) (by rw [cell_of_row _ _ k _ E (0, 0) (heap_alloc_new w _)]; exact hu)

def shortB (m : Nat) : Value → Bool | .string s => decide (s.size ≤ m) | _ => false
def intB (lo hi : Int) : Value → Bool | .int .i64 n => decide (lo ≤ n) && decide (n ≤ hi) | _ => false
theorem shortB_iff {m : Nat} {v : Value} (h : shortB m v = true) : ∃ s, v = .string s ∧ s.size ≤ m := by
  unfold shortB at h; split at h
  · exact ⟨_, rfl, by simpa using h⟩
  · cases h
theorem intB_iff {lo hi : Int} {v : Value} (h : intB lo hi v = true) : ∃ n, v = .int .i64 n ∧ lo ≤ n ∧ n ≤ hi := by
  unfold intB at h; split at h
  · exact ⟨_, rfl, by simpa using h⟩
  · cases h
/-- 'pick' of the place of a literal's element. -/
theorem pick_lit {w : World} {g p : Nat} {cs : Array Value} {E : TypeId} (k : Nat) (chk : Value → Bool) (hr : Rdr w g p) (hp : p ≤ 1000000000) (hk : cs.size = k) (hpos : 0 < k) (hb : k ≤ 1000) (hc : cs.toList.all chk = true) :
    Calls Tryd.prog 42 #[.pointer (some ⟨g, 0, none⟩), .int .i64 (k : Int)] (w.alloc (.cells cs E)) fun e w' =>
      ∃ (x : Nat) (u : Value), e = .returned (.int .i64 x) ∧ x < k ∧ w'.cell? ⟨w.heap.size, x, none⟩ = some u ∧ chk u = true ∧ Only g w w' ∧ Rdr w' g (p + 1) := by
  refine (pick_any (k : Int) g p _ (hr.alloc _) hp (by omega)).mono ?_
  rintro e w' ⟨x, rfl, hx, ho, hr'⟩
  have hxk : x < cs.size := by omega
  refine ⟨x, cs[x], rfl, by omega, lit_cell ho hr.lt (Array.getElem?_eq_getElem hxk), List.all_eq_true.1 hc _ (by simp), (Only.of_below ((Below.refl _ _).alloc (Nat.le_refl _) _)).trans ho, hr'⟩
theorem pick_str {w : World} {g p : Nat} {cs : Array Value} {E : TypeId} (k m : Nat) (hr : Rdr w g p) (hp : p ≤ 1000000000) (hk : cs.size = k) (hpos : 0 < k) (hb : k ≤ 1000) (hc : cs.toList.all (shortB m) = true) :
    Calls Tryd.prog 42 #[.pointer (some ⟨g, 0, none⟩), .int .i64 (k : Int)] (w.alloc (.cells cs E)) fun e w' =>
      ∃ (x : Nat) (s : ByteArray), e = .returned (.int .i64 x) ∧ x < k ∧ w'.cell? ⟨w.heap.size, x, none⟩ = some (.string s) ∧ s.size ≤ m ∧ Only g w w' ∧ Rdr w' g (p + 1) := by
  refine (pick_lit k (shortB m) hr hp hk hpos hb hc).mono ?_
  rintro e w' ⟨x, u, rfl, hx, hu, hcu, ho, hr'⟩
  obtain ⟨s, rfl, hs⟩ := shortB_iff hcu
  exact ⟨x, s, rfl, hx, hu, hs, ho, hr'⟩
theorem pick_int {w : World} {g p : Nat} {cs : Array Value} {E : TypeId} (k : Nat) (lo hi : Int) (hr : Rdr w g p) (hp : p ≤ 1000000000) (hk : cs.size = k) (hpos : 0 < k) (hb : k ≤ 1000) (hc : cs.toList.all (intB lo hi) = true) :
    Calls Tryd.prog 42 #[.pointer (some ⟨g, 0, none⟩), .int .i64 (k : Int)] (w.alloc (.cells cs E)) fun e w' =>
      ∃ (x : Nat) (n : Int), e = .returned (.int .i64 x) ∧ x < k ∧ w'.cell? ⟨w.heap.size, x, none⟩ = some (.int .i64 n) ∧ lo ≤ n ∧ n ≤ hi ∧ Only g w w' ∧ Rdr w' g (p + 1) := by
  refine (pick_lit k (intB lo hi) hr hp hk hpos hb hc).mono ?_
  rintro e w' ⟨x, u, rfl, hx, hu, hcu, ho, hr'⟩
  obtain ⟨n, rfl, h1, h2⟩ := intB_iff hcu
  exact ⟨x, n, rfl, hx, hu, h1, h2, ho, hr'⟩

/-- A drawn result of a 'Draw..' function: no memory that was there has turned. -/
def Drawn (P : Value → Prop) (w : World) (e : Ending) (w' : World) : Prop := ∃ v, e = .returned v ∧ P v ∧ Below w.heap.size w w'
end Go.Proofs.YtaeaccakkielmaaDoor

/- Filters: FilterHas, FilterJoin, FilterWanted; drawn prints and filters. -/
set_option linter.unusedVariables false
namespace Go.Proofs.YtaeaccakkielmaaDoor
open Go.RowKit

theorem has_nat {F : Nat} {p : Int} (hf : fv (F : Int) = true) (hp : pv p = true) : filterHas (F : Int) p = (((F &&& maskN p.toNat : Nat) : Int) == ((maskN p.toNat : Nat) : Int)) := by
  unfold filterHas; rw [hf, hp, Int.toNat_natCast]
  simp only [Bool.and_self, Bool.true_and]
  rw [Bool.eq_iff_iff]; simp only [beq_iff_eq]; omega
theorem has_badf {f p : Int} (hf : fv f = false) : filterHas f p = false := by unfold filterHas; simp [hf]
theorem has_badp {f p : Int} (hp : pv p = false) : filterHas f p = false := by unfold filterHas; simp [hp]

theorem join_bad {a b : Int} (h : fv a = false ∨ fv b = false) : filterJoin a b = -1 := by
  unfold filterJoin; rcases h with h | h <;> simp [h]
theorem join_nat {F G : Nat} (hf : fv (F : Int) = true) (hg : fv (G : Int) = true) : filterJoin F G = ((F ||| G : Nat) : Int) := by
  unfold filterJoin; rw [hf, hg]; rfl
theorem wanted_bad {f : Int} {l : List Int} (h : fv f = false ∨ l.all pv = false) : filterWanted f l = [] := by
  unfold filterWanted; rcases h with h | h <;> simp [h]
theorem wanted_ok {f : Int} {l : List Int} (hf : fv f = true) (hl : l.all pv = true) : filterWanted f l = l.filter (fun p => !filterHas f p) := by
  unfold filterWanted; simp [hf, hl]
theorem filter_take_yes {α : Type} {p : α → Bool} {l : List α} {k : Nat} (hk : k < l.length) (h : p l[k] = true) : (l.take (k + 1)).filter p = (l.take k).filter p ++ [l[k]] := by
  rw [List.take_succ_eq_append_getElem hk, List.filter_append]; simp [h]
theorem filter_take_no {α : Type} {p : α → Bool} {l : List α} {k : Nat} (hk : k < l.length) (h : p l[k] = false) : (l.take (k + 1)).filter p = (l.take k).filter p := by
  rw [List.take_succ_eq_append_getElem hk, List.filter_append]; simp [h]
end Go.Proofs.YtaeaccakkielmaaDoor

/- 'append' of one element onto a row of the call's own, telling besides what became of all other rows. -/
set_option linter.unusedVariables false
namespace Go.Proofs.YtaeaccakkielmaaDoor
open Go.RowKit

/-- w' is w but for new blocks and for the row that v owns. -/
def Grew (v : Value) (w w' : World) : Prop := w.grownBy w' v.ownBlock
/-- No slice at A lies in v's own block. -/
def Apart (A : Option Addr) (v : Value) : Prop := ∀ b o, A = some ⟨b, o, none⟩ → v.ownBlock ≠ some b
theorem Apart.nil (A : Option Addr) : Apart A (.slice none 0 0) := fun b o _ h => by simp [Value.ownBlock] at h
theorem Sl.grew {α : Type} {enc : α → List Value} {w w' : World} {size : Nat} {A : Option Addr} {l : List α} {v : Value} (h : Sl w enc size A l) (hg : Grew v w w') (ha : Apart A v) : Sl w' enc size A l := by
  intro hn
  obtain ⟨b, o, e, hc⟩ := h hn
  refine ⟨b, o, e, fun j u hu => ?_⟩
  have hcc := hc j u hu
  have hlt := World.block_lt_of_cell? w _ hcc
  rw [World.cell?_of_block (w := w) (hg.block b hlt (fun e2 => ha b o e (by rw [e2])))]; exact hcc
theorem Own.blk {α : Type} {enc : α → List Value} {w : World} {base size : Nat} {E : TypeId} {v : Value} {l : List α} (h : Own w base E size enc v l) : ∀ g, v.ownBlock = some g → base ≤ g ∧ g < w.heap.size := fun g hg => World.ownsRow.lt h g hg
/-- What is read lies below the base of what is owned: apart. -/
theorem Apart.of_lt {A : Option Addr} {v : Value} {B : Nat} (hA : ∀ b o, A = some ⟨b, o, none⟩ → b < B) (hv : ∀ g, v.ownBlock = some g → B ≤ g) : Apart A v := fun b o e h => by
  have h1 := hA b o e; have h2 := hv b h; exact absurd h1 (by omega)
theorem Apart.of_ge {A : Option Addr} {v : Value} {B : Nat} (hA : ∀ b o, A = some ⟨b, o, none⟩ → B ≤ b) (hv : ∀ g, v.ownBlock = some g → g < B) : Apart A v := fun b o e h => by
  have := hA b o e; have := hv b h; omega
theorem Sl.lt {α : Type} {enc : α → List Value} {w : World} {size : Nat} {A : Option Addr} {l : List α} (h : Sl w enc size A l) (he : ∀ x, (enc x).length = size) (hs : 0 < size) (hl : 0 < l.length) : ∀ b o, A = some ⟨b, o, none⟩ → b < w.heap.size := by
  intro b o e
  obtain ⟨b', o', e', hc⟩ := h hl
  have hpos : 0 < (flat enc l).length := by rw [flat_length he l]; exact Nat.mul_pos hl hs
  have h0 := hc 0 _ (List.getElem?_eq_getElem hpos)
  have hlt : b' < w.heap.size := World.block_lt_of_cell? w _ h0
  rw [e] at e'; injection e' with e'; injection e' with e1 _
  omega

theorem wpList_app2 {P : Program} {α : Type} {enc : α → List Value} {ops : Array Oper} {rest : List Oper} {o : Oper} {a : Act} {Q : Exit → Act → World → Prop} {w0 wr : World} {B base size bytes : Nat} {t E : TypeId} {i : TypeInfo} {z : Value} {v : Value} {l : List α}
    (ht : P.underlying t = some (.slice E)) (hi : P.info? E = some i) (hz : i.zero = some z) (hsize : i.size = size) (hby : i.bytes = bytes) (hzs : z.cells.size = size) (hsz : 0 < size) (hb200 : bytes ≤ 256)
    (hgd : o.guard = none) (s x : Operand) (ho : o.op = .call { callee := .builtin .append, args := #[s, x], argTypes := #[t, t] })
    (hs : a.eval s = v) (hx : a.eval x = .slice (some ⟨wr.heap.size, 0, none⟩) 1 1)
    (hown : Own wr base E size enc v l) (hb : Below B w0 wr) (hB : B ≤ base) (hbase : base ≤ wr.heap.size) (hn : l.length ≤ 16777216) (y : α) (cells : Array Value) (hcl : cells = (enc y).toArray) (hce : (enc y).length = size) (h1 : ∀ u ∈ enc y, u.oneCell' = true)
    (h : ∀ v' w', Own w' base E size enc v' (l ++ [y]) → Below B w0 w' → Grew v wr w' → wpList P ops Q rest (a.put o.dst v') w') : wpList P ops Q (o :: rest) a (wr.alloc (.cells cells E)) := by
  subst hcl
  refine wpList_append_own _ hgd s x t ho base E i z size bytes ht hi hz hsize hby hzs hsz v l.length (flat enc l) hs (World.ownsRow.alloc hown _) ⟨wr.heap.size, 0, none⟩ 1 1 (enc y) hx (by rw [hce, Nat.one_mul]) ?_ h1 ?_ ?_ ?_ ?_
  · intro j u hu
    have hadd : (⟨wr.heap.size, 0, none⟩ : Addr).add j = ⟨wr.heap.size, j, none⟩ := by unfold Addr.add; split <;> simp_all
    rw [hadd, cell_of_row _ _ j _ E (0, 0) (heap_alloc_new wr _)]
    simpa using hu
  · unfold maxLen; omega
  · have := Nat.mul_le_mul_left (l.length + 1) hb200; omega
  · simp; omega
  · intro v' w' hown' hg _
    refine h v' w' ?_ ((hb.alloc (Nat.le_trans hB hbase) _).grown hg (by simp; omega) (fun k hk => ?_)) ?_
    · show w'.ownsRow base E size v' (l ++ [y]).length (flat enc (l ++ [y]))
      rw [flat_snoc, List.length_append]; exact hown'
    · exact Nat.le_trans hB (World.ownsRow.lt hown k hk).1
    · exact ⟨hg.os, hg.tape, hg.output, Nat.le_trans (by simp) hg.size, fun k hk hne => (hg.block k (by simp; omega) hne).trans (Below.heap_alloc wr _ k hk)⟩
section
variable {ops : Array Oper} {rest : List Oper} {o : Oper} {a : Act} {Q : Exit → Act → World → Prop} {w0 wr : World} {v : Value}
theorem app_int2 {l : List Int} {y : Int} {s x : Operand} (hgd : o.guard = none) (ho : o.op = .call { callee := .builtin .append, args := #[s, x], argTypes := #[78, 78] })
    (hs : a.eval s = v) (hx : a.eval x = .slice (some ⟨wr.heap.size, 0, none⟩) 1 1)
    (hown : Own wr w0.heap.size 3 1 encI v l) (hb : Below w0.heap.size w0 wr) (hn : l.length ≤ 16777216)
    (h : ∀ v' w', Own w' w0.heap.size 3 1 encI v' (l ++ [y]) → Below w0.heap.size w0 w' → Grew v wr w' → wpList Tryd.prog ops Q rest (a.put o.dst v') w') :
    wpList Tryd.prog ops Q (o :: rest) a (wr.alloc (.cells #[.int .i64 y] 3)) := by
  obtain ⟨i0, hi0, hz0, hz1, hz2⟩ := info_parts int_info
  exact wpList_app2 Tryd.underlying78 hi0 hz0 hz1 hz2 rfl (by decide) (by decide) hgd s x ho hs hx hown hb (Nat.le_refl _) hb.size hn y _ rfl rfl (by intro u hu; simp [encI] at hu; subst hu; rfl) h
end
end Go.Proofs.YtaeaccakkielmaaDoor

/- Comparisons of two slices that hold the same. -/
set_option linter.unusedVariables false
namespace Go.Proofs.YtaeaccakkielmaaDoor
open Go.RowKit
/-- wr is w after some draws. -/
def Drawn_ (w wr : World) : Prop := ∃ n, wr = w.drewN n
theorem Drawn_.drewN {w wr : World} (h : Drawn_ w wr) (m : Nat) : Drawn_ w (wr.drewN m) := by
  obtain ⟨n, rfl⟩ := h; exact ⟨n + m, by rw [World.drewN_drewN]⟩
theorem Sl.drawn_ {α : Type} {enc : α → List Value} {w wr : World} {size : Nat} {A : Option Addr} {l : List α} (h : Sl w enc size A l) (hd : Drawn_ w wr) : Sl wr enc size A l := by
  obtain ⟨n, rfl⟩ := hd; exact h
theorem Drawn_.below {w wr : World} (h : Drawn_ w wr) : Below w.heap.size w wr := by
  obtain ⟨n, rfl⟩ := h; exact Below_drewN (Below.refl _ _) n

set_option maxHeartbeats 2000000 in
set_option maxRecDepth 100000 in
theorem l_sameTexts_same (A B : Option Addr) (c d : Nat) (l : List ByteArray) (w : World) (ha : Sl w encS 1 A l) (hb : Sl w encS 1 B l) (hl : l.length ≤ 16777216) :
    Calls Tryd.prog 16 #[.slice A l.length c, .slice B l.length d] w fun e w' => e = .returned (.bool true) ∧ Drawn_ w w' := by
  have HA := Lib.hid ha
  have HB := Lib.hid hb
  clear ha hb
  go_enter Tryd.func16, Tryd.ntmps16
  go_wp2
  go_loopw [5] (fun i wr => ∃ (k : Nat), k ≤ l.length ∧ i = .int .i64 k ∧ Drawn_ w wr) (fun i _ => l.length - (intOf i).toNat)
  case atStart => exact ⟨0, Nat.zero_le _, rfl, 0, rfl⟩
  case round =>
    obtain ⟨k, hk, rfl, hw⟩ := hrel
    by_cases hlt : k < l.length
    · obtain ⟨b1, o1, rfl, hc1⟩ := (HA.out.drawn_ hw).getS hlt
      obtain ⟨b2, o2, rfl, hc2⟩ := (HB.out.drawn_ hw).getS hlt
      go_wp2
      go_quiet (fail)
      go_wp2
      go_roundw
      case rel => exact ⟨k + 1, by omega, by go_num, hw.drewN _⟩
      case measure => simp [intOf]; omega
    · go_wp2
      go_ret
      exact ⟨rfl, hw⟩
end Go.Proofs.YtaeaccakkielmaaDoor

/- Regions that draw their order and whose calls make memory of their own: ONE walk, in the order of the text, in every world that is as this one below its heap's size. -/
set_option linter.unusedVariables false
namespace Go.Proofs.YtaeaccakkielmaaDoor
open Go.RowKit

/-- What may have come since: new blocks, and a count of draws. -/
structure Since where
  os : Array Obj
  n : Nat
instance : Inhabited Since := ⟨⟨#[], 0⟩⟩
def far (w : World) (p : Since) : World := { w with heap := w.heap ++ p.os, drawn := p.n }
theorem far_size (w : World) (p : Since) : (far w p).heap.size = w.heap.size + p.os.size := by simp [far]
theorem far_below (w : World) (p : Since) : Below w.heap.size w (far w p) := ⟨rfl, rfl, rfl, by rw [far_size]; omega, fun k hk => by simp [far, Array.getElem?_append, hk]⟩
theorem below_far {w w' : World} (h : Below w.heap.size w w') : ∃ p, w' = far w p := by
  refine ⟨⟨w'.heap.extract w.heap.size w'.heap.size, w'.drawn⟩, ?_⟩
  obtain ⟨h1, h2, h3, h4, h5⟩ := h
  obtain ⟨hp, t, d, o, out⟩ := w'
  simp only at h1 h2 h3 h4 h5
  subst h1 h2 h3
  have e : hp = w.heap ++ hp.extract w.heap.size hp.size := by
    apply Array.ext_getElem?
    intro k
    by_cases hk : k < w.heap.size
    · rw [h5 k hk, Array.getElem?_append_left hk]
    · rw [Array.getElem?_append_right (by omega), Array.getElem?_extract]
      have e : w.heap.size + (k - w.heap.size) = k := by omega
      rw [e]
      split
      · rfl
      · rename_i hn
        rw [Array.getElem?_eq_none]
        omega
  unfold far
  exact congrArg (fun h => (⟨h, w.tape, d, w.os, w.output⟩ : World)) e
theorem far_cell {w : World} {a : Addr} {v : Value} (h : w.cell? a = some v) (p : Since) : (far w p).cell? a = some v :=
  ((far_below w p).cell (World.block_lt_of_cell? w _ h)).trans h
theorem wp_region_far {P : Program} {id : Nat} {Q : Exit → Act → World → Prop} {a : Act} {w : World} {l : List Oper} (hm : P.follows .mixedOrders = true) (hB : Region.lexB .any l.toArray = true)
    (h : wpQuiet P l.toArray (fun w' => ∃ p : Since, w' = far w p) (fun a' => ∀ w', (∃ p : Since, w' = far w p) → Q .normal a' w') l a) : (Code.region id l.toArray true).wp P Q a w :=
  wp_region_quiet (C := fun w' => ∃ p : Since, w' = far w p) hm hB (below_far ((Below.refl _ w).drew)) (by simpa using h)
section
variable {P : Program} {f : FuncId} {args : Array Value} {w : World} {p : Since} {v : Value}
theorem far_call (h : Calls P f args (far w p) fun e w' => e = .returned v ∧ Below (far w p).heap.size (far w p) w') : Calls P f args (far w p) fun e w'' => e = .returned v ∧ ∃ q : Since, w'' = far w q :=
  h.mono fun _ _ ⟨he, hb⟩ => ⟨he, below_far (Below_then (far_below w p) hb (Nat.le_refl _))⟩
theorem far_same (h : Calls P f args (far w p) fun e w' => e = .returned v ∧ far w p = w') : Calls P f args (far w p) fun e w'' => e = .returned v ∧ ∃ q : Since, w'' = far w q :=
  h.mono fun _ _ ⟨he, hb⟩ => ⟨he, p, hb.symm⟩
theorem far_drawn (h : Calls P f args (far w p) fun e w' => e = .returned v ∧ ∃ n, w' = (far w p).drewN n) : Calls P f args (far w p) fun e w'' => e = .returned v ∧ ∃ q : Since, w'' = far w q :=
  far_call (h.mono fun _ _ ⟨he, n, hn⟩ => ⟨he, by rw [hn]; exact Below_drewN (Below.refl _ _) n⟩)
theorem far_drawn_ (h : Calls P f args (far w p) fun e w' => e = .returned v ∧ Drawn_ (far w p) w') : Calls P f args (far w p) fun e w'' => e = .returned v ∧ ∃ q : Since, w'' = far w q :=
  far_drawn h
end
theorem Below_drew {w w1 : World} (h : Below w.drew.heap.size w.drew w1) : Below w.heap.size w w1 := ⟨h.os, h.tape, h.output, h.size, h.block⟩
theorem Sl.far {α : Type} {enc : α → List Value} {w : World} {size : Nat} {A : Option Addr} {l : List α} (h : Sl w enc size A l) (p : Since) : Sl (far w p) enc size A l := h.below (far_below w p)
end Go.Proofs.YtaeaccakkielmaaDoor

/- Marks that a law writes into slices, and looks for afterwards. -/
set_option linter.unusedVariables false
namespace Go.Proofs.YtaeaccakkielmaaDoor
open Go.RowKit

/-! ### plain -/
def dgo : Nat → Nat → Bs → Bs
  | 0, _, acc => acc
  | f + 1, k, acc => if k = 0 then acc else dgo f (k / 10) (UInt8.ofNat (48 + k % 10) :: acc)
def markT (k : Nat) : Bs := if k = 0 then [109, 48] else 109 :: dgo k k []
def MarkAt (k0 : Nat) (acc : Bs) (K : Nat) : Prop := ∃ f, K ≤ f ∧ dgo k0 k0 [] = dgo f K acc
theorem MarkAt.start (k0 : Nat) : MarkAt k0 [] k0 := ⟨k0, Nat.le_refl _, rfl⟩
theorem MarkAt.step {k0 : Nat} {acc : Bs} {K : Nat} (h : MarkAt k0 acc K) (hK : 0 < K) : MarkAt k0 (UInt8.ofNat (48 + K % 10) :: acc) (K / 10) := by
  obtain ⟨f, hf, e⟩ := h
  cases f with
  | zero => omega
  | succ f => exact ⟨f, by omega, by rw [e, dgo, if_neg (by omega)]⟩
theorem MarkAt.done {k0 : Nat} {acc : Bs} {K : Nat} (h : MarkAt k0 acc K) (hK : ¬ 0 < K) : dgo k0 k0 [] = acc := by
  obtain ⟨f, hf, e⟩ := h
  have : K = 0 := by omega
  subst this
  rw [e]
  cases f with
  | zero => rfl
  | succ f => rw [dgo, if_pos rfl]
theorem markT_pos {k : Nat} (h : 0 < k) : markT k = 109 :: dgo k k [] := by unfold markT; rw [if_neg (by omega)]
theorem markT_zero : markT 0 = [109, 48] := rfl

/-! ### memory -/
theorem Own.grew {α : Type} {enc : α → List Value} {w w' : World} {base size : Nat} {E : TypeId} {u v : Value} {l : List α} (h : Own w base E size enc u l) (hg : Grew v w w') (hne : ∀ g, u.ownBlock = some g → v.ownBlock ≠ some g) : Own w' base E size enc u l := by
  refine World.ownsRow.kept h (row := v.ownBlock) hg ?_
  cases hu : u.ownBlock with
  | none => exact .inl rfl
  | some k => right; intro e; exact hne k hu e.symm
theorem Grew.below {w w' : World} {v : Value} (h : Below w.heap.size w w') : Grew v w w' := ⟨h.os, h.tape, h.output, h.size, fun k hk _ => h.block k hk⟩
theorem Grew.refl (v : Value) (w : World) : Grew v w w := ⟨rfl, rfl, rfl, Nat.le_refl _, fun _ _ _ => rfl⟩
theorem Grew.trans {v : Value} {w w1 w2 : World} (h : Grew v w w1) (h2 : Grew v w1 w2) : Grew v w w2 :=
  ⟨h2.os.trans h.os, h2.tape.trans h.tape, h2.output.trans h.output, Nat.le_trans h.size h2.size, fun k hk hne => (h2.block k (Nat.lt_of_lt_of_le hk h.size) hne).trans (h.block k hk hne)⟩
theorem Grew.set {v : Value} {w w1 : World} (h : Grew v w w1) {g o : Nat} (hv : v.ownBlock = some g) (u : Value) : Grew v w (w1.setCell ⟨g, o, none⟩ u) :=
  h.trans ⟨rfl, rfl, rfl, by simp [World.setCell], fun k hk hne => Below.heap_setCell _ _ _ _ (by rintro rfl; exact hne (by rw [hv]))⟩
/-- Below a base that is not above what v owns, nothing has turned. -/
theorem Grew.under {v : Value} {w0 w w' : World} (h : Grew v w w') (hb : Below w0.heap.size w0 w) (hv : ∀ g, v.ownBlock = some g → w0.heap.size ≤ g) : Below w0.heap.size w0 w' :=
  hb.trans ⟨h.os, h.tape, h.output, h.size, fun k hk => h.block k (Nat.lt_of_lt_of_le hk hb.size) (fun e => by have := hv k e.symm; omega)⟩
/-- A row that is owned, ready to be written anew. -/
theorem Own.row {α : Type} {enc : α → List Value} {w : World} {base size : Nat} {E : TypeId} {v : Value} {l : List α} (h : Own w base E size enc v l) (hl : 0 < l.length) :
    ∃ g cap, v = .slice (some ⟨g, 0, none⟩) l.length cap ∧ base ≤ g ∧ l.length ≤ cap ∧ cap ≤ maxLen ∧ Filled w g (cap * size) E [] := by
  rcases h.2 with ⟨hv, hn⟩ | ⟨g, cap, cur, hv, hg, hh, hnc, hcm, hsz, ht⟩
  · omega
  · exact ⟨g, cap, hv, hg, hnc, hcm, cur, hh, hsz, Nat.zero_le _, rfl⟩
theorem Filled.ownc {α : Type} {enc : α → List Value} {wr : World} {g cap : Nat} {E : TypeId} {l : List α} {size base : Nat} (h : Filled wr g (cap * size) E (flat enc l)) (he : ∀ x, (enc x).length = size) (hb : base ≤ g) (hm : cap ≤ maxLen) (hl : l.length ≤ cap) :
    Own wr base E size enc (.slice (some ⟨g, 0, none⟩) l.length cap) l := by
  obtain ⟨cs, hg, hs, hd, ht⟩ := h
  refine ⟨flat_length he l, .inr ⟨g, cap, cs, rfl, hb, hg, hl, hm, hs, ?_⟩⟩
  rw [← flat_length he l]; exact ht
theorem own_of_slice (g o n c : Nat) : (Value.slice (some ⟨g, o, none⟩) n c).ownBlock = some g := rfl

/-! ### walks -/

/-! ### numbers -/
def cntI (k n : Nat) : List Int := (List.range n).map fun j => ((k + j : Nat) : Int)
theorem cntI_len (k n : Nat) : (cntI k n).length = n := by simp [cntI]
theorem cntI_succ (k n : Nat) : cntI k (n + 1) = cntI k n ++ [((k + n : Nat) : Int)] := by simp [cntI, List.range_succ]
theorem cntI_at {k n j : Nat} (h : j < n) : (cntI k n)[j]'(by rw [cntI_len]; exact h) = ((k + j : Nat) : Int) := by simp [cntI]
theorem flatI_len (l : List Int) : (flat encI l).length = l.length := by rw [flat_length (size := 1) (fun _ => rfl), Nat.mul_one]
def Marked {α : Type} (E : TypeId) (size : Nat) (enc : α → List Value) (base : Nat) (v : Value) (l' : List α) (r : Nat) (w : World) (e : Ending) (w' : World) : Prop :=
  e = .returned (.int .i64 (r : Int)) ∧ Own w' base E size enc v l' ∧ Grew v w w'
theorem Own.empty {α : Type} {enc : α → List Value} {w : World} {base size : Nat} {E : TypeId} {v : Value} {l l' : List α} (h : Own w base E size enc v l) (hl : l.length = 0) (hl' : l'.length = 0) : Own w base E size enc v l' := by
  have e1 : l = [] := List.eq_nil_of_length_eq_zero hl
  have e2 : l' = [] := List.eq_nil_of_length_eq_zero hl'
  rw [e2]; rw [e1] at h; exact h
end Go.Proofs.YtaeaccakkielmaaDoor

/- Walks: pieces. -/
set_option linter.unusedVariables false
namespace Go.Proofs.YtaeaccakkielmaaDoor
open Go.RowKit

def pieceR (p : Pc) : Bool := textV (bs p.2) && (prOf (bs p.2) == p.1)
theorem below1 {w : World} (o : Obj) (n : Nat) : Below w.heap.size w ((w.alloc o).drewN n) := Below_drewN ((Below.refl _ _).alloc (Nat.le_refl _) o) n

set_option maxHeartbeats 2000000 in
set_option maxRecDepth 100000 in
theorem iPieceRight_any (a : Int) (t : ByteArray) (w : World) (hs : t.size ≤ 16777216) :
    Calls Tryd.prog 39 #[.agg #[.int .i64 a, .string t]] w fun e w' => e = .returned (.bool (pieceR (a, t))) ∧ Below w.heap.size w w' := by
  cases ht : textV (bs t)
  · have hp : pieceR (a, t) = false := by unfold pieceR; rw [ht]; rfl
    rw [hp]
    clear hp
    go_enter Tryd.func39, Tryd.ntmps39
    go_wp2
    go_quiet ((first | (go_at_call 45; exact quiet_left (iTextValid_any _ _ hs)) | (go_at_call 46; exact quiet_left (iPrintOf_any _ _ hs))))
    go_wp2
    go_ret
    exact ⟨rfl, below1 _ _⟩
  · have hp : pieceR (a, t) = (prOf (bs t) == a) := by unfold pieceR; rw [ht]; rfl
    rw [hp]
    clear hp
    generalize hq : prOf (bs t) = q at *
    have hP := iPrintOf_any t
    rw [hq] at hP
    have HP := Lib.hid hP
    clear hP hq
    go_enter Tryd.func39, Tryd.ntmps39
    go_wp2
    go_quiet ((first | (go_at_call 45; exact quiet_left (iTextValid_any _ _ hs)) | (go_at_call 46; exact quiet_left (HP.out _ hs))))
    go_wp2
    go_ret
    exact ⟨rfl, below1 _ _⟩
def szT (left n : Int) : Int := if left < n then -1 else left - n
theorem below3 {w : World} (o1 o2 o3 : Obj) : Below w.heap.size w (((w.alloc o1).alloc o2).alloc o3) :=
  (((Below.refl _ _).alloc (Nat.le_refl _) o1).alloc (by simp) o2).alloc (by simp; omega) o3
theorem box_cell {w w1 : World} {cs : Array Value} {E : TypeId} (hb : Below (w.alloc (.cells cs E)).heap.size (w.alloc (.cells cs E)) w1) (k : Nat) {u : Value} (hu : cs[k]? = some u) : w1.cell? ⟨w.heap.size, k, none⟩ = some u := by
  rw [hb.cell (p := ⟨w.heap.size, k, none⟩) (by simp), cell_of_row _ _ k _ E (0, 0) (heap_alloc_new w _)]; exact hu

end Go.Proofs.YtaeaccakkielmaaDoor

/- Words for slices of structs: several cells written one after the other; marks at a number. -/
set_option linter.unusedVariables false
namespace Go.Proofs.YtaeaccakkielmaaDoor
open Go.RowKit

/-- Cells stored one after the other. -/
def setAll (w : World) (g : Nat) : Nat → List Value → World
  | _, [] => w
  | j, u :: r => setAll (w.setCell ⟨g, j, none⟩ u) g (j + 1) r
theorem Filled.stores_of {wr : World} {g N : Nat} {E : TypeId} : ∀ {done : List Value} (us : List Value) {j : Nat}, Filled wr g N E done → done.length = j → j + us.length ≤ N → Filled (setAll wr g j us) g N E (done ++ us) := by
  intro done us
  induction us generalizing wr done with
  | nil => intro j h _ _; rw [List.append_nil]; exact h
  | cons u r ih =>
    intro j h hd hl
    simp only [List.length_cons] at hl
    have h1 := h.store u (by omega)
    rw [hd] at h1
    have h2 := ih h1 (j := j + 1) (by simp; omega) (by omega)
    have e : done ++ u :: r = done ++ [u] ++ r := by simp
    rw [e]; exact h2
theorem Filled.stores {wr : World} {g N : Nat} {E : TypeId} {done : List Value} (h : Filled wr g N E done) (us : List Value) (hl : done.length + us.length ≤ N) : Filled (setAll wr g done.length us) g N E (done ++ us) :=
  Filled.stores_of us h rfl hl
theorem Own.sl' {α : Type} {enc : α → List Value} {w : World} {base size : Nat} {E : TypeId} {A : Option Addr} {n c : Nat} {l : List α} (h : Own w base E size enc (.slice A n c) l) : Sl w enc size A l := by
  obtain ⟨A', c', e, _, hs, _⟩ := h.sl
  injection e with e1 _ _
  rw [e1]; exact hs
theorem Own.up {α : Type} {enc : α → List Value} {w : World} {base size : Nat} {E : TypeId} {v : Value} {l : List α} (h : Own w base E size enc v l) : ∀ g, v.ownBlock = some g → g < w.heap.size := fun g hg => (h.blk g hg).2
theorem apart_of {u v : Value} {m n : Nat} (hu : ∀ g, u.ownBlock = some g → g < m) (hv : ∀ g, v.ownBlock = some g → n ≤ g) (h : m ≤ n) : ∀ g, u.ownBlock = some g → v.ownBlock ≠ some g := fun g h1 h2 => by
  have a := hu g h1; have b := hv g h2; exact absurd a (by omega)
theorem apart_of' {u v : Value} {m n : Nat} (hu : ∀ g, u.ownBlock = some g → n ≤ g) (hv : ∀ g, v.ownBlock = some g → g < m) (h : m ≤ n) : ∀ g, u.ownBlock = some g → v.ownBlock ≠ some g := fun g h1 h2 => by
  have a := hu g h1; have b := hv g h2; exact absurd b (by omega)
theorem Own.lo {α : Type} {enc : α → List Value} {w : World} {base size : Nat} {E : TypeId} {v : Value} {l : List α} (h : Own w base E size enc v l) : ∀ g, v.ownBlock = some g → base ≤ g := fun g hg => (h.blk g hg).1
end Go.Proofs.YtaeaccakkielmaaDoor

/- 'append' of a whole slice onto a row of the call's own; 'append' of one struct. -/
set_option linter.unusedVariables false
namespace Go.Proofs.YtaeaccakkielmaaDoor
open Go.RowKit

theorem Own.cz {α : Type} {enc : α → List Value} {w : World} {base size : Nat} {E : TypeId} {A : Option Addr} {n c : Nat} {l : List α} (h : Own w base E size enc (.slice A n c) l) : A = none → c = 0 := by
  rintro rfl
  rcases h.2 with ⟨hv, hn⟩ | ⟨g, cap, cur, hv, hg, hh, hnc, hcm, hsz, ht⟩
  · injection hv
  · injection hv with e; cases e
theorem wpList_appN {P : Program} {α : Type} {enc : α → List Value} {ops : Array Oper} {rest : List Oper} {o : Oper} {a : Act} {Q : Exit → Act → World → Prop} {w0 wr : World} {B base size bytes : Nat} {t E : TypeId} {i : TypeInfo} {z : Value} {v : Value} {l m : List α} {A : Option Addr} {c : Nat}
    (ht : P.underlying t = some (.slice E)) (hi : P.info? E = some i) (hz : i.zero = some z) (hsize : i.size = size) (hby : i.bytes = bytes) (hzs : z.cells.size = size) (hsz : 0 < size) (hb200 : bytes ≤ 256)
    (hgd : o.guard = none) (s x : Operand) (ho : o.op = .call { callee := .builtin .append, args := #[s, x], argTypes := #[t, t] })
    (hown : Own wr base E size enc v l) (hb : Below B w0 wr) (hB : B ≤ base) (hbase : base ≤ wr.heap.size) (hn : l.length + m.length ≤ 33554432)
    (hsl : Sl wr enc size A m) (hcz : A = none → c = 0) (hce : ∀ y, (enc y).length = size) (h1 : ∀ y, ∀ u ∈ enc y, u.oneCell' = true)
    (hs : a.eval s = v) (hx : a.eval x = .slice A m.length c)
    (h : ∀ v' w', Own w' base E size enc v' (l ++ m) → Below B w0 w' → Grew v wr w' → wpList P ops Q rest (a.put o.dst v') w') : wpList P ops Q (o :: rest) a wr := by
  cases A with
  | none =>
    have hm : m = [] := by
      cases m with
      | nil => rfl
      | cons y r => obtain ⟨b, o, e, _⟩ := hsl (by simp); cases e
    subst hm
    rw [hcz rfl] at hx
    refine wpList_append_own_none hgd s x t ho base E i size ht hi v l.length (flat enc l) hs hown hx ?_
    exact h v wr (by rw [List.append_nil]; exact hown) hb (Grew.refl _ _)
  | some ad =>
    refine wpList_append_own _ hgd s x t ho base E i z size bytes ht hi hz hsize hby hzs hsz v l.length (flat enc l) hs hown ad m.length c (flat enc m) hx (flat_length hce m) ?_ ?_ ?_ ?_ hbase ?_
    · intro j u hu
      have hpos : 0 < m.length := by
        have hlt := (List.getElem?_eq_some_iff.1 hu).1
        rw [flat_length hce] at hlt
        cases m with
        | nil => simp at hlt
        | cons y r => simp
      obtain ⟨b, o', e, hc⟩ := hsl hpos
      injection e with e
      subst e
      have hadd : (⟨b, o', none⟩ : Addr).add j = ⟨b, o' + j, none⟩ := by unfold Addr.add; split <;> simp_all
      rw [hadd]; exact hc j u hu
    · intro u hu
      unfold flat at hu
      obtain ⟨y, _, hy⟩ := List.mem_flatMap.1 hu
      exact h1 y u hy
    · unfold maxLen; omega
    · have := Nat.mul_le_mul_left (l.length + m.length) hb200; omega
    · intro v' w' hown' hg _
      refine h v' w' ?_ (hb.grown hg (Nat.le_trans hB hbase) (fun k hk => Nat.le_trans hB (World.ownsRow.lt hown k hk).1)) hg
      show w'.ownsRow base E size v' (l ++ m).length (flat enc (l ++ m))
      rw [flat_append, List.length_append]; exact hown'
theorem oneI : ∀ y, ∀ u ∈ encI y, u.oneCell' = true := by intro y u hu; simp [encI] at hu; subst hu; rfl
theorem oneS : ∀ y, ∀ u ∈ encS y, u.oneCell' = true := by intro y u hu; simp [encS] at hu; subst hu; rfl
theorem oneP : ∀ y, ∀ u ∈ encP y, u.oneCell' = true := by intro y u hu; simp [encP] at hu; rcases hu with rfl | rfl <;> rfl
theorem oneV : ∀ y, ∀ u ∈ encV y, u.oneCell' = true := by intro y u hu; simp [encV] at hu; rcases hu with rfl | rfl | rfl <;> rfl
theorem oneT : ∀ y, ∀ u ∈ encT y, u.oneCell' = true := by intro y u hu; simp [encT] at hu; rcases hu with rfl | rfl | rfl | rfl <;> rfl
section
variable {ops : Array Oper} {rest : List Oper} {o : Oper} {a : Act} {Q : Exit → Act → World → Prop} {w0 wr : World} {v : Value}
theorem app_pcN {l m : List Pc} {A : Option Addr} {c : Nat} {s x : Operand} (hgd : o.guard = none) (ho : o.op = .call { callee := .builtin .append, args := #[s, x], argTypes := #[35, 35] })
    (hown : Own wr w0.heap.size 58 2 encP v l) (hb : Below w0.heap.size w0 wr) (hn : l.length + m.length ≤ 33554432) (hsl : Sl wr encP 2 A m) (hcz : A = none → c = 0)
    (hs : a.eval s = v) (hx : a.eval x = .slice A m.length c)
    (h : ∀ v' w', Own w' w0.heap.size 58 2 encP v' (l ++ m) → Below w0.heap.size w0 w' → Grew v wr w' → wpList Tryd.prog ops Q rest (a.put o.dst v') w') : wpList Tryd.prog ops Q (o :: rest) a wr := by
  obtain ⟨i0, hi0, hz0, hz1, hz2⟩ := info_parts pc_info
  exact wpList_appN Tryd.underlying35 hi0 hz0 hz1 hz2 rfl (by decide) (by decide) hgd s x ho hown hb (Nat.le_refl _) hb.size hn hsl hcz (fun _ => rfl) oneP hs hx h
theorem app_strN {l m : List ByteArray} {A : Option Addr} {c : Nat} {s x : Operand} (hgd : o.guard = none) (ho : o.op = .call { callee := .builtin .append, args := #[s, x], argTypes := #[37, 37] })
    (hown : Own wr w0.heap.size 9 1 encS v l) (hb : Below w0.heap.size w0 wr) (hn : l.length + m.length ≤ 33554432) (hsl : Sl wr encS 1 A m) (hcz : A = none → c = 0)
    (hs : a.eval s = v) (hx : a.eval x = .slice A m.length c)
    (h : ∀ v' w', Own w' w0.heap.size 9 1 encS v' (l ++ m) → Below w0.heap.size w0 w' → Grew v wr w' → wpList Tryd.prog ops Q rest (a.put o.dst v') w') : wpList Tryd.prog ops Q (o :: rest) a wr := by
  obtain ⟨i0, hi0, hz0, hz1, hz2⟩ := info_parts str_info
  exact wpList_appN Tryd.underlying37 hi0 hz0 hz1 hz2 rfl (by decide) (by decide) hgd s x ho hown hb (Nat.le_refl _) hb.size hn hsl hcz (fun _ => rfl) oneS hs hx h
end
/-! ### slices.Clone -/
set_option maxHeartbeats 2000000 in
set_option maxRecDepth 100000 in
theorem ClonePc_any (A : Option Addr) (c : Nat) (l : List Pc) (w : World) (hs : Sl w encP 2 A l) (hcz : A = none → c = 0) (hl : l.length ≤ 16777216) :
    Calls Tryd.prog 60 #[.slice A l.length c] w (OwnRes 58 2 encP l w) := by
  have HS := Lib.hid hs
  have HC := Lib.hid hcz
  clear hs hcz
  have hnil := fun (W : World) (A : Option Addr) (n c : Nat) => Lib.run_eql_slice_nil (P := Tryd.prog) W 35 58 A n c 0 0 Tryd.underlying35
  cases A with
  | none =>
    have hm : l = [] := by
      cases l with
      | nil => rfl
      | cons y r => obtain ⟨b, o, e, _⟩ := HS.out (by simp); cases e
    subst hm
    go_enter Tryd.func60, Tryd.ntmps60
    go_wp2
    go_ret
    exact ⟨_, rfl, Own.nil, Below.refl _ _⟩
  | some ad =>
    go_enter Tryd.func60, Tryd.ntmps60
    go_wp2_with (at_builtin; refine app_pcN rfl rfl (Own.made (Nat.le_refl _)) ((Below.refl _ _).alloc (Nat.le_refl _) _) (by simp; omega) (HS.out.alloc _) HC.out (by rfl) (by rfl) ?_; intro v1 w2 hown2 hb2 hg2; have HW2 := Lib.hid hown2; have HB2 := Lib.hid hb2; clear hown2 hb2 hg2)
    go_ret
    exact ⟨_, rfl, by have h := HW2.out; rwa [List.nil_append] at h, HB2.out⟩
end Go.Proofs.YtaeaccakkielmaaDoor

/- '==' and '!=' of structs. -/
set_option linter.unusedVariables false
namespace Go.Proofs.YtaeaccakkielmaaDoor
open Go.RowKit

end Go.Proofs.YtaeaccakkielmaaDoor

/- Versions and tags, walked. -/
set_option linter.unusedVariables false
namespace Go.Proofs.YtaeaccakkielmaaDoor
open Go.RowKit

def FitV (l : List Vr) : Prop := ∀ v ∈ l, v.2.2.size ≤ 16777216
theorem FitV.at {l : List Vr} (h : FitV l) {k : Nat} (hk : k < l.length) : l[k].2.2.size ≤ 16777216 := h _ (by simp)
theorem verAt_no {k : Nat} {v : Vr} (h : pv v.1 = false ∨ v.2.1 < -1 ∨ (k : Int) ≤ v.2.1 ∨ wordV (bs v.2.2) = false) : verAt k v = false := by
  cases hv : verAt k v
  · rfl
  · obtain ⟨h1, h2, h3, h4⟩ := verAt_iff.1 hv
    rcases h with h | h | h | h
    · rw [h] at h1; cases h1
    · omega
    · omega
    · rw [h] at h4; cases h4
theorem versV_bad {l : List Vr} {k : Nat} (hk : k < l.length) (h : verAt k l[k] = false) : versV l = false := by
  unfold versV; rw [versFrom_bad hk h, Bool.and_false]
theorem versV_long {l : List Vr} (h : ¬ l.length ≤ 12) : versV l = false := by unfold versV; rw [decide_eq_false h]; rfl
theorem versV_good {l : List Vr} {k : Nat} (hk : ¬ k < l.length) (h : versFrom 0 (l.take k) = true) (hl : l.length ≤ 12) : versV l = true := by
  unfold versV; rw [versFrom_all hk h, decide_eq_true hl]; rfl


/-! ### prints of lists -/
def prFold (l : List Int) (k : Nat) : Int := (l.take k).foldl prPair 5
theorem prFold_succ {l : List Int} {k : Nat} (h : k < l.length) : prFold l (k + 1) = prPair (prFold l k) l[k] := by
  unfold prFold; rw [List.take_succ_eq_append_getElem h, List.foldl_append]; rfl
theorem prFold_pv {l : List Int} (h : l.all pv = true) : ∀ k, k ≤ l.length → pv (prFold l k) = true
  | 0, _ => (by show pv 5 = true; decide)
  | k + 1, hk => by rw [prFold_succ (by omega)]; exact prPair_pv (prFold_pv h k (by omega)) (List.all_eq_true.1 h _ (by simp))
theorem prList_ok {l : List Int} (hl : l.length ≤ 20) (h : l.all pv = true) {k : Nat} (hk : ¬ k < l.length) : prList l = prFold l k := by
  unfold prList prFold; rw [if_pos ⟨hl, h⟩, List.take_of_length_le (by omega)]
theorem prList_bad {l : List Int} (h : ¬ l.length ≤ 20 ∨ l.all pv = false) : prList l = -1 := by
  unfold prList; rw [if_neg]; rintro ⟨h1, h2⟩; rcases h with h | h
  · exact h h1
  · rw [h] at h2; cases h2
/-! ### tags -/
def zeroT : Tg := (⟨#[]⟩, 0, 0, 0)
def mkT (l : List Vr) (name : ByteArray) (n : Int) : Tg := (makeTag l name n).getD zeroT
def mkOk (l : List Vr) (name : ByteArray) (n : Int) : Bool := (makeTag l name n).isSome
abbrev tgV (t : Tg) : Value := .agg #[.string t.1, .int .i64 t.2.1, .int .i64 t.2.2.1, .int .i64 t.2.2.2]
def MkR (l : List Vr) (name : ByteArray) (n : Int) (w : World) (e : Ending) (w' : World) : Prop :=
  e = .returned (.tuple #[tgV (mkT l name n), .bool (mkOk l name n)]) ∧ Below w.heap.size w w'
theorem MkR.no {l : List Vr} {name : ByteArray} {n : Int} (h : wordV (bs name) = false ∨ versV l = false ∨ n < 0 ∨ (l.length : Int) ≤ n) {w w' : World} (hb : Below w.heap.size w w') : MkR l name n w (.returned (.tuple #[.agg #[.string ⟨#[]⟩, .int .i64 0, .int .i64 0, .int .i64 0], .bool false])) w' := by
  have e := makeTag_none h
  exact ⟨by unfold mkT mkOk; rw [e]; rfl, hb⟩
theorem MkR.yes {l : List Vr} {name : ByteArray} {k : Nat} (hw : wordV (bs name) = true) (hv : versV l = true) (hk : k < l.length) {w w' : World} (hb : Below w.heap.size w w') : MkR l name k w (.returned (.tuple #[.agg #[.string name, .int .i64 (k : Int), .int .i64 l[k].1, .int .i64 (prList [prOf (bs name), (k : Int), l[k].1])], .bool true])) w' := by
  have e := makeTag_ok hw hv hk
  exact ⟨by unfold mkT mkOk; rw [e]; rfl, hb⟩
/-- The variable of a result that is a tag. -/
theorem tag_var {w w1 : World} {cs : Array Value} {E : TypeId} (hb : Below (w.alloc (.cells cs E)).heap.size (w.alloc (.cells cs E)) w1) : w1.heap[w.heap.size]? = some (.cells cs E (0, 0)) :=
  (hb.block _ (by simp)).trans (heap_alloc_new w _)

theorem Sl.new3 {w : World} {a b c : Int} {E : TypeId} : Sl (w.alloc (.cells #[.int .i64 a, .int .i64 b, .int .i64 c] E)) encI 1 (some ⟨w.heap.size, 0, none⟩) [a, b, c] := by
  intro _
  refine ⟨w.heap.size, 0, rfl, fun j u hu => ?_⟩
  rw [cell_of_row _ _ _ _ E (0, 0) (heap_alloc_new w _)]
  simpa [flat, encI] using hu
end Go.Proofs.YtaeaccakkielmaaDoor

/- Names: folds, Contains, ClashOf of the program. -/
set_option linter.unusedVariables false
namespace Go.Proofs.YtaeaccakkielmaaDoor
open Go.RowKit
attribute [local go_sem] mk_toList
theorem eq_toList (a b : ByteArray) : (a.toList == b.toList) = (bs a == bs b) := by rw [ByteArray.toList_eq, ByteArray.toList_eq]

/-! ### plain: the first index -/
def idxIn (l : List ByteArray) (x : ByteArray) (r : Int) : Prop := if (l.any fun y => bs x == bs y) then 0 ≤ r else r < 0
def hasS (l : List ByteArray) (x : ByteArray) : Bool := l.any fun y => bs x == bs y
def NotYet (l : List ByteArray) (x : ByteArray) (k : Nat) : Prop := ∀ y ∈ l.take k, (bs x == bs y) = false
theorem NotYet.succ {l : List ByteArray} {x : ByteArray} {k : Nat} (h : NotYet l x k) (hk : k < l.length) (hx : (bs x == bs l[k]) = false) : NotYet l x (k + 1) := by
  intro y hy
  rw [List.take_succ_eq_append_getElem hk, List.mem_append, List.mem_singleton] at hy
  rcases hy with hy | rfl
  · exact h y hy
  · exact hx
theorem NotYet.none {l : List ByteArray} {x : ByteArray} {k : Nat} (h : NotYet l x k) (hk : ¬ k < l.length) : hasS l x = false := by
  unfold hasS; rw [List.any_eq_false]; intro y hy
  rw [h y (by rw [List.take_of_length_le (by omega)]; exact hy)]; simp
theorem hasS_at {l : List ByteArray} {x : ByteArray} {k : Nat} (hk : k < l.length) (hx : (bs x == bs l[k]) = true) : hasS l x = true := by
  unfold hasS; rw [List.any_eq_true]; exact ⟨l[k], by simp, hx⟩
def IndexR (l : List ByteArray) (x : ByteArray) (w : World) (e : Ending) (w' : World) : Prop := ∃ r : Int, e = .returned (.int .i64 r) ∧ (hasS l x = true → 0 ≤ r) ∧ (hasS l x = false → r = -1) ∧ w = w'


/-! ### folds -/
def folds (ss : List ByteArray) : List ByteArray := ss.map fun s => mk (foldName (bs s))
def allFold (ss : List ByteArray) : Bool := ss.all fun s => !(foldName (bs s)).isEmpty
theorem folds_take {ss : List ByteArray} {k : Nat} (h : k < ss.length) : folds (ss.take (k + 1)) = folds (ss.take k) ++ [mk (foldName (bs ss[k]))] := by
  unfold folds; rw [List.take_succ_eq_append_getElem h, List.map_append]; rfl
theorem folds_len (ss : List ByteArray) : (folds ss).length = ss.length := by simp [folds]
def FoldsR (ss : List ByteArray) (w : World) (e : Ending) (w' : World) : Prop :=
  ∃ v, e = .returned (.tuple #[v, .bool (allFold ss)]) ∧ Own w' w.heap.size 9 1 encS v (if allFold ss then folds ss else []) ∧ Below w.heap.size w w'

/-! ### clashes -/
/-- The first place before 'k' whose text is one before it; -1 if there is none. -/
def clashTo (fs : List ByteArray) : Nat → Int
  | 0 => -1
  | k + 1 => if 0 ≤ clashTo fs k then clashTo fs k else if hasS (fs.take k) (fs.getD k ⟨#[]⟩) then k else -1
def clashOf (ss : List ByteArray) : Int := if allFold ss then clashTo (folds ss) ss.length else -1
theorem clashTo_lt (fs : List ByteArray) : ∀ k, clashTo fs k < k ∧ -1 ≤ clashTo fs k
  | 0 => by simp [clashTo]
  | k + 1 => by
    have := clashTo_lt fs k
    unfold clashTo; split
    · omega
    · split <;> omega
theorem clashTo_no {fs : List ByteArray} {k : Nat} (h : clashTo fs k = -1) (hn : hasS (fs.take k) (fs.getD k ⟨#[]⟩) = false) : clashTo fs (k + 1) = -1 := by
  unfold clashTo; rw [if_neg (by omega), if_neg (by rw [hn]; simp)]
theorem clashTo_yes {fs : List ByteArray} {k : Nat} (h : clashTo fs k = -1) (hn : hasS (fs.take k) (fs.getD k ⟨#[]⟩) = true) : clashTo fs (k + 1) = k := by
  unfold clashTo; rw [if_neg (by omega), if_pos hn]
theorem clashTo_keep {fs : List ByteArray} {k : Nat} (h : 0 ≤ clashTo fs k) : clashTo fs (k + 1) = clashTo fs k := by
  rw [clashTo, if_pos h]
theorem clashTo_stays {fs : List ByteArray} {k : Nat} (h : 0 ≤ clashTo fs k) : ∀ n, clashTo fs (k + n) = clashTo fs k
  | 0 => rfl
  | n + 1 => by
    have ih := clashTo_stays h n
    rw [← Nat.add_assoc, clashTo_keep (by rw [ih]; exact h), ih]
theorem getD_at {fs : List ByteArray} {k : Nat} (h : k < fs.length) : fs.getD k ⟨#[]⟩ = fs[k] := by
  rw [List.getD_eq_getElem?_getD, List.getElem?_eq_getElem h]; rfl
theorem Sl.take {α : Type} {enc : α → List Value} {w : World} {size : Nat} {A : Option Addr} {l : List α} (h : Sl w enc size A l) (k : Nat) : Sl w enc size A (l.take k) := by
  intro hn
  obtain ⟨b, o, e, hc⟩ := h (by rw [List.length_take] at hn; omega)
  refine ⟨b, o, e, fun j u hu => hc j u ?_⟩
  have hf : flat enc l = flat enc (l.take k) ++ flat enc (l.drop k) := by rw [← flat_append, List.take_append_drop]
  rw [hf, List.getElem?_append_left (List.getElem?_eq_some_iff.1 hu).1]; exact hu
end Go.Proofs.YtaeaccakkielmaaDoor

/- Repaired pieces, and free names, in plain Lean. -/
set_option linter.unusedVariables false
namespace Go.Proofs.YtaeaccakkielmaaDoor
--BEGIN
def goodCopy (p : Int) (copies : List Pc) : Option Pc := copies.find? fun c => c.1 == p && pieceR c
/-- A piece, repaired; and how many were (0, 1). -/
def repair1 (copies : List Pc) (p : Pc) : Pc × Int := if pieceR p then (p, 0) else match goodCopy p.1 copies with | some c => (c, 1) | none => (p, 0)
def repairs (copies : List Pc) (l : List Pc) : List Pc := l.map fun p => (repair1 copies p).1
def many (copies : List Pc) : List Pc → Int
  | [] => 0
  | p :: r => (repair1 copies p).2 + many copies r
def damaged (l : List Pc) : List Int := (l.filter fun p => !pieceR p).map (·.1)
theorem many_append (copies : List Pc) : ∀ a b : List Pc, many copies (a ++ b) = many copies a + many copies b
  | [], b => by simp [many]
  | p :: r, b => by rw [List.cons_append, many, many, many_append copies r b]; omega
theorem many_take {copies l : List Pc} {k : Nat} (h : k < l.length) : many copies (l.take (k + 1)) = many copies (l.take k) + (repair1 copies l[k]).2 := by
  rw [List.take_succ_eq_append_getElem h, many_append]; simp [many]
theorem repair1_bd (copies : List Pc) (p : Pc) : 0 ≤ (repair1 copies p).2 ∧ (repair1 copies p).2 ≤ 1 := by
  unfold repair1; split
  · simp
  · split <;> simp
theorem many_bd (copies : List Pc) : ∀ l : List Pc, 0 ≤ many copies l ∧ many copies l ≤ l.length
  | [] => by simp [many]
  | p :: r => by
    have := many_bd copies r
    have := repair1_bd copies p
    rw [many, List.length_cons]; omega
theorem goodCopy_some {p : Int} {copies : List Pc} {c : Pc} (h : goodCopy p copies = some c) : c.1 = p ∧ pieceR c = true := by
  have := List.find?_some h
  simp only [Bool.and_eq_true, beq_iff_eq] at this
  exact this
theorem repair1_print (copies : List Pc) (p : Pc) : (repair1 copies p).1.1 = p.1 := by
  unfold repair1; split
  · rfl
  · split
    · rename_i c h; exact (goodCopy_some h).1
    · rfl
theorem repair1_right {copies : List Pc} {p : Pc} (h : pieceR p = true) : repair1 copies p = (p, 0) := by unfold repair1; rw [if_pos h]
theorem damaged_many (copies : List Pc) : ∀ l : List Pc, ((damaged (repairs copies l)).length : Int) + many copies l = (damaged l).length
  | [] => rfl
  | p :: r => by
    have ih := damaged_many copies r
    have e : repairs copies (p :: r) = (repair1 copies p).1 :: repairs copies r := rfl
    rw [e, many]
    unfold damaged at ih ⊢
    cases hp : pieceR p
    · cases hg : goodCopy p.1 copies with
      | none =>
        have e1 : repair1 copies p = (p, 0) := by unfold repair1; rw [if_neg (by simp [hp]), hg]
        rw [e1]
        simp only [List.filter_cons, hp, Bool.not_false, if_true, List.map_cons, List.length_cons]
        omega
      | some c =>
        have e1 : repair1 copies p = (c, 1) := by unfold repair1; rw [if_neg (by simp [hp]), hg]
        rw [e1]
        have hc := (goodCopy_some hg).2
        simp only [List.filter_cons, hp, hc, Bool.not_false, Bool.not_true, if_true, List.map_cons, List.length_cons]
        simp
        simp at ih
        omega
    · rw [repair1_right hp]
      simp only [List.filter_cons, hp, Bool.not_true]
      simp at ih ⊢
      omega
theorem damaged_len (l : List Pc) : (damaged l).length ≤ l.length := by
  unfold damaged; rw [List.length_map]; exact List.length_filter_le _ _
theorem damaged_take {l : List Pc} {k : Nat} (h : k < l.length) : damaged (l.take (k + 1)) = damaged (l.take k) ++ if pieceR l[k] then [] else [l[k].1] := by
  unfold damaged
  rw [List.take_succ_eq_append_getElem h, List.filter_append, List.map_append]
  congr 1
  cases hp : pieceR l[k] <;> simp [hp]
--END
end Go.Proofs.YtaeaccakkielmaaDoor

/- Damaged pieces, walked. -/
set_option linter.unusedVariables false
namespace Go.Proofs.YtaeaccakkielmaaDoor
open Go.RowKit

def FitP (l : List Pc) : Prop := ∀ p ∈ l, p.2.size ≤ 16777216
theorem FitP.at {l : List Pc} (h : FitP l) {k : Nat} (hk : k < l.length) : l[k].2.size ≤ 16777216 := h _ (by simp)

end Go.Proofs.YtaeaccakkielmaaDoor

/- Tags: copies, sizes, comparisons and marks of their slices, as laws make them. Written by structgen.py. -/
set_option linter.unusedVariables false
namespace Go.Proofs.YtaeaccakkielmaaDoor
open Go.RowKit

def markTagL (k n : Nat) : List Tg := (List.range n).map fun j => (mk (markT (k + 4 * j + 0)), ((k + 4 * j + 1 : Nat) : Int), ((k + 4 * j + 2 : Nat) : Int), ((k + 4 * j + 3 : Nat) : Int))
theorem markTagL_len (k n : Nat) : (markTagL k n).length = n := by simp [markTagL]
theorem markTagL_succ (k n : Nat) : markTagL k (n + 1) = markTagL k n ++ [(mk (markT (k + 4 * n + 0)), ((k + 4 * n + 1 : Nat) : Int), ((k + 4 * n + 2 : Nat) : Int), ((k + 4 * n + 3 : Nat) : Int))] := by simp [markTagL, List.range_succ]
theorem markTagL_at {k n j : Nat} (h : j < n) : (markTagL k n)[j]'(by rw [markTagL_len]; exact h) = (mk (markT (k + 4 * j + 0)), ((k + 4 * j + 1 : Nat) : Int), ((k + 4 * j + 2 : Nat) : Int), ((k + 4 * j + 3 : Nat) : Int)) := by simp [markTagL]
/-- What is told of a slice of such structs that came in. -/
def TagsIn (w : World) (A : Option Addr) (n c : Nat) : Prop := ∃ l : List Tg, l.length = n ∧ n ≤ c ∧ c ≤ maxLen ∧ Sl w encT 4 A l ∧ ∀ p ∈ l, p.1.size ≤ maxLen
end Go.Proofs.YtaeaccakkielmaaDoor

/- Tags, walked: right ones. -/
set_option linter.unusedVariables false
namespace Go.Proofs.YtaeaccakkielmaaDoor
open Go.RowKit

theorem bytes_ext {a b : ByteArray} (h : (a.toList == b.toList) = true) : a = b := by
  have h2 := beq_iff_eq.1 h
  rw [ByteArray.toList_eq, ByteArray.toList_eq] at h2
  obtain ⟨⟨x⟩⟩ := a
  obtain ⟨⟨y⟩⟩ := b
  simp at h2; subst h2; rfl
def eqT (a b : Tg) : Bool := (a.1.toList == b.1.toList) && ((a.2.1 == b.2.1) && ((a.2.2.1 == b.2.2.1) && (a.2.2.2 == b.2.2.2)))
theorem eqT_iff {a b : Tg} : eqT a b = true ↔ a = b := by
  unfold eqT
  constructor
  · intro h
    simp only [Bool.and_eq_true, beq_iff_eq] at h
    obtain ⟨h1, h2, h3, h4⟩ := h
    obtain ⟨a1, a2, a3, a4⟩ := a
    obtain ⟨b1, b2, b3, b4⟩ := b
    simp only at h1 h2 h3 h4
    have := bytes_ext (beq_iff_eq.2 h1)
    subst this h2 h3 h4; rfl
  · rintro rfl; simp
theorem tagR_ok {l : List Vr} {t : Tg} (h : mkOk l t.1 t.2.1 = true) : tagR l t = eqT (mkT l t.1 t.2.1) t := by
  unfold mkOk at h
  cases hm : makeTag l t.1 t.2.1 with
  | none => rw [hm] at h; cases h
  | some m =>
    have e : mkT l t.1 t.2.1 = m := by unfold mkT; rw [hm]; rfl
    rw [e, Bool.eq_iff_iff, eqT_iff, tagR_iff, hm]
    exact ⟨fun h => Option.some.inj h, fun h => congrArg some h⟩
theorem tagR_no {l : List Vr} {t : Tg} (h : mkOk l t.1 t.2.1 = false) : tagR l t = false := by
  unfold mkOk at h
  cases hm : makeTag l t.1 t.2.1 with
  | none =>
    cases ht : tagR l t
    · rfl
    · rw [tagR_iff.1 ht] at hm; cases hm
  | some m => rw [hm] at h; cases h
theorem rightTags_take_yes {l : List Vr} {ts : List Tg} {k : Nat} (h : k < ts.length) (hp : tagR l ts[k] = true) : rightTags l (ts.take (k + 1)) = rightTags l (ts.take k) ++ [ts[k]] := filter_take_yes h hp
theorem rightTags_take_no {l : List Vr} {ts : List Tg} {k : Nat} (h : k < ts.length) (hp : tagR l ts[k] = false) : rightTags l (ts.take (k + 1)) = rightTags l (ts.take k) := filter_take_no h hp
def FitT (l : List Tg) : Prop := ∀ t ∈ l, t.1.size ≤ 16777216
theorem FitT.at {l : List Tg} (h : FitT l) {k : Nat} (hk : k < l.length) : l[k].1.size ≤ 16777216 := h _ (by simp)
section
variable {ops : Array Oper} {rest : List Oper} {o : Oper} {a : Act} {Q : Exit → Act → World → Prop} {w0 wr : World} {v : Value}
end
theorem rightTags_len (l : List Vr) (ts : List Tg) : (rightTags l ts).length ≤ ts.length := List.length_filter_le _ _
end Go.Proofs.YtaeaccakkielmaaDoor

/- More words for memory: 'append' of one element inside a region that draws its order. -/
set_option linter.unusedVariables false
namespace Go.Proofs.YtaeaccakkielmaaDoor
open Go.RowKit
theorem step_app1 {P : Program} {α : Type} {enc : α → List Value} {ops : Array Oper} {o : Oper} {a : Act} {K : Act → World → Prop} {Q : Exit → Act → World → Prop} {E' : Prop} {w0 W : World} {B base size bytes g : Nat} {t E : TypeId} {i : TypeInfo} {z : Value} {v : Value} {l : List α}
    (ht : P.underlying t = some (.slice E)) (hi : P.info? E = some i) (hz : i.zero = some z) (hsize : i.size = size) (hby : i.bytes = bytes) (hzs : z.cells.size = size) (hsz : 0 < size) (hb200 : bytes ≤ 256)
    (hgd : o.guard = none) (s x : Operand) (ho : o.op = .call { callee := .builtin .append, args := #[s, x], argTypes := #[t, t] })
    (hs : a.eval s = v) (hx : a.eval x = .slice (some ⟨g, 0, none⟩) 1 1)
    (hown : Own W base E size enc v l) (hb : Below B w0 W) (hB : B ≤ base) (hbase : base ≤ W.heap.size) (hn : l.length ≤ 16777216) (y : α) (hcell : ∀ j u, (enc y)[j]? = some u → W.cell? ⟨g, j, none⟩ = some u) (hce : (enc y).length = size) (h1 : ∀ u ∈ enc y, u.oneCell' = true)
    (h : ∀ v' w', Own w' base E size enc v' (l ++ [y]) → Below B w0 w' → K (a.put o.dst v') w') :
    if Region.wanted o (yielded ops a.tmps) = true then Oper.wp P o a W K Q else E' := by
  have hw : Region.wanted o (yielded ops a.tmps) = true := by simp [Region.wanted, hgd]
  rw [if_pos hw]
  refine wp_append_own W s x t ho base E i z size bytes ht hi hz hsize hby hzs hsz v l.length (flat enc l) hs hown ⟨g, 0, none⟩ 1 1 (enc y) hx (by rw [hce, Nat.one_mul]) ?_ h1 ?_ ?_ hbase ?_
  · intro j u hu
    have hadd : (⟨g, 0, none⟩ : Addr).add j = ⟨g, j, none⟩ := by unfold Addr.add; split <;> simp_all
    rw [hadd]; exact hcell j u hu
  · unfold maxLen; omega
  · have := Nat.mul_le_mul_left (l.length + 1) hb200; omega
  · intro v' w' hown' hg _
    refine h v' w' ?_ (hb.grown hg (Nat.le_trans hB hbase) (fun k hk => Nat.le_trans hB (World.ownsRow.lt hown k hk).1))
    show w'.ownsRow base E size v' (l ++ [y]).length (flat enc (l ++ [y]))
    rw [flat_snoc, List.length_append]; exact hown'
section
variable {ops : Array Oper} {o : Oper} {a : Act} {K : Act → World → Prop} {Q : Exit → Act → World → Prop} {E' : Prop} {w0 W : World} {v : Value}
theorem step_int {g : Nat} {l : List Int} {y : Int} {s x : Operand} (hgd : o.guard = none) (ho : o.op = .call { callee := .builtin .append, args := #[s, x], argTypes := #[78, 78] })
    (hs : a.eval s = v) (hx : a.eval x = .slice (some ⟨g, 0, none⟩) 1 1)
    (hown : Own W w0.heap.size 3 1 encI v l) (hb : Below w0.heap.size w0 W) (hn : l.length ≤ 16777216) (hc : W.cell? ⟨g, 0, none⟩ = some (.int .i64 y))
    (h : ∀ v' w', Own w' w0.heap.size 3 1 encI v' (l ++ [y]) → Below w0.heap.size w0 w' → K (a.put o.dst v') w') :
    if Region.wanted o (yielded ops a.tmps) = true then Oper.wp Tryd.prog o a W K Q else E' := by
  obtain ⟨i0, hi0, hz0, hz1, hz2⟩ := info_parts int_info
  exact step_app1 Tryd.underlying78 hi0 hz0 hz1 hz2 rfl (by decide) (by decide) hgd s x ho hs hx hown hb (Nat.le_refl _) hb.size hn y (by
    intro j u hu
    have hj : j = 0 := by have := (List.getElem?_eq_some_iff.1 hu).1; simp [encI] at this; omega
    subst hj; simp [encI] at hu; rw [← hu]; exact hc) rfl (by intro u hu; simp [encI] at hu; subst hu; rfl) h
end
end Go.Proofs.YtaeaccakkielmaaDoor

/- Versions: copies, sizes, comparisons and marks of their slices, as laws make them. Written by structgen.py. -/
set_option linter.unusedVariables false
namespace Go.Proofs.YtaeaccakkielmaaDoor
open Go.RowKit

def markVersionL (k n : Nat) : List Vr := (List.range n).map fun j => (((k + 3 * j + 0 : Nat) : Int), ((k + 3 * j + 1 : Nat) : Int), mk (markT (k + 3 * j + 2)))
theorem markVersionL_len (k n : Nat) : (markVersionL k n).length = n := by simp [markVersionL]
theorem markVersionL_succ (k n : Nat) : markVersionL k (n + 1) = markVersionL k n ++ [(((k + 3 * n + 0 : Nat) : Int), ((k + 3 * n + 1 : Nat) : Int), mk (markT (k + 3 * n + 2)))] := by simp [markVersionL, List.range_succ]
theorem markVersionL_at {k n j : Nat} (h : j < n) : (markVersionL k n)[j]'(by rw [markVersionL_len]; exact h) = (((k + 3 * j + 0 : Nat) : Int), ((k + 3 * j + 1 : Nat) : Int), mk (markT (k + 3 * j + 2))) := by simp [markVersionL]
/-- What is told of a slice of such structs that came in. -/
def VersionsIn (w : World) (A : Option Addr) (n c : Nat) : Prop := ∃ l : List Vr, l.length = n ∧ n ≤ c ∧ c ≤ maxLen ∧ Sl w encV 3 A l ∧ ∀ p ∈ l, p.2.2.size ≤ maxLen
end Go.Proofs.YtaeaccakkielmaaDoor

/- Drawn inputs: prints, filters. -/
set_option linter.unusedVariables false
namespace Go.Proofs.YtaeaccakkielmaaDoor
open Go.RowKit

def IntIn (lo hi : Int) (v : Value) : Prop := ∃ n : Int, v = .int .i64 n ∧ lo ≤ n ∧ n ≤ hi
theorem three_cells {a b c : Int} (ha : 0 ≤ a ∧ a ≤ 16777212) (hb : 0 ≤ b ∧ b ≤ 16777212) (hc : 0 ≤ c ∧ c ≤ 16777212) (m : Nat) (hm : m < 3) :
    ∃ u : Int, (#[Value.int .i64 a, .int .i64 b, .int .i64 c] : Array Value)[m]? = some (.int .i64 u) ∧ 0 ≤ u ∧ u ≤ 16777212 := by
  match m, hm with
  | 0, _ => exact ⟨a, rfl, ha⟩
  | 1, _ => exact ⟨b, rfl, hb⟩
  | 2, _ => exact ⟨c, rfl, hc⟩

/-- What 'odd(n)' may answer. -/
def OddQ (Q : Bool → Prop) (n : Int) (g p : Nat) : Prop :=
  ∀ W, Rdr W g p → Calls Tryd.prog 52 #[.pointer (some ⟨g, 0, none⟩), .int .i64 n] W fun e w' => ∃ (x : Bool) (p1 : Nat), e = .returned (.bool x) ∧ Q x ∧ Only g W w' ∧ Rdr w' g p1 ∧ p1 ≤ p + 1
theorem oddq_any (n : Int) (g p : Nat) (hp : p ≤ 1000000000) (hn : n ≤ 1000000000) : OddQ (fun _ => True) n g p := fun W hr =>
  (odd_any n g p W hr hp hn).mono fun e w' ⟨x, p', h1, h2, h3, h4⟩ => ⟨x, p', h1, trivial, h2, h3, h4⟩
theorem oddq_zero (g p : Nat) (hp : p ≤ 1000000000) : OddQ (fun x => x = false) 0 g p := fun W hr =>
  (odd0_any g p W hr hp).mono fun e w' ⟨h1, h2⟩ => ⟨false, p, h1, rfl, by rw [← h2]; exact Only.refl _ _, by rw [← h2]; exact hr, by omega⟩

theorem IntIn.mono {a b c d : Int} {v : Value} (h : IntIn a b v) (h1 : c ≤ a) (h2 : b ≤ d) : IntIn c d v := by
  obtain ⟨n, e, x, y⟩ := h; exact ⟨n, e, by omega, by omega⟩
theorem Drew.imp {P P' : Value → Prop} {C g p : Nat} {w w' : World} {e : Ending} (h : Drew P C w g p e w') (hP : ∀ v, P v → P' v) : Drew P' C w g p e w' := by
  obtain ⟨v, p', h1, h2, h3⟩ := h; exact ⟨v, p', h1, hP v h2, h3⟩
/-- A drawn slice in new memory: its elements, at most M of them, meet P. -/
def DrewSl {α : Type} (E : TypeId) (size : Nat) (enc : α → List Value) (P : List α → Prop) (C : Nat) (w : World) (g p : Nat) (e : Ending) (w' : World) : Prop :=
  ∃ (v : Value) (l : List α) (p' : Nat), e = .returned v ∧ Own w' w.heap.size E size enc v l ∧ P l ∧ Only g w w' ∧ Rdr w' g p' ∧ p' ≤ p + C

/-- 'append' of one element onto a row, where the reader's block may have turned as well. -/
theorem app_int_only {ops : Array Oper} {rest : List Oper} {o : Oper} {a : Act} {Q : Exit → Act → World → Prop} {w0 wr : World} {v : Value} {g : Nat} {l : List Int} {y : Int} {s x : Operand} (hgd : o.guard = none) (ho : o.op = .call { callee := .builtin .append, args := #[s, x], argTypes := #[78, 78] })
    (hs : a.eval s = v) (hx : a.eval x = .slice (some ⟨wr.heap.size, 0, none⟩) 1 1)
    (hown : Own wr w0.heap.size 3 1 encI v l) (hb : Only g w0 wr) (hn : l.length ≤ 16777216)
    (h : ∀ v' w', Own w' w0.heap.size 3 1 encI v' (l ++ [y]) → Below w0.heap.size wr w' → wpList Tryd.prog ops Q rest (a.put o.dst v') w') :
    wpList Tryd.prog ops Q (o :: rest) a (wr.alloc (.cells #[.int .i64 y] 3)) := by
  obtain ⟨i0, hi0, hz0, hz1, hz2⟩ := info_parts int_info
  exact wpList_app1 Tryd.underlying78 hi0 hz0 hz1 hz2 rfl (by decide) (by decide) hgd s x ho hs hx hown (Below.refl w0.heap.size wr) (Nat.le_refl _) hb.size hn y _ rfl rfl (by intro u hu; simp [encI] at hu; subst hu; rfl) h
theorem Only.and_below {g : Nat} {w0 wr w' : World} (h : Only g w0 wr) (hb : Below w0.heap.size wr w') : Only g w0 w' :=
  ⟨hb.os.trans h.os, hb.tape.trans h.tape, hb.output.trans h.output, Nat.le_trans h.size hb.size, fun k hk hne => (hb.block k hk).trans (h.block k hk hne)⟩

/-! ### drawn prints -/
end Go.Proofs.YtaeaccakkielmaaDoor

/- Drawn inputs: texts, pieces. -/
set_option linter.unusedVariables false
namespace Go.Proofs.YtaeaccakkielmaaDoor
open Go.RowKit

theorem Only.frozen {g : Nat} {w w1 : World} (h : Only g w w1) {b o : Nat} (hb : b ≠ g) (hlt : b < w.heap.size) : w1.frozen? ⟨b, o, none⟩ = w.frozen? ⟨b, o, none⟩ :=
  World.frozen?_of_block (w := w) (h.block b hlt (by intro e; injection e; contradiction))
theorem Only.setNew {g : Nat} {w w1 : World} (h : Only g w w1) {p : Addr} (hp : w.heap.size ≤ p.block) (u : Value) : Only g w (w1.setCell p u) :=
  ⟨h.os, h.tape, h.output, by simpa [World.setCell] using h.size, fun k hk hne => (Below.heap_setCell _ _ _ _ (by omega)).trans (h.block k hk hne)⟩
theorem Rdr.setNew {w : World} {g p : Nat} (h : Rdr w g p) {q : Addr} (hq : g < q.block) (u : Value) : Rdr (w.setCell q u) g p :=
  h.under hq ((Below.refl _ _).setCell (Nat.le_refl _) u)
/-- A block of the call's own: what it holds, and that it is not frozen. -/
theorem new_cell {w : World} {cs : Array Value} {E : TypeId} {k : Nat} {u : Value} (hu : cs[k]? = some u) : (w.alloc (.cells cs E)).cell? ⟨w.heap.size, k, none⟩ = some u := by
  rw [cell_of_row _ _ k _ E (0, 0) (heap_alloc_new w _)]; exact hu
theorem new_free {w : World} {cs : Array Value} {E : TypeId} (k : Nat) : (w.alloc (.cells cs E)).frozen? ⟨w.heap.size, k, none⟩ = false := by
  have h := heap_alloc_new w (.cells cs E)
  unfold World.frozen?
  simp only [h]
  simp

/-- A drawn text: valid, and with another print than the one text that a law puts in its place. -/
def txB : Value → Bool | .string s => textV (bs s) && decide (s.size ≤ 60) && !(prOf (bs s) == prOf (bs ⟨#[113, 117, 105, 116, 101, 32, 111, 116, 104, 101, 114]⟩)) | _ => false
def Txt (v : Value) : Prop := ∃ s : ByteArray, v = .string s ∧ s.size ≤ 60 ∧ textV (bs s) = true ∧ prOf (bs s) ≠ prOf (bs ⟨#[113, 117, 105, 116, 101, 32, 111, 116, 104, 101, 114]⟩)
theorem txB_iff {v : Value} (h : txB v = true) : Txt v := by
  unfold txB at h; split at h
  · simp only [Bool.and_eq_true, decide_eq_true_eq, Bool.not_eq_true', beq_eq_false_iff_ne] at h
    exact ⟨_, rfl, h.1.2, h.1.1, h.2⟩
  · cases h
theorem flat3 {a0 a1 a2 : Int} {t0 t1 t2 : ByteArray} (x : Nat) (hx : x < 3) : ∃ (a : Int) (t : ByteArray), (#[Value.int .i64 a0, .string t0, .int .i64 a1, .string t1, .int .i64 a2, .string t2] : Array Value)[x * 2]? = some (.int .i64 a) ∧
    (#[Value.int .i64 a0, .string t0, .int .i64 a1, .string t1, .int .i64 a2, .string t2] : Array Value)[x * 2 + 1]? = some (.string t) ∧ (a = a0 ∨ a = a1 ∨ a = a2) ∧ (t = t0 ∨ t = t1 ∨ t = t2) := by
  match x, hx with
  | 0, _ => exact ⟨a0, t0, rfl, rfl, .inl rfl, .inl rfl⟩
  | 1, _ => exact ⟨a1, t1, rfl, rfl, .inr (.inl rfl), .inr (.inl rfl)⟩
  | 2, _ => exact ⟨a2, t2, rfl, rfl, .inr (.inr rfl), .inr (.inr rfl)⟩
def PcV (v : Value) : Prop := ∃ (a : Int) (t : ByteArray), v = .agg #[.int .i64 a, .string t] ∧ -1 ≤ a ∧ a ≤ 16777212 ∧ t.size ≤ 60
def DrawnPc (w : World) (e : Ending) (w' : World) : Prop := ∃ (a : Int) (t : ByteArray), e = .returned (.agg #[.int .i64 a, .string t]) ∧ -1 ≤ a ∧ a ≤ 16777212 ∧ t.size ≤ 60 ∧ Below w.heap.size w w'
end Go.Proofs.YtaeaccakkielmaaDoor

/- Versions: append, a copy, one more. -/
set_option linter.unusedVariables false
namespace Go.Proofs.YtaeaccakkielmaaDoor
open Go.RowKit

theorem step_appN {P : Program} {α : Type} {enc : α → List Value} {ops : Array Oper} {o : Oper} {a : Act} {K : Act → World → Prop} {Q : Exit → Act → World → Prop} {E' : Prop} {w0 wr : World} {B base size bytes : Nat} {t E : TypeId} {i : TypeInfo} {z : Value} {v : Value} {l m : List α} {A : Option Addr} {c : Nat}
    (ht : P.underlying t = some (.slice E)) (hi : P.info? E = some i) (hz : i.zero = some z) (hsize : i.size = size) (hby : i.bytes = bytes) (hzs : z.cells.size = size) (hsz : 0 < size) (hb200 : bytes ≤ 256)
    (hgd : o.guard = none) (s x : Operand) (ho : o.op = .call { callee := .builtin .append, args := #[s, x], argTypes := #[t, t] })
    (hown : Own wr base E size enc v l) (hb : Below B w0 wr) (hB : B ≤ base) (hbase : base ≤ wr.heap.size) (hn : l.length + m.length ≤ 33554432)
    (hsl : Sl wr enc size A m) (hcz : A = none → c = 0) (hce : ∀ y, (enc y).length = size) (h1 : ∀ y, ∀ u ∈ enc y, u.oneCell' = true)
    (hs : a.eval s = v) (hx : a.eval x = .slice A m.length c)
    (h : ∀ v' w', Own w' base E size enc v' (l ++ m) → Below B w0 w' → Grew v wr w' → K (a.put o.dst v') w') :
    if Region.wanted o (yielded ops a.tmps) = true then Oper.wp P o a wr K Q else E' := by
  have hw : Region.wanted o (yielded ops a.tmps) = true := by simp [Region.wanted, hgd]
  rw [if_pos hw]
  cases A with
  | none =>
    have hm : m = [] := by
      cases m with
      | nil => rfl
      | cons y r => obtain ⟨b, o, e, _⟩ := hsl (by simp); cases e
    subst hm
    rw [hcz rfl] at hx
    have hrun := run_append_owned_none (P := P) (w := wr) base t o.type E i size ht hi v l.length (flat enc l) hown
    have hK := h v wr (by rw [List.append_nil]; exact hown) hb (Grew.refl _ _)
    simp at hx
    unfold Oper.wp
    simp [execOp, ho, resolve, invoke, builtin, hs, hx, hrun, Result.andThen]
    exact hK
  | some ad =>
    refine wp_append_own wr s x t ho base E i z size bytes ht hi hz hsize hby hzs hsz v l.length (flat enc l) hs hown ad m.length c (flat enc m) hx (flat_length hce m) ?_ ?_ ?_ ?_ hbase ?_
    · intro j u hu
      have hpos : 0 < m.length := by
        have hlt := (List.getElem?_eq_some_iff.1 hu).1
        rw [flat_length hce] at hlt
        cases m with
        | nil => simp at hlt
        | cons y r => simp
      obtain ⟨b, o', e, hc⟩ := hsl hpos
      injection e with e
      subst e
      have hadd : (⟨b, o', none⟩ : Addr).add j = ⟨b, o' + j, none⟩ := by unfold Addr.add; split <;> simp_all
      rw [hadd]; exact hc j u hu
    · intro u hu
      unfold flat at hu
      obtain ⟨y, _, hy⟩ := List.mem_flatMap.1 hu
      exact h1 y u hy
    · unfold maxLen; omega
    · have := Nat.mul_le_mul_left (l.length + m.length) hb200; omega
    · intro v' w' hown' hg _
      refine h v' w' ?_ (hb.grown hg (Nat.le_trans hB hbase) (fun k hk => Nat.le_trans hB (World.ownsRow.lt hown k hk).1)) hg
      show w'.ownsRow base E size v' (l ++ m).length (flat enc (l ++ m))
      rw [flat_append, List.length_append]; exact hown'
theorem Grew.cell {v u : Value} {w w' : World} (h : Grew v w w') {b o : Nat} (hv : v.ownBlock ≠ some b) (hc : w.cell? ⟨b, o, none⟩ = some u) : w'.cell? ⟨b, o, none⟩ = some u := by
  rw [World.cell?_of_block (w := w) (h.block b (World.block_lt_of_cell? w _ hc) (fun e => hv e.symm))]; exact hc
theorem cell_alloc {u : Value} {w : World} {x : Obj} {a : Addr} (hc : w.cell? a = some u) : (w.alloc x).cell? a = some u :=
  (World.cell?_alloc_lt w x a (World.block_lt_of_cell? w _ hc)).trans hc
theorem keep3 {w w' : World} {x : Nat} {v0 v1 v2 : Value} (hb : Below w.heap.size w w') (h : w.cell? ⟨x, 0, none⟩ = some v0 ∧ w.cell? ⟨x, 1, none⟩ = some v1 ∧ w.cell? ⟨x, 2, none⟩ = some v2) :
    w'.cell? ⟨x, 0, none⟩ = some v0 ∧ w'.cell? ⟨x, 1, none⟩ = some v1 ∧ w'.cell? ⟨x, 2, none⟩ = some v2 :=
  ⟨Below_cells hb _ _ _ h.1, Below_cells hb _ _ _ h.2.1, Below_cells hb _ _ _ h.2.2⟩
section
variable {ops : Array Oper} {rest : List Oper} {o : Oper} {a : Act} {K : Act → World → Prop} {Q : Exit → Act → World → Prop} {E' : Prop} {w0 wr : World} {v : Value}
end
/-! ### 'append(append([]Version{}, l...), y)' in whatever order -/
def RowAt (w : World) (g : Nat) (y : Vr) : Prop := w.cell? ⟨g, 0, none⟩ = some (.int .i64 y.1) ∧ w.cell? ⟨g, 1, none⟩ = some (.int .i64 y.2.1) ∧ w.cell? ⟨g, 2, none⟩ = some (.string y.2.2)
theorem RowAt.alloc {w : World} {g : Nat} {y : Vr} (h : RowAt w g y) (x : Obj) : RowAt (w.alloc x) g y := ⟨cell_alloc h.1, cell_alloc h.2.1, cell_alloc h.2.2⟩
theorem RowAt.grew {w w' : World} {g : Nat} {y : Vr} {v : Value} (h : RowAt w g y) (hg : Grew v w w') (hv : v.ownBlock ≠ some g) : RowAt w' g y := ⟨hg.cell hv h.1, hg.cell hv h.2.1, hg.cell hv h.2.2⟩
section
variable {ops : Array Oper} {o : Oper} {a : Act} {K : Act → World → Prop} {Q : Exit → Act → World → Prop} {E' : Prop} {w1 : World} {l : List Vr} {A : Option Addr} {c : Nat} {y : Vr} {s x : Operand}
end
/-! ### slices.Clone -/
/-! ### one more version -/
end Go.Proofs.YtaeaccakkielmaaDoor

/- A block of three cells that may be written. -/
set_option linter.unusedVariables false
namespace Go.Proofs.YtaeaccakkielmaaDoor
open Go.RowKit
def Row3 (w : World) (b : Nat) (v0 v1 v2 : Value) : Prop :=
  (w.cell? ⟨b, 0, none⟩ = some v0 ∧ w.cell? ⟨b, 1, none⟩ = some v1 ∧ w.cell? ⟨b, 2, none⟩ = some v2) ∧ (∀ o, w.frozen? ⟨b, o, none⟩ = false) ∧ b < w.heap.size
theorem Row3.new {w : World} {v0 v1 v2 : Value} {E : TypeId} : Row3 (w.alloc (.cells #[v0, v1, v2] E)) w.heap.size v0 v1 v2 :=
  ⟨⟨new_cell rfl, new_cell rfl, new_cell rfl⟩, fun o => new_free o, by simp⟩
theorem Row3.only {w w' : World} {g b : Nat} {v0 v1 v2 : Value} (h : Row3 w b v0 v1 v2) (ho : Only g w w') (hb : b ≠ g) : Row3 w' b v0 v1 v2 :=
  ⟨⟨ho.cell hb h.1.1, ho.cell hb h.1.2.1, ho.cell hb h.1.2.2⟩, fun o => (ho.frozen hb h.2.2).trans (h.2.1 o), Nat.lt_of_lt_of_le h.2.2 ho.size⟩
theorem Row3.below {w w' : World} {b : Nat} {v0 v1 v2 : Value} (h : Row3 w b v0 v1 v2) (hb : Below w.heap.size w w') : Row3 w' b v0 v1 v2 :=
  ⟨⟨Below_cells hb _ _ _ h.1.1, Below_cells hb _ _ _ h.1.2.1, Below_cells hb _ _ _ h.1.2.2⟩, fun o => (World.frozen?_of_block (w := w) (hb.block b h.2.2)).trans (h.2.1 o), Nat.lt_of_lt_of_le h.2.2 hb.size⟩
theorem setCell_size (w : World) (p : Addr) (u : Value) : (w.setCell p u).heap.size = w.heap.size := by simp [World.setCell]
theorem Row3.set0 {w : World} {b : Nat} {v0 v1 v2 : Value} (h : Row3 w b v0 v1 v2) (u : Value) : Row3 (w.setCell ⟨b, 0, none⟩ u) b u v1 v2 :=
  ⟨⟨World.cell?_setCell_same _ _ _ h.1.1, (World.cell?_setCell_other _ _ _ _ (by simp)).trans h.1.2.1, (World.cell?_setCell_other _ _ _ _ (by simp)).trans h.1.2.2⟩, fun o => (World.frozen?_setCell _ _ _ _).trans (h.2.1 o), by rw [setCell_size]; exact h.2.2⟩
theorem Row3.set1 {w : World} {b : Nat} {v0 v1 v2 : Value} (h : Row3 w b v0 v1 v2) (u : Value) : Row3 (w.setCell ⟨b, 1, none⟩ u) b v0 u v2 :=
  ⟨⟨(World.cell?_setCell_other _ _ _ _ (by simp)).trans h.1.1, World.cell?_setCell_same _ _ _ h.1.2.1, (World.cell?_setCell_other _ _ _ _ (by simp)).trans h.1.2.2⟩, fun o => (World.frozen?_setCell _ _ _ _).trans (h.2.1 o), by rw [setCell_size]; exact h.2.2⟩
theorem Row3.set2 {w : World} {b : Nat} {v0 v1 v2 : Value} (h : Row3 w b v0 v1 v2) (u : Value) : Row3 (w.setCell ⟨b, 2, none⟩ u) b v0 v1 u :=
  ⟨⟨(World.cell?_setCell_other _ _ _ _ (by simp)).trans h.1.1, (World.cell?_setCell_other _ _ _ _ (by simp)).trans h.1.2.1, World.cell?_setCell_same _ _ _ h.1.2.2⟩, fun o => (World.frozen?_setCell _ _ _ _).trans (h.2.1 o), by rw [setCell_size]; exact h.2.2⟩
theorem Row3.other {w : World} {b : Nat} {v0 v1 v2 : Value} (h : Row3 w b v0 v1 v2) {p : Addr} (hp : p.block ≠ b) (u : Value) : Row3 (w.setCell p u) b v0 v1 v2 :=
  ⟨⟨(World.cell?_setCell_other _ _ _ _ (by rintro rfl; exact hp rfl)).trans h.1.1, (World.cell?_setCell_other _ _ _ _ (by rintro rfl; exact hp rfl)).trans h.1.2.1, (World.cell?_setCell_other _ _ _ _ (by rintro rfl; exact hp rfl)).trans h.1.2.2⟩, fun o => (World.frozen?_setCell _ _ _ _).trans (h.2.1 o), by rw [setCell_size]; exact h.2.2⟩
theorem Own.setBelow {α : Type} {enc : α → List Value} {w : World} {base size : Nat} {E : TypeId} {v : Value} {l : List α} (h : Own w base E size enc v l) {p : Addr} (hp : p.block < base) (u : Value) : Own (w.setCell p u) base E size enc v l :=
  h.only (g := p.block) ⟨rfl, rfl, rfl, by simp [World.setCell], fun k hk hne => Below.heap_setCell _ _ _ _ (by rintro rfl; exact hne rfl)⟩ hp
theorem Own.ne {α : Type} {w : World} {base size : Nat} {E : TypeId} {enc : α → List Value} {v : Value} {l : List α} (h : Own w base E size enc v l) : v.ownBlock ≠ some w.heap.size := fun e => Nat.lt_irrefl _ (World.ownsRow.lt h _ e).2
end Go.Proofs.YtaeaccakkielmaaDoor

/- 'append' of strings in regions that draw their order. -/
set_option linter.unusedVariables false
namespace Go.Proofs.YtaeaccakkielmaaDoor
open Go.RowKit

theorem sl_take {w : World} {A : Option Addr} {l : List ByteArray} (h : Sl w encS 1 A l) (m : Nat) : Sl w encS 1 A (l.take m) := by
  intro hn
  obtain ⟨b, o, e, hc⟩ := h (by simp at hn; omega)
  refine ⟨b, o, e, fun j u hu => hc j u ?_⟩
  rw [← List.take_append_drop m l, flat_append, List.getElem?_append_left (List.getElem?_eq_some_iff.1 hu).1]
  exact hu
theorem step_appW {P : Program} {α : Type} {enc : α → List Value} {ops : Array Oper} {o : Oper} {a : Act} {K : Act → World → Prop} {Q : Exit → Act → World → Prop} {E' : Prop} {w0 wr : World} {B base size bytes : Nat} {t E : TypeId} {i : TypeInfo} {z : Value} {v : Value} {l m : List α} {A : Option Addr} {c : Nat}
    (ht : P.underlying t = some (.slice E)) (hi : P.info? E = some i) (hz : i.zero = some z) (hsize : i.size = size) (hby : i.bytes = bytes) (hzs : z.cells.size = size) (hsz : 0 < size) (hb200 : bytes ≤ 256)
    (hw : Region.wanted o (yielded ops a.tmps) = true) (s x : Operand) (ho : o.op = .call { callee := .builtin .append, args := #[s, x], argTypes := #[t, t] })
    (hown : Own wr base E size enc v l) (hb : Below B w0 wr) (hB : B ≤ base) (hbase : base ≤ wr.heap.size) (hn : l.length + m.length ≤ 33554432)
    (hsl : Sl wr enc size A m) (hcz : A = none → c = 0) (hce : ∀ y, (enc y).length = size) (h1 : ∀ y, ∀ u ∈ enc y, u.oneCell' = true)
    (hs : a.eval s = v) (hx : a.eval x = .slice A m.length c)
    (h : ∀ v' w', Own w' base E size enc v' (l ++ m) → Below B w0 w' → Grew v wr w' → K (a.put o.dst v') w') :
    if Region.wanted o (yielded ops a.tmps) = true then Oper.wp P o a wr K Q else E' := by
  rw [if_pos hw]
  cases A with
  | none =>
    have hm : m = [] := by
      cases m with
      | nil => rfl
      | cons y r => obtain ⟨b, o, e, _⟩ := hsl (by simp); cases e
    subst hm
    rw [hcz rfl] at hx
    have hrun := run_append_owned_none (P := P) (w := wr) base t o.type E i size ht hi v l.length (flat enc l) hown
    have hK := h v wr (by rw [List.append_nil]; exact hown) hb (Grew.refl _ _)
    simp at hx
    unfold Oper.wp
    simp [execOp, ho, resolve, invoke, builtin, hs, hx, hrun, Result.andThen]
    exact hK
  | some ad =>
    refine wp_append_own wr s x t ho base E i z size bytes ht hi hz hsize hby hzs hsz v l.length (flat enc l) hs hown ad m.length c (flat enc m) hx (flat_length hce m) ?_ ?_ ?_ ?_ hbase ?_
    · intro j u hu
      have hpos : 0 < m.length := by
        have hlt := (List.getElem?_eq_some_iff.1 hu).1
        rw [flat_length hce] at hlt
        cases m with
        | nil => simp at hlt
        | cons y r => simp
      obtain ⟨b, o', e, hc⟩ := hsl hpos
      injection e with e
      subst e
      have hadd : (⟨b, o', none⟩ : Addr).add j = ⟨b, o' + j, none⟩ := by unfold Addr.add; split <;> simp_all
      rw [hadd]; exact hc j u hu
    · intro u hu
      unfold flat at hu
      obtain ⟨y, _, hy⟩ := List.mem_flatMap.1 hu
      exact h1 y u hy
    · unfold maxLen; omega
    · have := Nat.mul_le_mul_left (l.length + m.length) hb200; omega
    · intro v' w' hown' hg _
      refine h v' w' ?_ (hb.grown hg (Nat.le_trans hB hbase) (fun k hk => Nat.le_trans hB (World.ownsRow.lt hown k hk).1)) hg
      show w'.ownsRow base E size v' (l ++ m).length (flat enc (l ++ m))
      rw [flat_append, List.length_append]; exact hown'
abbrev rowS (y : ByteArray) : Obj := .cells #[.string y] 9
abbrev madeS : Obj := .cells #[] 9
section
variable {ops : Array Oper} {o : Oper} {a : Act} {K : Act → World → Prop} {Q : Exit → Act → World → Prop} {E' : Prop} {w1 : World} {l : List ByteArray} {A : Option Addr} {c : Nat} {y : ByteArray} {s x : Operand}
theorem step_strN {l m : List ByteArray} {w0 wr : World} {v : Value} {A : Option Addr} {c : Nat} {s x : Operand} (hw : Region.wanted o (yielded ops a.tmps) = true) (ho : o.op = .call { callee := .builtin .append, args := #[s, x], argTypes := #[37, 37] })
    (hown : Own wr w0.heap.size 9 1 encS v l) (hb : Below w0.heap.size w0 wr) (hn : l.length + m.length ≤ 33554432) (hsl : Sl wr encS 1 A m) (hcz : A = none → c = 0)
    (hs : a.eval s = v) (hx : a.eval x = .slice A m.length c)
    (h : ∀ v' w', Own w' w0.heap.size 9 1 encS v' (l ++ m) → Below w0.heap.size w0 w' → Grew v wr w' → K (a.put o.dst v') w') : if Region.wanted o (yielded ops a.tmps) = true then Oper.wp Tryd.prog o a wr K Q else E' := by
  obtain ⟨i0, hi0, hz0, hz1, hz2⟩ := info_parts str_info
  exact step_appW Tryd.underlying37 hi0 hz0 hz1 hz2 rfl (by decide) (by decide) hw s x ho hown hb (Nat.le_refl _) hb.size hn hsl hcz (fun _ => rfl) oneS hs hx h
def StrAt (w : World) (g : Nat) (y : ByteArray) : Prop := w.cell? ⟨g, 0, none⟩ = some (.string y)
theorem StrAt.new (w : World) (y : ByteArray) : StrAt (w.alloc (rowS y)) w.heap.size y := new_cell rfl
theorem StrAt.sl {w : World} {g : Nat} {y : ByteArray} (h : StrAt w g y) : Sl w encS 1 (some ⟨g, 0, none⟩) [y] := by
  intro _
  refine ⟨g, 0, rfl, fun j u hu => ?_⟩
  have hj : j = 0 := by have := (List.getElem?_eq_some_iff.1 hu).1; simp [flat, encS] at this; omega
  subst hj; simp [flat, encS] at hu; rw [← hu]; exact h
theorem step_str_a (hsl : Sl w1 encS 1 A l) (hcz : A = none → c = 0) (hl : l.length ≤ 16777216) (hw : Region.wanted o (yielded ops a.tmps) = true) (ho : o.op = .call { callee := .builtin .append, args := #[s, x], argTypes := #[37, 37] })
    (hs : a.eval s = .slice (some ⟨w1.heap.size, 0, none⟩) 0 0) (hx : a.eval x = .slice A l.length c)
    (h : ∀ v' w', Own w' w1.heap.size 9 1 encS v' l → Below w1.heap.size w1 w' → K (a.put o.dst v') w') : if Region.wanted o (yielded ops a.tmps) = true then Oper.wp Tryd.prog o a (w1.alloc madeS).drew K Q else E' :=
  step_strN (w0 := w1) (l := []) hw ho ((Own.made (w := w1) (Nat.le_refl _)).drew) (((Below.refl _ _).alloc (Nat.le_refl _) _).drew) (by simp; omega) ((hsl.alloc _).drew) hcz hs hx fun v' w' h1 h2 _ => h v' w' h1 h2
theorem step_str_b (hsl : Sl w1 encS 1 A l) (hcz : A = none → c = 0) (hl : l.length ≤ 16777216) (hw : Region.wanted o (yielded ops a.tmps) = true) (ho : o.op = .call { callee := .builtin .append, args := #[s, x], argTypes := #[37, 37] })
    (hs : a.eval s = .slice (some ⟨w1.heap.size, 0, none⟩) 0 0) (hx : a.eval x = .slice A l.length c)
    (h : ∀ v' w', Own w' w1.heap.size 9 1 encS v' l → Below w1.heap.size w1 w' → StrAt w' (w1.heap.size + 1) y → K (a.put o.dst v') w') : if Region.wanted o (yielded ops a.tmps) = true then Oper.wp Tryd.prog o a ((w1.alloc madeS).alloc (rowS y)).drew K Q else E' := by
  have hz : w1.heap.size ≤ (w1.alloc madeS).heap.size := by simp
  have hr := StrAt.new (w1.alloc madeS) y
  have hzz : (w1.alloc madeS).heap.size = w1.heap.size + 1 := by simp
  rw [hzz] at hr
  exact step_strN (w0 := w1) (l := []) hw ho (((Own.made (w := w1) (Nat.le_refl _)).alloc _).drew) ((((Below.refl _ _).alloc (Nat.le_refl _) _).alloc hz _).drew) (by simp; omega) (((hsl.alloc _).alloc _).drew) hcz hs hx fun v' w' h1 h2 h3 => h v' w' h1 h2 (Grew.cell (w := ((w1.alloc madeS).alloc (rowS y)).drew) h3 (by simp [Value.ownBlock]) hr)
theorem step_str_c (hsl : Sl w1 encS 1 A l) (hcz : A = none → c = 0) (hl : l.length ≤ 16777216) (hw : Region.wanted o (yielded ops a.tmps) = true) (ho : o.op = .call { callee := .builtin .append, args := #[s, x], argTypes := #[37, 37] })
    (hs : a.eval s = .slice (some ⟨w1.heap.size + 1, 0, none⟩) 0 0) (hx : a.eval x = .slice A l.length c)
    (h : ∀ v' w', Own w' w1.heap.size 9 1 encS v' l → Below w1.heap.size w1 w' → StrAt w' w1.heap.size y → K (a.put o.dst v') w') : if Region.wanted o (yielded ops a.tmps) = true then Oper.wp Tryd.prog o a ((w1.alloc (rowS y)).alloc madeS).drew K Q else E' := by
  have hz : w1.heap.size ≤ (w1.alloc (rowS y)).heap.size := by simp
  have hr : StrAt ((w1.alloc (rowS y)).alloc madeS) w1.heap.size y := cell_alloc (StrAt.new w1 y)
  have hm := (Own.made (enc := encS) (E := 9) (size := 1) (w := w1.alloc (rowS y)) hz).drew
  have hzz : (w1.alloc (rowS y)).heap.size = w1.heap.size + 1 := by simp
  rw [hzz] at hm
  exact step_strN (w0 := w1) (l := []) hw ho hm ((((Below.refl _ _).alloc (Nat.le_refl _) _).alloc hz _).drew) (by simp; omega) (((hsl.alloc _).alloc _).drew) hcz hs hx fun v' w' h1 h2 h3 => h v' w' h1 h2 (Grew.cell (w := ((w1.alloc (rowS y)).alloc madeS).drew) h3 (by simp [Value.ownBlock]) hr)
theorem step_str_d {w0 W : World} {v : Value} {g : Nat} (hown : Own W w0.heap.size 9 1 encS v l) (hb : Below w0.heap.size w0 W) (hr : StrAt W g y) (hl : l.length ≤ 16777216) (hw : Region.wanted o (yielded ops a.tmps) = true) (ho : o.op = .call { callee := .builtin .append, args := #[s, x], argTypes := #[37, 37] })
    (hs : a.eval s = v) (hx : a.eval x = .slice (some ⟨g, 0, none⟩) 1 1)
    (h : ∀ v' w', Own w' w0.heap.size 9 1 encS v' (l ++ [y]) → Below w0.heap.size w0 w' → K (a.put o.dst v') w') : if Region.wanted o (yielded ops a.tmps) = true then Oper.wp Tryd.prog o a W K Q else E' :=
  step_strN (l := l) (m := [y]) hw ho hown hb (by simp; omega) hr.sl (by intro h; cases h) hs hx fun v' w' h1 h2 _ => h v' w' h1 h2
end
section
variable {ops : Array Oper} {o : Oper} {a : Act} {K : Act → World → Prop} {Q : Exit → Act → World → Prop} {E' : Prop} {l : List ByteArray} {s x : Operand}
theorem step_str_e {w0 W : World} {v : Value} {y : ByteArray} (hown : Own W w0.heap.size 9 1 encS v l) (hb : Below w0.heap.size w0 W) (hl : l.length ≤ 16777216) (hw : Region.wanted o (yielded ops a.tmps) = true) (ho : o.op = .call { callee := .builtin .append, args := #[s, x], argTypes := #[37, 37] })
    (hs : a.eval s = v) (hx : a.eval x = .slice (some ⟨W.heap.size, 0, none⟩) 1 1)
    (h : ∀ v' w', Own w' w0.heap.size 9 1 encS v' (l ++ [y]) → Below w0.heap.size w0 w' → Grew v (W.alloc (rowS y)) w' → K (a.put o.dst v') w') : if Region.wanted o (yielded ops a.tmps) = true then Oper.wp Tryd.prog o a (W.alloc (rowS y)) K Q else E' :=
  step_strN (l := l) (m := [y]) hw ho (hown.alloc _) (hb.alloc hb.size _) (by simp; omega) (StrAt.new W y).sl (by intro h; cases h) hs hx h
end
theorem keepA {w w' : World} {b o b' o' : Nat} {u v : Value} (hb : Below w.heap.size w w') (h : w.cell? ⟨b, o, none⟩ = some u ∧ w.cell? ⟨b', o', none⟩ = some v) : w'.cell? ⟨b, o, none⟩ = some u ∧ w'.cell? ⟨b', o', none⟩ = some v := ⟨Below_cells hb _ _ _ h.1, Below_cells hb _ _ _ h.2⟩
section
variable {ops : Array Oper} {o : Oper} {a : Act} {K : Act → World → Prop} {Q : Exit → Act → World → Prop} {E' : Prop} {l : List ByteArray} {s x : Operand}
theorem step_str_g {w0 W : World} {v : Value} {y : ByteArray} (hown : Own W w0.heap.size 9 1 encS v l) (hb : Below w0.heap.size w0 W) (hl : l.length ≤ 16777216) (hw : Region.wanted o (yielded ops a.tmps) = true) (ho : o.op = .call { callee := .builtin .append, args := #[s, x], argTypes := #[37, 37] })
    (hs : a.eval s = v) (hx : a.eval x = .slice (some ⟨W.heap.size, 0, none⟩) 1 1)
    (h : ∀ v' w', Own w' w0.heap.size 9 1 encS v' (l ++ [y]) → Below w0.heap.size w0 w' → Grew v (W.drew.alloc (rowS y)) w' → K (a.put o.dst v') w') : if Region.wanted o (yielded ops a.tmps) = true then Oper.wp Tryd.prog o a (W.drew.alloc (rowS y)) K Q else E' :=
  step_str_e (w0 := w0) (W := W.drew) hown.drew hb.drew hl hw ho hs hx h
end
theorem str_add {x y : ByteArray} (hx : x.size ≤ 1073741824) (hy : y.size ≤ 1073741824) : Op.stringOp .add x y = pure (.string (x ++ y)) := by
  have h : ¬ (((x.size + y.size : Nat) : Int) > IntKind.i64.max) := by
    have e : IntKind.i64.max = 9223372036854775807 := by decide
    rw [e]; omega
  unfold Op.stringOp
  simp only [h, if_false]
theorem keep2 {w w' : World} {g : Nat} {u v : Value} (hb : Below w.heap.size w w') (h : w.cell? ⟨g, 0, none⟩ = some u ∧ w.cell? ⟨g, 1, none⟩ = some v) : w'.cell? ⟨g, 0, none⟩ = some u ∧ w'.cell? ⟨g, 1, none⟩ = some v := ⟨Below_cells hb _ _ _ h.1, Below_cells hb _ _ _ h.2⟩
theorem keep2G {w w' : World} {g : Nat} {u v z : Value} (hg : Grew z w w') (hne : z.ownBlock ≠ some g) (h : w.cell? ⟨g, 0, none⟩ = some u ∧ w.cell? ⟨g, 1, none⟩ = some v) : w'.cell? ⟨g, 0, none⟩ = some u ∧ w'.cell? ⟨g, 1, none⟩ = some v := ⟨Grew.cell hg hne h.1, Grew.cell hg hne h.2⟩
end Go.Proofs.YtaeaccakkielmaaDoor

/- strconv.FormatInt at base 16, walked. -/
set_option linter.unusedVariables false
namespace Go.Proofs.YtaeaccakkielmaaDoor
open Go.RowKit
--BEGIN
/-- The table by which trailing zeros are found: its place for 16. -/
theorem cell_allocQ {u : Value} {w : World} {x : Obj} {a : Addr} (hc : w.cell? a = some u) : (w.alloc x).cell? a = some u := (World.cell?_alloc_lt w x a (World.block_lt_of_cell? w _ hc)).trans hc
def TzL (w : World) : Prop := w.cell? ⟨5, 15, none⟩ = some (.int .u8 4)
theorem TzL.below {w w' : World} (h : TzL w) (hb : Below w.heap.size w w') : TzL w' := Below_cells hb _ _ _ h
set_option maxHeartbeats 2000000 in
set_option maxRecDepth 100000 in
theorem tz64_any (w : World) (ht : TzL w) : Calls Tryd.prog 124 #[.int .u64 16] w fun e w' => e = .returned (.int .i64 4) ∧ w = w' := by
  unfold TzL at ht
  have hA : bits .and .u64 16 (IntKind.u64.wrap (-16)) = 16 := by kernel_rfl
  have hW : IntKind.u64.wrap (16 * 285870213051353865) = 4573923408821661840 := by kernel_rfl
  go_enter Tryd.func124, Tryd.ntmps124
  go_wp2
  go_ret
  exact ⟨rfl, rfl⟩
set_option maxHeartbeats 2000000 in
set_option maxRecDepth 100000 in
theorem tz_any (w : World) (ht : TzL w) : Calls Tryd.prog 115 #[.int .u64 16] w fun e w' => e = .returned (.int .i64 4) ∧ w = w' := by
  have HT := Lib.hid ht
  clear ht
  go_enter Tryd.func115, Tryd.ntmps115
  go_wp2_with (go_at_call 124; refine (tz64_any _ HT.out).mono ?_; rintro e w' ⟨rfl, rfl⟩)
  go_ret
  exact ⟨rfl, rfl⟩
set_option maxHeartbeats 2000000 in
set_option maxRecDepth 100000 in
theorem pow2_any (w : World) : Calls Tryd.prog 114 #[.int .i64 16] w fun e w' => e = .returned (.bool true) ∧ w = w' := by
  go_enter Tryd.func114, Tryd.ntmps114
  go_wp2
  go_ret
  exact ⟨rfl, rfl⟩
/-- N is left, 'acc' stands behind. -/
def HexI (n0 N : Nat) (acc : Bs) : Prop := ∃ f, N < 16 ^ (f + 1) ∧ f + 1 + acc.length = 7 ∧ hexF 7 n0 = hexF (f + 1) N ++ acc
theorem HexI.start {n0 : Nat} (h : n0 ≤ 16777212) : HexI n0 n0 [] := by
  have e : (16 : Nat) ^ (6 + 1) = 268435456 := by decide
  exact ⟨6, by omega, rfl, by simp⟩
theorem HexI.step {n0 N : Nat} {acc : Bs} (h : HexI n0 N acc) (hN : 16 ≤ N) : HexI n0 (N / 16) (hexD (N % 16) :: acc) ∧ acc.length ≤ 5 := by
  obtain ⟨f, hf, hl, he⟩ := h
  cases f with
  | zero => simp at hf; omega
  | succ f =>
    refine ⟨⟨f, by rw [Nat.pow_succ] at hf; omega, by simp; omega, ?_⟩, by omega⟩
    rw [he, hexF, if_neg (by omega)]
    simp
theorem HexI.done {n0 N : Nat} {acc : Bs} (h : HexI n0 N acc) (hN : N < 16) : hexF 7 n0 = hexD N :: acc ∧ acc.length ≤ 6 := by
  obtain ⟨f, hf, hl, he⟩ := h
  refine ⟨?_, by omega⟩
  rw [he, hexF, if_pos hN]; rfl
def DigRow (wr : World) (g : Nat) (acc : Bs) : Prop := ∃ cs : Array Value, wr.heap[g]? = some (.cells cs 133 (0, 0)) ∧ cs.size = 65 ∧ cs.toList.drop (65 - acc.length) = acc.map fun c => Value.int .u8 (c.toNat : Int)
theorem DigRow.cell {wr : World} {g : Nat} {acc : Bs} (h : DigRow wr g acc) {j : Nat} (hj : j < 65) : ∃ u, wr.cell? ⟨g, j, none⟩ = some u := by
  obtain ⟨cs, hg, hs, _⟩ := h
  exact ⟨cs[j], by rw [cell_of_row wr g j cs _ (0, 0) hg, Array.getElem?_eq_getElem (by omega)]⟩
theorem DigRow.free {wr : World} {g : Nat} {acc : Bs} (h : DigRow wr g acc) (j : Nat) : wr.frozen? ⟨g, j, none⟩ = false := by
  obtain ⟨cs, hg, _⟩ := h
  exact frozen_of_row wr g j cs _ hg
theorem DigRow.store {wr : World} {g : Nat} {acc : Bs} (h : DigRow wr g acc) (c : UInt8) {j : Nat} (hj : j + 1 + acc.length = 65) : DigRow (wr.setCell ⟨g, j, none⟩ (.int .u8 (c.toNat : Int))) g (c :: acc) := by
  obtain ⟨cs, hg, hs, ht⟩ := h
  refine ⟨cs.setIfInBounds j (.int .u8 (c.toNat : Int)), heap_setCell_same wr g _ cs _ _ hg, by simpa using hs, ?_⟩
  have e1 : 65 - (c :: acc).length = j := by simp; omega
  have e2 : 65 - acc.length = j + 1 := by omega
  rw [e2] at ht
  rw [e1, Array.toList_setIfInBounds, List.drop_eq_getElem_cons (by simp; omega), List.getElem_set_self, List.drop_set_of_lt (by omega), ht]
  rfl
theorem ofInt_nat64 (a : Nat) (ha : a < 18446744073709551616) : (BitVec.ofInt 64 (a : Int)).toNat = a := by
  rw [BitVec.ofInt_natCast, BitVec.toNat_ofNat]; exact Nat.mod_eq_of_lt (by omega)
theorem u64_and15 (N : Nat) (h : N ≤ 16777212) : bits .and .u64 (N : Int) 15 = ((N % 16 : Nat) : Int) := by
  have e : N &&& 15 = N % 16 := Nat.and_two_pow_sub_one_eq_mod N 4
  show IntKind.u64.wrap ((BitVec.ofInt 64 (N : Int) &&& BitVec.ofInt 64 ((15 : Nat) : Int)).toNat : Int) = _
  rw [BitVec.toNat_and, ofInt_nat64 N (by omega), ofInt_nat64 15 (by omega), e, IntKind.wrap_u64]
  omega
def digs : ByteArray := ⟨#[48, 49, 50, 51, 52, 53, 54, 55, 56, 57, 97, 98, 99, 100, 101, 102, 103, 104, 105, 106, 107, 108, 109, 110, 111, 112, 113, 114, 115, 116, 117, 118, 119, 120, 121, 122]⟩
theorem digs_at (d : Nat) (h : d < 16) (h' : d < digs.size) : digs[d] = hexD d := by
  have key : ∀ d : Fin 16, digs[d.val]'(Nat.lt_trans d.isLt (by decide)) = hexD d.val := by decide
  exact key ⟨d, h⟩
theorem u64_shr4 (N : Nat) : (N : Int) / 16 = ((N / 16 : Nat) : Int) := by omega
theorem slice65 (W : World) (g k : Nat) (hk : k < 65) : (Instr.sliceAt 133 (.pointer (some ⟨g, 0, none⟩)) (some (.int .i64 (k : Int))) none none).run Tryd.prog W = .ok (.slice (some ⟨g, k, none⟩) (65 - k) (65 - k)) W := by
  have hl : Tryd.prog.arrayLen 133 = 65 := by kernel_rfl
  have hz : (sizeOf (Tryd.prog.elem 133)).run Tryd.prog W = .ok 1 W := by kernel_rfl
  have h := run_sliceAt_array_l (P := Tryd.prog) W 133 ⟨g, 0, none⟩ (by kernel_rfl) .i64 (k : Int) (by omega) (by rw [hl]; omega)
  rw [h, hz, hl]
  show Result.ok (slicedAt _ _ _ _ _) W = _
  unfold slicedAt
  rw [if_neg (by omega)]
  simp [Addr.add]
  omega
theorem DigRow.conv {W : World} {g : Nat} {acc : Bs} (h : DigRow W g acc) (h1 : 1 ≤ acc.length) (h2 : acc.length ≤ 65) : (convert 29 9 (.slice (some ⟨g, 65 - acc.length, none⟩) acc.length acc.length)).run Tryd.prog W = .ok (.string (mk acc)) W := by
  obtain ⟨cs, hg, hs, ht⟩ := h
  refine run_convert_bytes_back (P := Tryd.prog) W 29 9 5 ⟨g, 65 - acc.length, none⟩ acc.length acc Tryd.underlying29 Tryd.underlying5 Tryd.underlying9 ?_
  intro j hj
  have hadd : (⟨g, 65 - acc.length, none⟩ : Addr).add j = ⟨g, 65 - acc.length + j, none⟩ := by unfold Addr.add; split <;> simp_all
  rw [hadd, cell_of_row _ _ _ _ _ (0, 0) hg, ← Array.getElem?_toList]
  have : (cs.toList.drop (65 - acc.length))[j]? = (acc.map fun c => Value.int .u8 (c.toNat : Int))[j]? := by rw [ht]
  rw [List.getElem?_drop] at this
  rw [this, List.getElem?_map, List.getElem?_eq_getElem hj]; rfl
set_option maxHeartbeats 4000000 in
set_option maxRecDepth 100000 in
theorem formatBits_any (n : Nat) (w : World) (hn : n ≤ 16777212) (ht : TzL w) : Calls Tryd.prog 95 #[.slice none 0 0, .int .u64 (n : Int), .int .i64 16, .bool false, .bool false] w fun e w' => e = .returned (.tuple #[.slice none 0 0, .string (mk (hexF 7 n))]) ∧ Below w.heap.size w w' := by
  have HT := Lib.hid ht
  clear ht
  have hz : ∀ w, (zeroValue 133).run Tryd.prog w = .ok (.agg (Array.replicate 65 (.int .u8 0))) w := fun w => by kernel_rfl
  have HZ := Lib.hid (show (Array.replicate 65 (Value.int .u8 0)).size = 65 by rfl)
  generalize Array.replicate 65 (Value.int .u8 0) = Z at *
  go_enter Tryd.func95, Tryd.ntmps95
  go_wp2_with (first
    | (go_at_call 114; refine (pow2_any _).mono ?_; rintro e w' ⟨rfl, rfl⟩)
    | (go_at_call 115; refine (tz_any _ (cell_allocQ HT.out)).mono ?_; rintro e w' ⟨rfl, rfl⟩))
  go_loopw [1, 13] (fun u i wr => ∃ (N : Nat) (acc : Bs), u = .int .u64 (N : Int) ∧ i = .int .i64 ((65 - acc.length : Nat) : Int) ∧ N ≤ n ∧ acc.length ≤ 6 ∧ Hid (HexI n N acc) ∧ Hid (DigRow wr w.heap.size acc) ∧ Hid (Below w.heap.size w wr)) (fun u _ _ => (intOf u).toNat)
  case atStart => exact ⟨n, [], rfl, rfl, Nat.le_refl _, by simp, HexI.start hn, ⟨Z, heap_alloc_new w _, HZ.out, by rw [List.drop_eq_nil_of_le (by rw [Array.length_toList, HZ.out]; simp)]; rfl⟩, (Below.refl _ _).alloc (Nat.le_refl _) _⟩
  case round =>
    obtain ⟨N, acc, rfl, rfl, hN, hal, HI, HD, HB⟩ := hrel
    by_cases hlt : 16 ≤ N
    · obtain ⟨u0, hu0⟩ := HD.out.cell (j := 64 - acc.length) (by omega)
      have hfr := HD.out.free (64 - acc.length)
      have hand := u64_and15 N (by omega)
      have hlt' : (16 : Int) ≤ (N : Int) := by omega
      have e1 : (((65 - acc.length : Nat) : Int) - 1) = ((64 - acc.length : Nat) : Int) := by omega
      obtain ⟨hst, hac⟩ := HI.out.step hlt
      have HST := Lib.hid hst
      have hd := fun h' => digs_at (N % 16) (by omega) h'
      unfold digs at hd
      have HSD := Lib.hid (HD.out.store (hexD (N % 16)) (j := 64 - acc.length) (by omega))
      have HSB := Lib.hid (fun u => HB.out.setCell (p := ⟨w.heap.size, 64 - acc.length, none⟩) (Nat.le_refl _) u)
      clear hst
      go_wp2
      go_roundw
      case rel => exact ⟨N / 16, hexD (N % 16) :: acc, by rw [u64_shr4], by rw [List.length_cons, show 65 - (acc.length + 1) = 64 - acc.length by omega], by omega, by rw [List.length_cons]; omega, HST.out, HSD.out, HSB.out _⟩
      case measure => simp [intOf]; omega
    · obtain ⟨u0, hu0⟩ := HD.out.cell (j := 64 - acc.length) (by omega)
      have hfr := HD.out.free (64 - acc.length)
      have hlt' : ¬ (16 : Int) ≤ (N : Int) := by omega
      have e1 : (((65 - acc.length : Nat) : Int) - 1) = ((64 - acc.length : Nat) : Int) := by omega
      obtain ⟨hdn, hac⟩ := HI.out.done (by omega)
      have HDN := Lib.hid hdn
      have hd := fun h' => digs_at N (by omega) h'
      unfold digs at hd
      have HSD := Lib.hid (HD.out.store (hexD N) (j := 64 - acc.length) (by omega))
      have HSB := Lib.hid (fun u => HB.out.setCell (p := ⟨w.heap.size, 64 - acc.length, none⟩) (Nat.le_refl _) u)
      have hsl := fun W => slice65 W w.heap.size (64 - acc.length) (by omega)
      rw [show 65 - (64 - acc.length) = acc.length + 1 by omega] at hsl
      have hcv := HSD.out.conv (by simp) (by simp; omega)
      rw [List.length_cons, show 65 - (acc.length + 1) = 64 - acc.length by omega, ← HDN.out] at hcv
      clear hdn
      go_wp2
      go_ret2
      exact ⟨rfl, HSB.out _⟩
set_option maxHeartbeats 4000000 in
set_option maxRecDepth 100000 in
theorem fmtInt_any (n : Nat) (w : World) (hn : n ≤ 16777212) (ht : TzL w) : Calls Tryd.prog 71 #[.int .i64 (n : Int), .int .i64 16] w fun e w' => e = .returned (.string (mk (hexF 7 n))) ∧ Below w.heap.size w w' := by
  have HF := Lib.hid (formatBits_any n w hn ht)
  have hw : IntKind.u64.wrap (n : Int) = (n : Int) := by rw [IntKind.wrap_u64]; omega
  clear ht
  go_enter Tryd.func71, Tryd.ntmps71
  go_wp2_with fail
  refine HF.out.mono ?_
  rintro e w1 ⟨rfl, hb⟩
  have HB := Lib.hid hb
  clear hb
  go_wp2
  go_ret
  exact ⟨rfl, HB.out⟩
set_option maxHeartbeats 4000000 in
set_option maxRecDepth 100000 in
theorem FormatInt_any (n : Nat) (w : World) (hn : n ≤ 16777212) (ht : TzL w) : Calls Tryd.prog 58 #[.int .i64 (n : Int), .int .i64 16] w fun e w' => e = .returned (.string (mk (hexF 7 n))) ∧ Below w.heap.size w w' := by
  have HF := Lib.hid (fmtInt_any n w hn ht)
  clear ht
  go_enter Tryd.func58, Tryd.ntmps58
  go_wp2_with fail
  refine HF.out.mono ?_
  rintro e w1 ⟨rfl, hb⟩
  have HB := Lib.hid hb
  clear hb
  go_wp2
  go_ret
  exact ⟨rfl, HB.out⟩
set_option maxHeartbeats 4000000 in
set_option maxRecDepth 100000 in
theorem iHexText_any (n : Int) (w : World) (ht : TzL w) : Calls Tryd.prog 34 #[.int .i64 n] w fun e w' => e = .returned (.string (mk (hexT n))) ∧ Below w.heap.size w w' := by
  cases hp : pv n
  · have E := Lib.hid (hexT_bad hp)
    have hP := fun w => iprintValid_any n w
    rw [hp] at hP
    have HP := Lib.hid hP
    clear ht hp hP
    rw [E.out]
    go_enter Tryd.func34, Tryd.ntmps34
    go_wp2_with (go_at_call 57; refine (HP.out _).mono ?_; rintro e w' ⟨rfl, rfl⟩)
    go_ret
    exact ⟨rfl, Below.refl _ _⟩
  · have h2 := pv_iff.1 hp
    obtain ⟨m, rfl⟩ := Int.eq_ofNat_of_zero_le h2.1
    have E := Lib.hid (hexT_ok (n := m) (by omega))
    have hP := fun w => iprintValid_any (m : Int) w
    rw [hp] at hP
    have HP := Lib.hid hP
    have HF := Lib.hid (FormatInt_any m w (by omega) ht)
    clear ht hp hP h2
    rw [E.out]
    go_enter Tryd.func34, Tryd.ntmps34
    go_wp2_with (first
      | (go_at_call 57; refine (HP.out _).mono ?_; rintro e w' ⟨rfl, rfl⟩)
      | (go_at_call 58; refine HF.out.mono ?_; rintro e w1 ⟨rfl, hb⟩; have HB := Lib.hid hb; clear hb))
    go_ret
    exact ⟨rfl, HB.out⟩
end Go.Proofs.YtaeaccakkielmaaDoor

/- HexText of the reference; ReadHex, walked. -/
set_option linter.unusedVariables false
namespace Go.Proofs.YtaeaccakkielmaaDoor
open Go.RowKit
attribute [local go_sem] mk_size mk_append
--BEGIN
def digs16 : ByteArray := ⟨#[48, 49, 50, 51, 52, 53, 54, 55, 56, 57, 97, 98, 99, 100, 101, 102]⟩
theorem digs16_at (d : Nat) (h : d < 16) : digs16.extract d (d + 1) = mk [hexD d] := by
  have key : ∀ d : Fin 16, digs16.extract d.val (d.val + 1) = mk [hexD d.val] := by decide
  exact key ⟨d, h⟩
set_option maxHeartbeats 4000000 in
set_option maxRecDepth 100000 in
theorem sHexText_any (n : Int) (w : World) : Calls Tryd.prog 35 #[.int .i64 n] w fun e w' => e = .returned (.string (mk (hexT n))) ∧ w = w' := by
  cases hp : pv n
  · have E := Lib.hid (hexT_bad hp)
    have hP : ∀ w, Calls Tryd.prog 26 #[.int .i64 n, .int .i64 0, .int .i64 16777212] w fun e w' => e = .returned (.bool false) ∧ w = w' := fun w => hp ▸ sl1In_any n 0 16777212 w
    have HP := Lib.hid hP
    clear hp hP
    rw [E.out]
    go_enter Tryd.func35, Tryd.ntmps35
    go_wp2_with (go_at_call 26; refine (HP.out _).mono ?_; rintro e w' ⟨rfl, rfl⟩)
    go_ret
    exact ⟨rfl, rfl⟩
  · have h2 := pv_iff.1 hp
    obtain ⟨m, rfl⟩ := Int.eq_ofNat_of_zero_le h2.1
    have hm : m ≤ 16777212 := by omega
    have E := Lib.hid (hexT_ok hm)
    have hP : ∀ w, Calls Tryd.prog 26 #[.int .i64 (m : Int), .int .i64 0, .int .i64 16777212] w fun e w' => e = .returned (.bool true) ∧ w = w' := fun w => hp ▸ sl1In_any (m : Int) 0 16777212 w
    have HP := Lib.hid hP
    have hx := digs16_at (m % 16) (by omega)
    unfold digs16 at hx
    have HS := Lib.hid (HexAt.start hm)
    clear hp hP h2
    rw [E.out]
    clear E
    go_enter Tryd.func35, Tryd.ntmps35
    go_wp2_with (go_at_call 26; refine (HP.out _).mono ?_; rintro e w' ⟨rfl, rfl⟩)
    go_loop [0, 4] (fun u o => ∃ (N : Nat) (acc : Bs), u = .int .i64 (N : Int) ∧ o = .string (mk acc) ∧ N ≤ m ∧ acc.length ≤ 7 ∧ Hid (HexAt m N acc)) (fun u _ => (intOf u).toNat)
    case atStart => exact ⟨m, [hexD (m % 16)], rfl, by rw [hx], Nat.le_refl _, by simp, HS.out⟩
    case round =>
      obtain ⟨N, acc, rfl, rfl, hN, hal, HA⟩ := hrel
      by_cases hlt : 16 ≤ N
      · have hlt' : (16 : Int) ≤ (N : Int) := by omega
        have hd : (N : Int) / 16 = ((N / 16 : Nat) : Int) := by omega
        have hst := HA.out.step hlt
        have hac := hst.1
        have HST := Lib.hid hst
        clear hx
        have hx := digs16_at (N / 16 % 16) (by omega)
        unfold digs16 at hx
        have hlt2 : N / 16 ≤ N := Nat.div_le_self _ _
        have hlt3 : N / 16 < N := Nat.div_lt_self (by omega) (by omega)
        generalize N / 16 = M at *
        clear hst
        go_wp2
        go_round
        case rel => exact ⟨M, hexD (M % 16) :: acc, rfl, by first | rfl | rw [hx]; rfl, by omega, hac, HST.out⟩
        case measure => simp [intOf]; omega
      · have hlt' : ¬ (16 : Int) ≤ (N : Int) := by omega
        have HD := Lib.hid (HA.out.done (by omega))
        go_wp2
        go_ret
        exact ⟨ret_str (by rw [HD.out]), rfl⟩
end Go.Proofs.YtaeaccakkielmaaDoor

/- ReadHex, walked. -/
set_option linter.unusedVariables false
namespace Go.Proofs.YtaeaccakkielmaaDoor
open Go.RowKit
theorem hexV_dig {c : UInt8} (h1 : 48 ≤ (c.toNat : Int)) (h2 : (c.toNat : Int) ≤ 57) : hexV c = some (c.toNat - 48) := by
  unfold hexV digitC; rw [inI_true ⟨h1, h2⟩]; rfl
theorem hexV_let {c : UInt8} (h1 : 97 ≤ (c.toNat : Int)) (h2 : (c.toNat : Int) ≤ 102) : hexV c = some (c.toNat - 87) := by
  unfold hexV digitC; rw [inI_false (by omega), inI_true ⟨h1, h2⟩]; rfl
theorem hexV_no {c : UInt8} (h1 : ¬ (48 ≤ (c.toNat : Int) ∧ (c.toNat : Int) ≤ 57)) (h2 : ¬ (97 ≤ (c.toNat : Int) ∧ (c.toNat : Int) ≤ 102)) : hexV c = none := by
  unfold hexV digitC; rw [inI_false h1, inI_false h2]; rfl
theorem take_bs (s : ByteArray) : (bs s).take s.size = bs s := List.take_of_length_le (by rw [size_bs]; omega)
theorem eq_tlx (a b : ByteArray) : (a.toList == b.toList) = (bs a == bs b) := by rw [ByteArray.toList_eq, ByteArray.toList_eq]
theorem ne_tl {s : ByteArray} (h : 1 ≤ s.size) : ¬ s.toList = [] ∧ s.toList.isEmpty = false := by
  have hl : s.toList.length = s.size := by rw [ByteArray.toList_eq]; exact size_bs s
  cases hs : s.toList with
  | nil => rw [hs] at hl; simp at hl; omega
  | cons _ _ => exact ⟨by simp, rfl⟩
theorem nil_tl {s : ByteArray} (h : s.size = 0) : s.toList = [] := by
  have hl : s.toList.length = s.size := by rw [ByteArray.toList_eq]; exact size_bs s
  exact List.eq_nil_of_length_eq_zero (by omega)
theorem eq_of_tl {a b : ByteArray} {x : Bool} (h : (a.toList == b.toList) = x) : (bs a == bs b) = x := by rw [ByteArray.toList_eq, ByteArray.toList_eq] at h; exact h
theorem rh_step {s : ByteArray} {k n d : Nat} (hk : k < s.size) (hh : hexN 0 ((bs s).take k) = some n) (hv : hexV s[k] = some d) : hexN 0 ((bs s).take (k + 1)) = some (16 * n + d) := by
  have hk' : k < (bs s).length := by rw [size_bs]; exact hk
  rw [hexN_snoc hk' hh]
  have e : (bs s)[k] = s[k] := rfl
  rw [e, hv]; rfl
theorem rh_bad {s : ByteArray} {k n : Nat} (hk : k < s.size) (hh : hexN 0 ((bs s).take k) = some n) (hv : hexV s[k] = none) : readH (bs s) = -1 :=
  readH_char (k := k) (by rw [size_bs]; exact hk) hh hv
set_option maxHeartbeats 2000000 in
set_option maxRecDepth 100000 in
theorem iReadHex_any (s : ByteArray) (w : World) (hs : s.size ≤ 16777216) (ht : TzL w) :
    Calls Tryd.prog 40 #[.string s] w fun e w' => e = .returned (.int .i64 (readH (bs s))) ∧ Below w.heap.size w w' := by
  have HT := Lib.hid ht
  clear ht
  by_cases h1 : 1 ≤ s.size
  case neg =>
    have E := Lib.hid (show readH (bs s) = -1 by unfold readH; rw [if_neg (by rw [size_bs]; omega)])
    have h1' : (s.size : Int) < 1 := by omega
    rw [E.out]
    go_enter Tryd.func40, Tryd.ntmps40
    go_wp2
    go_ret
    exact ⟨rfl, Below.refl _ _⟩
  have h1' : ¬ (s.size : Int) < 1 := by omega
  by_cases h6 : s.size ≤ 6
  case neg =>
    have E := Lib.hid (show readH (bs s) = -1 from readH_long (by rw [size_bs]; omega))
    have h6' : ¬ (s.size : Int) ≤ 6 := by omega
    rw [E.out]
    go_enter Tryd.func40, Tryd.ntmps40
    go_wp2
    go_ret
    exact ⟨rfl, Below.refl _ _⟩
  go_enter Tryd.func40, Tryd.ntmps40
  go_wp2_with fail
  go_loop [3, 4] (fun v i => ∃ (k n : Nat), k ≤ s.size ∧ i = .int .i64 k ∧ v = .int .i64 n ∧ n < 16 ^ k ∧ n ≤ 16777216 ∧ Hid (hexN 0 ((bs s).take k) = some n)) (fun _ i => s.size - (intOf i).toNat)
  case atStart => exact ⟨0, 0, Nat.zero_le _, rfl, rfl, by simp, by omega, rfl⟩
  case round =>
    obtain ⟨k, n, hk, rfl, rfl, hn, hn2, HH⟩ := hrel
    by_cases hlt : k < s.size
    · have hby := s[k].toNat_lt
      have HST := Lib.hid (fun d (h : hexV s[k] = some d) => rh_step hlt HH.out h)
      have HBD := Lib.hid (fun (h : hexV s[k] = none) => rh_bad hlt HH.out h)
      have HP := Lib.hid (fun d (hd : d < 16) => (show 16 * n + d < 16 ^ (k + 1) ∧ 16 * n + d ≤ 16777216 by
        have e1 : (16 : Nat) ^ (k + 1) = 16 ^ k * 16 := Nat.pow_succ ..
        have e2 : (16 : Nat) ^ (k + 1) ≤ 16 ^ 6 := Nat.pow_le_pow_right (by omega) (by omega)
        have e3 : (16 : Nat) ^ 6 = 16777216 := by decide
        omega))
      clear hn
      by_cases hd : 48 ≤ (s[k].toNat : Int) ∧ (s[k].toNat : Int) ≤ 57
      · obtain ⟨hd1, hd2⟩ := hd
        have hs2 : inI s[k].toNat 48 57 = true := inI_true ⟨hd1, hd2⟩
        have HN := Lib.hid (HST.out _ (hexV_dig hd1 hd2))
        have HNP := Lib.hid (HP.out (s[k].toNat - 48) (by omega))
        go_wp2_with (go_at_call 53; refine (iisDigit_any _ _).mono ?_; rintro e w' ⟨rfl, rfl⟩)
        go_round
        case rel => exact ⟨k + 1, 16 * n + (s[k].toNat - 48), by omega, by go_num, int_eq (by omega), HNP.out.1, HNP.out.2, HN.out⟩
        case measure => simp [intOf]; omega
      · have hs2 : inI s[k].toNat 48 57 = false := inI_false hd
        by_cases hl : 97 ≤ (s[k].toNat : Int)
        · by_cases hl2 : (s[k].toNat : Int) ≤ 102
          · have HN := Lib.hid (HST.out _ (hexV_let hl hl2))
            have HNP := Lib.hid (HP.out (s[k].toNat - 87) (by omega))
            clear hd
            go_wp2_with (go_at_call 53; refine (iisDigit_any _ _).mono ?_; rintro e w' ⟨rfl, rfl⟩)
            go_round
            case rel => exact ⟨k + 1, 16 * n + (s[k].toNat - 87), by omega, by go_num, int_eq (by omega), HNP.out.1, HNP.out.2, HN.out⟩
            case measure => simp [intOf]; omega
          · have HE := Lib.hid (HBD.out (hexV_no hd (fun h => hl2 h.2)))
            clear hd
            go_wp2_with (go_at_call 53; refine (iisDigit_any _ _).mono ?_; rintro e w' ⟨rfl, rfl⟩)
            go_ret
            exact ⟨ret_int HE.out.symm, Below.refl _ _⟩
        · have HE := Lib.hid (HBD.out (hexV_no hd (fun h => hl h.1)))
          clear hd
          go_wp2_with (go_at_call 53; refine (iisDigit_any _ _).mono ?_; rintro e w' ⟨rfl, rfl⟩)
          go_ret
          exact ⟨ret_int HE.out.symm, Below.refl _ _⟩
    · have hfull : hexN 0 (bs s) = some n := by have := HH.out; rwa [show k = s.size by omega, take_bs] at this
      have HO := Lib.hid (fun (h : hexT n = bs s) => readH_ok (by rw [size_bs]; omega) hfull h)
      have HNO := Lib.hid (fun (h : hexT n ≠ bs s) => readH_no hfull h)
      have HX := Lib.hid (iHexText_any (n : Int) w HT.out)
      clear hfull hn
      by_cases he : hexT (n : Int) = bs s
      · have HE := Lib.hid (HO.out he)
        have heq : ((mk (hexT (n : Int))).toList == s.toList) = true := by rw [eq_tlx]; exact beq_iff_eq.2 he
        clear he
        go_wp2_with fail
        refine HX.out.mono ?_
        rintro e w1 ⟨rfl, hb⟩
        have HB := Lib.hid hb
        clear hb
        go_wp2
        go_ret
        exact ⟨ret_int HE.out.symm, HB.out⟩
      · have HE := Lib.hid (HNO.out he)
        have heq : ((mk (hexT (n : Int))).toList == s.toList) = false := by rw [eq_tlx]; exact beq_eq_false_iff_ne.2 he
        clear he
        go_wp2_with fail
        refine HX.out.mono ?_
        rintro e w1 ⟨rfl, hb⟩
        have HB := Lib.hid hb
        clear hb
        go_wp2
        go_ret
        exact ⟨ret_int HE.out.symm, HB.out⟩
set_option maxHeartbeats 2000000 in
set_option maxRecDepth 100000 in
theorem sReadHex_any (s : ByteArray) (w : World) (hs : s.size ≤ 16777216) :
    Calls Tryd.prog 43 #[.string s] w fun e w' => e = .returned (.int .i64 (readH (bs s))) ∧ w = w' := by
  go_enter Tryd.func43, Tryd.ntmps43
  go_wp2_with fail
  go_loop [3, 4] (fun v i => ∃ (k n : Nat), k ≤ s.size ∧ k ≤ 7 ∧ i = .int .i64 k ∧ v = .int .i64 n ∧ n < 16 ^ k ∧ n ≤ 268435456 ∧ Hid (hexN 0 ((bs s).take k) = some n)) (fun _ i => s.size - (intOf i).toNat)
  case atStart => exact ⟨0, 0, Nat.zero_le _, by omega, rfl, rfl, by simp, by omega, rfl⟩
  case round =>
    obtain ⟨k, n, hk, hk7, rfl, rfl, hn, hn2, HH⟩ := hrel
    by_cases hlt : k < s.size ∧ k < 7
    · obtain ⟨hlt, hlt7⟩ := hlt
      have hlt' : decide ((k : Int) < (s.size : Int)) = true := decide_eq_true (by omega)
      have hby := s[k].toNat_lt
      have HST := Lib.hid (fun d (h : hexV s[k] = some d) => rh_step hlt HH.out h)
      have HBD := Lib.hid (fun (h : hexV s[k] = none) => rh_bad hlt HH.out h)
      have HP := Lib.hid (fun d (hd : d < 16) => (show 16 * n + d < 16 ^ (k + 1) ∧ 16 * n + d ≤ 268435456 by
        have e1 : (16 : Nat) ^ (k + 1) = 16 ^ k * 16 := Nat.pow_succ ..
        have e2 : (16 : Nat) ^ (k + 1) ≤ 16 ^ 7 := Nat.pow_le_pow_right (by omega) (by omega)
        have e3 : (16 : Nat) ^ 7 = 268435456 := by decide
        omega))
      clear hn
      by_cases hd : 48 ≤ (s[k].toNat : Int)
      · by_cases hd2 : (s[k].toNat : Int) ≤ 57
        · have HN := Lib.hid (HST.out _ (hexV_dig hd hd2))
          have HNP := Lib.hid (HP.out (s[k].toNat - 48) (by omega))
          go_wp2
          go_round
          case rel => exact ⟨k + 1, 16 * n + (s[k].toNat - 48), by omega, by omega, by go_num, int_eq (by omega), HNP.out.1, HNP.out.2, HN.out⟩
          case measure => simp [intOf]; omega
        · by_cases hl : 97 ≤ (s[k].toNat : Int)
          · by_cases hl2 : (s[k].toNat : Int) ≤ 102
            · have HN := Lib.hid (HST.out _ (hexV_let hl hl2))
              have HNP := Lib.hid (HP.out (s[k].toNat - 87) (by omega))
              go_wp2
              go_round
              case rel => exact ⟨k + 1, 16 * n + (s[k].toNat - 87), by omega, by omega, by go_num, int_eq (by omega), HNP.out.1, HNP.out.2, HN.out⟩
              case measure => simp [intOf]; omega
            · have HE := Lib.hid (HBD.out (hexV_no (fun h => hd2 h.2) (fun h => hl2 h.2)))
              go_wp2
              go_ret
              exact ⟨ret_int HE.out.symm, rfl⟩
          · have HE := Lib.hid (HBD.out (hexV_no (fun h => hd2 h.2) (fun h => hl h.1)))
            go_wp2
            go_ret
            exact ⟨ret_int HE.out.symm, rfl⟩
      · have HE := Lib.hid (HBD.out (hexV_no (fun h => hd h.1) (fun h => hd (by omega))))
        go_wp2
        go_ret
        exact ⟨ret_int HE.out.symm, rfl⟩
    · have HX := Lib.hid (sHexText_any (n : Int) w)
      have HH7 := Lib.hid (show readH (bs s) = (n : Int) ∧ 1 ≤ s.size ∧ hexT (n : Int) = bs s ∨ readH (bs s) = -1 ∧ (s.size = 0 ∨ hexT (n : Int) ≠ bs s) by
        by_cases h0 : s.size = 0
        · right
          refine ⟨?_, .inl h0⟩
          unfold readH; rw [if_neg (by rw [size_bs]; omega)]
        · by_cases h7 : s.size ≤ 6
          · have hfull : hexN 0 (bs s) = some n := by have := HH.out; rwa [show k = s.size by omega, take_bs] at this
            by_cases he : hexT (n : Int) = bs s
            · exact .inl ⟨readH_ok (by rw [size_bs]; omega) hfull he, by omega, he⟩
            · exact .inr ⟨readH_no hfull he, .inr he⟩
          · exact .inr ⟨readH_long (by rw [size_bs]; omega), .inr (hexT_ne_long (by rw [size_bs]; omega) _)⟩)
      have hout : (¬ k < s.size) ∨ (k < s.size ∧ ¬ (k : Int) < 7) := by
        by_cases h : k < s.size
        · exact .inr ⟨h, by omega⟩
        · exact .inl h
      clear hn hlt
      rcases HH7.out with ⟨hr, h1, he⟩ | ⟨hr, h1⟩
      · have HE := Lib.hid hr
        have heq : ((mk (hexT (n : Int))).toList == s.toList) = true := by rw [eq_tlx]; exact beq_iff_eq.2 he
        obtain ⟨hne, hne2⟩ := ne_tl h1
        clear he hr
        rcases hout with ho | ⟨ho, ho2⟩
        all_goals
          go_wp2_with (go_at_call 35; refine (HX.out).mono ?_; rintro e w' ⟨rfl, rfl⟩)
          go_ret
          exact ⟨ret_int HE.out.symm, rfl⟩
      · have HE := Lib.hid hr
        clear hr
        by_cases h0 : s.size = 0
        · have hnil := nil_tl h0
          have ho : ¬ k < s.size := by omega
          clear hout h1
          go_wp2_with (go_at_call 35; refine (HX.out).mono ?_; rintro e w' ⟨rfl, rfl⟩)
          go_ret
          exact ⟨ret_int HE.out.symm, rfl⟩
        · have he : hexT (n : Int) ≠ bs s := h1.resolve_left h0
          have heq : ((mk (hexT (n : Int))).toList == s.toList) = false := by rw [eq_tlx]; exact beq_eq_false_iff_ne.2 he
          obtain ⟨hne, hne2⟩ := ne_tl (s := s) (by omega)
          clear he h1
          rcases hout with ho | ⟨ho, ho2⟩
          all_goals
            go_wp2_with (go_at_call 35; refine (HX.out).mono ?_; rintro e w' ⟨rfl, rfl⟩)
            go_ret
            exact ⟨ret_int HE.out.symm, rfl⟩
end Go.Proofs.YtaeaccakkielmaaDoor

/- JoinPath of the reference, walked. -/
set_option linter.unusedVariables false
namespace Go.Proofs.YtaeaccakkielmaaDoor
open Go.RowKit
def accJ (l : List ByteArray) (k : Nat) : ByteArray := mk (joinB ((l.take k).map bs))
theorem joinB_snoc (a : List Bs) (p : Bs) : joinB (a ++ [p]) = joinB a ++ 47 :: p := by unfold joinB; simp
theorem accJ_zero (l : List ByteArray) : accJ l 0 = ⟨#[]⟩ := by simp [accJ, joinB, mk]
theorem accJ_succ {l : List ByteArray} {k : Nat} (h : k < l.length) : accJ l k ++ ⟨#[47]⟩ ++ l[k] = accJ l (k + 1) := by
  unfold accJ
  rw [← List.take_append_getElem h, List.map_append, List.map_singleton, joinB_snoc]
  have e : (⟨#[47]⟩ : ByteArray) = mk [47] := rfl
  rw [e, mk_append]
  conv => lhs; rhs; rw [← mk_bs l[k]]
  rw [mk_append, List.append_assoc]; rfl
theorem accJ_len {l : List ByteArray} {k : Nat} (hk : k ≤ l.length) : (accJ l k).size = 0 ↔ k = 0 := by
  unfold accJ
  rw [mk_size]
  cases k with
  | zero => simp [joinB]
  | succ k =>
    cases l with
    | nil => simp at hk
    | cons p r => simp [joinB]
theorem word_size {p : ByteArray} (h : wordV (bs p) = true) : p.size ≤ 8 := by
  unfold wordV at h
  rw [Bool.and_eq_true, Bool.and_eq_true, decide_eq_true_eq] at h
  have := h.1.1.2
  rw [size_bs] at this; exact this
theorem joinP_long {l : List ByteArray} (h : 3 < l.length) : joinP (l.map bs) = [] := by
  unfold joinP
  rw [if_neg]
  rw [partsV_iff]; simp; omega
theorem joinP_bad {l : List ByteArray} {k : Nat} (hk : k < l.length) (h : wordV (bs l[k]) = false) : joinP (l.map bs) = [] := by
  unfold joinP
  rw [if_neg]
  rw [partsV_iff]
  intro hh
  have := hh.2 (bs l[k]) (List.mem_map.2 ⟨_, List.getElem_mem hk, rfl⟩)
  rw [h] at this; cases this
theorem joinP_good {l : List ByteArray} (h3 : l.length ≤ 3) (h : ∀ j (hj : j < l.length), wordV (bs l[j]) = true) : partsV (l.map bs) = true := by
  rw [partsV_iff]
  refine ⟨by simpa using h3, fun p hp => ?_⟩
  obtain ⟨q, hq, rfl⟩ := List.mem_map.1 hp
  obtain ⟨i, hi, rfl⟩ := List.getElem_of_mem hq
  exact h i hi
theorem joinP_end {l : List ByteArray} (h3 : l.length ≤ 3) (h : ∀ j (hj : j < l.length), wordV (bs l[j]) = true) (hne : 0 < l.length) : mk (joinP (l.map bs)) = accJ l l.length := by
  unfold joinP accJ
  rw [joinP_good h3 h, if_pos rfl, if_neg, List.take_length]
  intro e; rw [List.map_eq_nil_iff] at e; subst e; simp at hne
set_option maxHeartbeats 2000000 in
set_option maxRecDepth 100000 in
theorem sJoinPath_any (A : Option Addr) (c : Nat) (l : List ByteArray) (w : World) (hs : Sl w encS 1 A l) (hl : l.length ≤ 16777216) (hf : ∀ p ∈ l, p.size ≤ 16777216) :
    Calls Tryd.prog 47 #[.slice A l.length c] w fun e w' => e = .returned (.string (mk (joinP (l.map bs)))) ∧ w = w' := by
  have HS := Lib.hid hs
  have HF := Lib.hid hf
  clear hs hf
  by_cases h3 : 3 < l.length
  · have E := Lib.hid (joinP_long h3)
    rw [E.out, mk_nil]
    have h3' : (3 : Int) < (l.length : Int) := by omega
    go_enter Tryd.func47, Tryd.ntmps47
    go_wp2
    go_loop [3, 4] (fun o i => ∃ k : Nat, k < l.length ∧ o = .string ⟨#[]⟩ ∧ i = .int .i64 k) (fun _ _ => 0)
    case atStart => exact ⟨0, by omega, rfl, rfl⟩
    case round =>
      obtain ⟨k, hk, rfl, rfl⟩ := hrel
      obtain ⟨b, o, rfl, hc⟩ := HS.out.getS hk
      have hz := HF.out _ (List.getElem_mem hk)
      generalize l[k] = p at *
      have hW := fun w => sWordValid_any p w hz
      cases hw : wordV (bs p)
      all_goals
        rw [hw] at hW
        have HW := Lib.hid hW
        clear hW hw
        go_wp2_with (go_at_call 63; refine (HW.out _).mono ?_; rintro e w' ⟨rfl, rfl⟩)
        go_ret
        exact ⟨rfl, rfl⟩
  · have h3b : ¬ (3 : Int) < (l.length : Int) := by omega
    have HB := Lib.hid (fun k (hk : k < l.length) h => @joinP_bad l k hk h)
    have HE := Lib.hid (@joinP_end l (by omega))
    generalize hJ : mk (joinP (l.map bs)) = J at *
    have HJ := Lib.hid hJ
    clear hJ
    go_enter Tryd.func47, Tryd.ntmps47
    go_wp2
    go_loop [3, 4] (fun o i => ∃ (k : Nat) (acc : ByteArray), k ≤ l.length ∧ i = .int .i64 k ∧ o = .string acc ∧ acc.size ≤ 9 * k ∧ Hid (acc = accJ l k) ∧ Hid (∀ j (h : j < l.length), j < k → wordV (bs l[j]) = true)) (fun _ i => l.length - (intOf i).toNat)
    case atStart => exact ⟨0, _, Nat.zero_le _, rfl, rfl, by simp [ByteArray.size], (accJ_zero l).symm, fun j h h2 => by omega⟩
    case round =>
      obtain ⟨k, acc, hk, rfl, rfl, hz, HA, HH⟩ := hrel
      by_cases hlt : k < l.length
      · have hst := accJ_succ hlt
        rw [← HA.out] at hst
        obtain ⟨b, o, rfl, hc⟩ := HS.out.getS hlt
        have hzp := HF.out _ (List.getElem_mem hlt)
        have HBk := Lib.hid (fun h => HB.out k hlt h)
        have HSTk := Lib.hid (fun (h : wordV (bs l[k]) = true) => show ∀ j (hj : j < l.length), j < k + 1 → wordV (bs l[j]) = true from fun j hj h2 => by
          by_cases e : j = k
          · subst e; exact h
          · exact HH.out j hj (by omega))
        generalize l[k] = p at *
        have hW := fun w => sWordValid_any p w hzp
        cases hw : wordV (bs p)
        · have HN := Lib.hid (show J = ⟨#[]⟩ by rw [← HJ.out, HBk.out hw]; rfl)
          rw [hw] at hW
          have HW := Lib.hid hW
          clear hW hw hst HSTk HBk
          go_wp2_with (go_at_call 63; refine (HW.out _).mono ?_; rintro e w' ⟨rfl, rfl⟩)
          go_ret
          rw [HN.out]
          exact ⟨rfl, rfl⟩
        · have HN := Lib.hid (HSTk.out hw)
          have hps := word_size hw
          rw [hw] at hW
          have HW := Lib.hid hW
          have HST := Lib.hid hst
          have hq1 : (acc ++ ⟨#[47]⟩).size ≤ 9 * k + 1 := by rw [ByteArray.size_append]; have : (⟨#[47]⟩ : ByteArray).size = 1 := rfl; omega
          have hq2 : (acc ++ ⟨#[47]⟩ ++ p).size ≤ 9 * (k + 1) := by rw [ByteArray.size_append]; omega
          clear hW hw hst HSTk HBk
          go_wp2_with (go_at_call 63; refine (HW.out _).mono ?_; rintro e w' ⟨rfl, rfl⟩)
          go_round
          case rel => exact ⟨k + 1, _, by omega, by go_num, rfl, hq2, HST.out, HN.out⟩
          case measure => simp [intOf]; omega
      · have e : k = l.length := by omega
        have hsz := (accJ_len (l := l) hk)
        rw [← HA.out] at hsz
        by_cases h0 : l.length = 0
        · have hnil : l = [] := List.length_eq_zero_iff.1 h0
          have hacc : acc = ⟨#[]⟩ := by rw [HA.out, e, h0, accJ_zero]
          subst hacc
          have HN := Lib.hid (show J = ⟨#[47]⟩ by rw [← HJ.out, hnil]; rfl)
          clear hsz e hnil
          go_wp2
          go_ret
          rw [HN.out]
          exact ⟨rfl, rfl⟩
        · obtain ⟨hne, hne2⟩ := ne_tl (s := acc) (by have := fun h => h0 (by have := hsz.1 h; omega); omega)
          have HN := Lib.hid (show J = acc by rw [HE.out (fun j hj => HH.out j hj (by omega)) (by omega), HA.out, e])
          clear hsz e
          go_wp2
          go_ret
          rw [HN.out]
          exact ⟨rfl, rfl⟩
end Go.Proofs.YtaeaccakkielmaaDoor

/- Rows of structs: one element written anew; repaired pieces, walked. -/
set_option linter.unusedVariables false
namespace Go.Proofs.YtaeaccakkielmaaDoor
open Go.RowKit

theorem setAll_cells {g : Nat} {E : TypeId} {m : Nat × Nat} : ∀ (us : List Value) (w : World) (j : Nat) (cs : Array Value), w.heap[g]? = some (.cells cs E (0, 0)) →
    ∃ cs' : Array Value, (setAll w g j us).heap[g]? = some (.cells cs' E (0, 0)) ∧ cs'.size = cs.size ∧ ∀ p, cs'[p]? = if j ≤ p ∧ p < j + us.length ∧ p < cs.size then us[p - j]? else cs[p]?
  | [], w, j, cs, h => ⟨cs, h, rfl, fun p => by rw [if_neg]; simp; omega⟩
  | u :: r, w, j, cs, h => by
    obtain ⟨cs', h1, h2, h3⟩ := setAll_cells (m := m) r (w.setCell ⟨g, j, none⟩ u) (j + 1) (cs.setIfInBounds j u) (heap_setCell_same w g j cs E u h)
    refine ⟨cs', h1, by rw [h2]; simp, fun p => ?_⟩
    rw [h3 p]
    simp only [Array.size_setIfInBounds, List.length_cons]
    by_cases hp : p = j
    · subst hp
      rw [if_neg (by omega)]
      by_cases hs : p < cs.size
      · rw [if_pos (by omega)]; simp [hs]
      · rw [if_neg (by omega), Array.getElem?_eq_none (by simp; omega), Array.getElem?_eq_none (by omega)]
    · rw [Array.getElem?_setIfInBounds_ne (by omega)]
      by_cases hh : j + 1 ≤ p ∧ p < j + 1 + r.length ∧ p < cs.size
      · rw [if_pos hh, if_pos (by omega)]
        have e : p - j = p - (j + 1) + 1 := by omega
        rw [e, List.getElem?_cons_succ]
      · rw [if_neg hh, if_neg (by omega)]
/-- Element i of an owned row written anew. -/
theorem Own.setEl {α : Type} {enc : α → List Value} {w : World} {base size : Nat} {E : TypeId} {g n cap : Nat} {l : List α} (h : Own w base E size enc (.slice (some ⟨g, 0, none⟩) n cap) l) (he : ∀ x, (enc x).length = size) (hsz : 0 < size) {i : Nat} (hi : i < l.length) (x : α) :
    Own (setAll w g (i * size) (enc x)) base E size enc (.slice (some ⟨g, 0, none⟩) n cap) (l.set i x) := by
  rcases h.2 with ⟨hv, hn⟩ | ⟨g', cap', cur, hv, hg, hh, hnc, hcm, hs, ht⟩
  · injection hv with e; cases e
  · injection hv with e1 e2 e3
    injection e1 with e1; injection e1 with e1
    subst e1 e2 e3
    obtain ⟨cs', h1, h2, h3⟩ := setAll_cells (m := (0, 0)) (enc x) w (i * size) cur hh
    refine ⟨flat_length he _, .inr ⟨g, cap, cs', by rw [List.length_set], hg, h1, by rw [List.length_set]; exact hnc, hcm, by rw [h2]; exact hs, ?_⟩⟩
    have hlen : (flat enc (l.set i x)).length = l.length * size := by rw [flat_length he, List.length_set]
    have hls : l.length * size ≤ cur.size := by rw [hs]; exact Nat.mul_le_mul_right _ hnc
    have hi2 : i * size + size ≤ l.length * size := by
      have := Nat.mul_le_mul_right size (show i + 1 ≤ l.length from hi)
      rwa [Nat.succ_mul] at this
    have h0 : (flat enc l).length = l.length * size := flat_length he l
    rw [List.length_set]
    apply List.ext_getElem?
    intro p
    by_cases hp : p < l.length * size
    · rw [List.getElem?_take_of_lt hp, Array.getElem?_toList, h3 p, he]
      have hq : p / size < l.length := Nat.div_lt_of_lt_mul (by rwa [Nat.mul_comm] at hp)
      have hdm : p / size * size + p % size = p := by rw [Nat.mul_comm]; exact Nat.div_add_mod p size
      have hms := Nat.mod_lt p hsz
      have hg2 := flat_get he (l.set i x) (p / size) (by rw [List.length_set]; exact hq) (p % size) hms
      rw [hdm] at hg2
      rw [hg2, List.getElem_set]
      by_cases hqi : i = p / size
      · subst hqi
        rw [if_pos rfl, if_pos (by omega)]
        congr 1; omega
      · rw [if_neg hqi, if_neg]
        · have hg3 := flat_get he l (p / size) hq (p % size) hms
          rw [hdm] at hg3
          rw [← hg3]
          have this : (cur.toList.take (l.length * size))[p]? = (flat enc l)[p]? := by rw [ht]
          rw [List.getElem?_take_of_lt hp, Array.getElem?_toList] at this
          exact this
        · intro hh
          apply hqi
          have a1 : i ≤ p / size := (Nat.le_div_iff_mul_le hsz).2 hh.1
          have a2 : p / size < i + 1 := Nat.div_lt_of_lt_mul (by rw [Nat.mul_comm, Nat.succ_mul]; exact hh.2.1)
          omega
    · rw [List.getElem?_eq_none (by simp; omega), List.getElem?_eq_none (by omega)]
theorem Own.free' {α : Type} {enc : α → List Value} {w : World} {base size : Nat} {E : TypeId} {g n cap : Nat} {l : List α} (h : Own w base E size enc (.slice (some ⟨g, 0, none⟩) n cap) l) (j : Nat) : w.frozen? ⟨g, j, none⟩ = false := by
  rcases h.2 with ⟨hv, hn⟩ | ⟨g', cap', cur, hv, hg, hh, hnc, hcm, hs, ht⟩
  · injection hv with e; cases e
  · injection hv with e1
    injection e1 with e1; injection e1 with e1
    subst e1
    exact frozen_of_row w g j cur E hh
/-- An owned row that is not empty: its head. -/
theorem Own.head {α : Type} {enc : α → List Value} {w : World} {base size : Nat} {E : TypeId} {A : Option Addr} {n c : Nat} {l : List α} (h : Own w base E size enc (.slice A n c) l) (hl : 0 < l.length) : ∃ g, A = some ⟨g, 0, none⟩ ∧ base ≤ g ∧ g < w.heap.size := by
  obtain ⟨A', c', e, _, _, hb⟩ := h.sl
  injection e with e1
  rcases hb with ⟨hz, _⟩ | ⟨g, hg, h1, h2⟩
  · subst hz; simp at hl
  · exact ⟨g, e1.trans hg, h1, h2⟩
theorem Own.apartW {α : Type} {enc : α → List Value} {w w' : World} {g base size : Nat} {E : TypeId} {v : Value} {l : List α} (h : Own w base E size enc v l) (ho : Only g w w') (hb : ∀ q, v.ownBlock = some q → q ≠ g) : Own w' base E size enc v l := by
  refine World.ownsRow.kept h (row := some g) ho ?_
  cases hv : v.ownBlock with
  | none => exact .inl rfl
  | some k => right; intro e; injection e with e; exact hb k hv e

/-! ### plain -/
theorem find_take {α : Type} (f : α → Bool) (l : List α) (j : Nat) (h : j < l.length) : (l.take (j + 1)).find? f = ((l.take j).find? f).or (if f l[j] then some l[j] else none) := by
  rw [List.take_succ_eq_append_getElem h, List.find?_append]
  congr 1
  cases h2 : f l[j] <;> simp [h2]
theorem goodCopy_take {p : Int} {copies : List Pc} {j : Nat} (h : j < copies.length) : goodCopy p (copies.take (j + 1)) = (goodCopy p (copies.take j)).or (if copies[j].1 == p && pieceR copies[j] then some copies[j] else none) :=
  find_take _ copies j h
theorem goodCopy_prefix {p : Int} {copies : List Pc} {j : Nat} {q : Pc} (h : goodCopy p (copies.take j) = some q) : goodCopy p copies = some q := by
  unfold goodCopy at *
  have e : copies = copies.take j ++ copies.drop j := (List.take_append_drop _ _).symm
  rw [e, List.find?_append, h]; rfl
theorem repair1_none {copies : List Pc} {p : Pc} (h : pieceR p = false) (hg : goodCopy p.1 copies = none) : repair1 copies p = (p, 0) := by unfold repair1; rw [if_neg (by simp [h]), hg]
theorem repair1_some {copies : List Pc} {p q : Pc} (h : pieceR p = false) (hg : goodCopy p.1 copies = some q) : repair1 copies p = (q, 1) := by unfold repair1; rw [if_neg (by simp [h]), hg]
theorem repairs_len (copies l : List Pc) : (repairs copies l).length = l.length := by simp [repairs]
theorem repairs_take {copies l : List Pc} {k : Nat} (h : k < l.length) : repairs copies (l.take (k + 1)) = repairs copies (l.take k) ++ [(repair1 copies l[k]).1] := by
  unfold repairs; rw [List.take_succ_eq_append_getElem h, List.map_append]; rfl
/-- The row while it is repaired: the first k are, the rest is not. -/
def halfRep (copies l : List Pc) (k : Nat) : List Pc := repairs copies (l.take k) ++ l.drop k
theorem halfRep_len (copies l : List Pc) (k : Nat) : (halfRep copies l k).length = l.length := by unfold halfRep; rw [List.length_append, repairs_len, List.length_take, List.length_drop]; omega
theorem halfRep_at {copies l : List Pc} {k : Nat} (h : k < l.length) : (halfRep copies l k)[k]'(by rw [halfRep_len]; exact h) = l[k] := by
  have hl : (repairs copies (l.take k)).length = k := by rw [repairs_len, List.length_take]; omega
  unfold halfRep
  rw [List.getElem_append_right (by omega), List.getElem_drop]
  congr 1; omega
theorem halfRep_succ {copies l : List Pc} {k : Nat} (h : k < l.length) : halfRep copies l (k + 1) = (halfRep copies l k).set k (repair1 copies l[k]).1 := by
  have hl : (repairs copies (l.take k)).length = k := by rw [repairs_len, List.length_take]; omega
  unfold halfRep
  rw [repairs_take h, List.set_append_right _ _ (by omega), hl, Nat.sub_self]
  have e : l.drop k = l[k] :: l.drop (k + 1) := List.drop_eq_getElem_cons h
  rw [e, List.set_cons_zero, List.append_assoc]; rfl
theorem halfRep_same {copies l : List Pc} {k : Nat} (h : k < l.length) (hr : (repair1 copies l[k]).1 = l[k]) : halfRep copies l (k + 1) = halfRep copies l k := by
  rw [halfRep_succ h, hr]
  apply List.ext_getElem (by simp)
  intro q h1 h2
  rw [List.getElem_set]
  split
  · rename_i e; subst e; exact (halfRep_at h).symm
  · rfl
theorem halfRep_done {copies l : List Pc} {k : Nat} (h : ¬ k < l.length) : halfRep copies l k = repairs copies l := by
  unfold halfRep; rw [List.take_of_length_le (by omega), List.drop_of_length_le (by omega), List.append_nil]
def RepR (l copies : List Pc) (w : World) (e : Ending) (w' : World) : Prop :=
  ∃ v, e = .returned (.tuple #[v, .int .i64 (many copies l)]) ∧ Own w' w.heap.size 58 2 encP v (repairs copies l) ∧ Below w.heap.size w w'

end Go.Proofs.YtaeaccakkielmaaDoor
