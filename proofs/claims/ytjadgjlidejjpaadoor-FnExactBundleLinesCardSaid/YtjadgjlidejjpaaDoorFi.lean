/- Filters: the plain law, and the walks of the program and of the reference. -/
import Derived.Test.YtjadgjlidejjpaaDoorW1
import Derived.Laws.BitsAllLaws
import Derived.Laws.BitsLemmas
set_option linter.unusedVariables false
namespace Go.Proofs.YtjadgjlidejjpaaDoor
open Go.RowKit

/-! ### the plain law -/
def maskN (P : Nat) : Nat := 2 ^ (P % 30) ||| 2 ^ (P / 30 % 30)
def filtN (l : List Int) : Nat := l.foldl (fun f p => f ||| maskN p.toNat) 0
def fv (f : Int) : Bool := inI f 0 1073741823
def filterOf (l : List Int) : Int := if l.all pv then (filtN l : Int) else -1
def filterHas (f p : Int) : Bool := fv f && pv p && (f.toNat &&& maskN p.toNat == maskN p.toNat)
def filterJoin (a b : Int) : Int := if fv a && fv b then ((a.toNat ||| b.toNat : Nat) : Int) else -1
def filterWanted (f : Int) (l : List Int) : List Int := if fv f && l.all pv then l.filter (fun p => !filterHas f p) else []

theorem fv_iff {n : Int} : fv n = true ↔ 0 ≤ n ∧ n ≤ 1073741823 := by simp [fv, inI]
theorem pow30 {x : Nat} (h : x < 30) : (2 : Nat) ^ x < 2 ^ 30 := Nat.pow_lt_pow_right (by omega) h
theorem maskN_lt (P : Nat) : maskN P < 2 ^ 30 := Nat.or_lt_two_pow (pow30 (Nat.mod_lt _ (by omega))) (pow30 (Nat.mod_lt _ (by omega)))
theorem filtN_from (l : List Int) : ∀ f : Nat, f < 2 ^ 30 → l.foldl (fun f p => f ||| maskN p.toNat) f < 2 ^ 30 ∧ f ||| l.foldl (fun f p => f ||| maskN p.toNat) f = l.foldl (fun f p => f ||| maskN p.toNat) f := by
  induction l with
  | nil => intro f hf; exact ⟨hf, Nat.or_self f⟩
  | cons p r ih =>
    intro f hf
    have h := ih (f ||| maskN p.toNat) (Nat.or_lt_two_pow hf (maskN_lt _))
    refine ⟨h.1, ?_⟩
    simp only [List.foldl_cons]
    have h2 := h.2
    generalize List.foldl (fun f p => f ||| maskN p.toNat) (f ||| maskN p.toNat) r = g at *
    rw [← h2, Nat.or_assoc, ← Nat.or_assoc f f, Nat.or_self]
theorem filtN_lt (l : List Int) : filtN l < 2 ^ 30 := (filtN_from l 0 (by decide)).1
theorem or_and_self (f m : Nat) : (f ||| m) &&& m = m := by
  apply Nat.eq_of_testBit_eq; intro i; simp [Nat.testBit_and, Nat.testBit_or]; intro h; exact .inr h
theorem and_of_or {f m g : Nat} (h : f ||| g = g) (hm : f &&& m = m) : g &&& m = m := by
  apply Nat.eq_of_testBit_eq; intro i
  have h1 := congrArg (fun x => x.testBit i) h
  have h2 := congrArg (fun x => x.testBit i) hm
  simp only [Nat.testBit_and, Nat.testBit_or] at *
  cases hb : m.testBit i <;> simp_all
theorem filtN_has (l : List Int) : ∀ f : Nat, f < 2 ^ 30 → ∀ p ∈ l, l.foldl (fun f p => f ||| maskN p.toNat) f &&& maskN p.toNat = maskN p.toNat := by
  induction l with
  | nil => intro f _ p hp; cases hp
  | cons q r ih =>
    intro f hf p hp
    have hq : f ||| maskN q.toNat < 2 ^ 30 := Nat.or_lt_two_pow hf (maskN_lt _)
    rcases List.mem_cons.1 hp with rfl | hp
    · exact and_of_or (filtN_from r _ hq).2 (or_and_self f _)
    · exact ih _ hq p hp
theorem filtN_snoc (l : List Int) (p : Int) : filtN (l ++ [p]) = filtN l ||| maskN p.toNat := by simp [filtN, List.foldl_append]
theorem has_all {l : List Int} (hl : l.all pv = true) : ∀ p ∈ l, filterHas (filterOf l) p = true := by
  intro p hp
  have hlt := filtN_lt l
  unfold filterHas filterOf
  rw [if_pos hl]
  have h1 : fv (filtN l : Int) = true := fv_iff.2 ⟨by omega, by omega⟩
  rw [h1, List.all_eq_true.1 hl p hp]
  have := filtN_has l 0 (by decide) p hp
  simp only [Bool.and_self, Bool.true_and, beq_iff_eq, Int.toNat_natCast]
  exact this
theorem filterOf_bad {l : List Int} (h : l.all pv = false) : filterOf l = -1 := by unfold filterOf; simp [h]
theorem filterOf_ok {l : List Int} (h : l.all pv = true) : filterOf l = filtN l := by unfold filterOf; simp [h]
theorem filterOf_fv {l : List Int} (h : l.all pv = true) : fv (filterOf l) = true := by
  have := filtN_lt l
  rw [filterOf_ok h]; exact fv_iff.2 ⟨by omega, by omega⟩
theorem filterOf_lt0 {l : List Int} (h : filterOf l < 0) : filterOf l = -1 := by
  cases hl : l.all pv with
  | false => exact filterOf_bad hl
  | true => rw [filterOf_ok hl] at h; omega
theorem filterOf_valid {l : List Int} (h : ¬ filterOf l < 0) : l.all pv = true := by
  cases hl : l.all pv with
  | true => rfl
  | false => exact absurd (by rw [filterOf_bad hl]; omega) h
theorem wanted_of_has {f : Int} {l : List Int} (h : ∀ p ∈ l, filterHas f p = true) : filterWanted f l = [] := by
  unfold filterWanted; split
  · exact List.filter_eq_nil_iff.2 fun p hp => by simp [h p hp]
  · rfl
theorem join_comm (a b : Int) : filterJoin a b = filterJoin b a := by
  unfold filterJoin; rw [Bool.and_comm, Nat.or_comm]
theorem join_facts {a b : Int} (h : ¬ filterJoin a b < 0) : fv a = true ∧ fv b = true ∧ filterJoin (filterJoin a b) a = filterJoin a b ∧ a ≤ filterJoin a b ∧ b ≤ filterJoin a b ∧ filterJoin a b ≤ 1073741823 := by
  by_cases hv : (fv a && fv b) = true
  · have h2 : fv a = true ∧ fv b = true := by simpa using hv
    have e : filterJoin a b = ((a.toNat ||| b.toNat : Nat) : Int) := by unfold filterJoin; rw [if_pos hv]
    have ha := fv_iff.1 h2.1
    have hb := fv_iff.1 h2.2
    have hlt : a.toNat ||| b.toNat < 2 ^ 30 := Nat.or_lt_two_pow (by omega) (by omega)
    have l1 : a.toNat ≤ a.toNat ||| b.toNat := Nat.left_le_or
    have l2 : b.toNat ≤ a.toNat ||| b.toNat := Nat.right_le_or
    refine ⟨h2.1, h2.2, ?_, by rw [e]; omega, by rw [e]; omega, by rw [e]; omega⟩
    rw [e]
    have hf : fv ((a.toNat ||| b.toNat : Nat) : Int) = true := fv_iff.2 ⟨by omega, by omega⟩
    unfold filterJoin
    rw [hf, h2.1, Int.toNat_natCast, Nat.or_assoc, Nat.or_comm b.toNat, ← Nat.or_assoc, Nat.or_self]; rfl
  · exfalso; apply h; unfold filterJoin; rw [if_neg hv]; omega
theorem join_lt0 {a b : Int} (h : filterJoin a b < 0) : filterJoin a b = -1 := by
  unfold filterJoin at h ⊢; split
  · rename_i hv; rw [if_pos hv] at h; omega
  · rfl
theorem has_of_join {f g p : Int} (hf : fv f = true) (hg : fv g = true) (h : filterHas f p = true ∨ filterHas g p = true) : filterHas (filterJoin f g) p = true := by
  have e : filterJoin f g = ((f.toNat ||| g.toNat : Nat) : Int) := by unfold filterJoin; rw [hf, hg]; rfl
  have ha := fv_iff.1 hf
  have hb := fv_iff.1 hg
  have hlt : f.toNat ||| g.toNat < 2 ^ 30 := Nat.or_lt_two_pow (by omega) (by omega)
  have hv : fv (filterJoin f g) = true := by rw [e]; exact fv_iff.2 ⟨by omega, by omega⟩
  have hp : pv p = true := by
    rcases h with h | h <;> · unfold filterHas at h; simp only [Bool.and_eq_true] at h; exact h.1.2
  unfold filterHas
  rw [hv, hp, e, Int.toNat_natCast]
  simp only [Bool.and_self, Bool.true_and, beq_iff_eq]
  rcases h with h | h
  · unfold filterHas at h; simp only [Bool.and_eq_true, beq_iff_eq] at h
    exact and_of_or (by rw [← Nat.or_assoc, Nat.or_self]) h.2
  · unfold filterHas at h; simp only [Bool.and_eq_true, beq_iff_eq] at h
    refine and_of_or ?_ h.2
    rw [Nat.or_comm f.toNat, ← Nat.or_assoc, Nat.or_self]
theorem has_full {f p : Int} (h : filterHas f p = true) : filterHas 1073741823 p = true := by
  have hp : pv p = true := by unfold filterHas at h; simp only [Bool.and_eq_true] at h; exact h.1.2
  have h1 : fv 1073741823 = true := by decide
  unfold filterHas; rw [h1, hp]
  have := maskN_lt p.toNat
  simp only [Bool.and_self, Bool.true_and, beq_iff_eq]
  show 1073741823 &&& maskN p.toNat = maskN p.toNat
  rw [Nat.and_comm]
  have e : (1073741823 : Nat) = 2 ^ 30 - 1 := rfl
  rw [e, Nat.and_two_pow_sub_one_eq_mod, Nat.mod_eq_of_lt this]
theorem has_empty (p : Int) : filterHas 0 p = false := by
  unfold filterHas
  have h : ((0 : Int).toNat &&& maskN p.toNat == maskN p.toNat) = false := by
    rw [show (0 : Int).toNat = 0 from rfl, Nat.zero_and]
    apply beq_eq_false_iff_ne.2
    have : 2 ^ (p.toNat % 30) ≤ maskN p.toNat := Nat.left_le_or
    have := Nat.two_pow_pos (p.toNat % 30)
    omega
  rw [h]; simp
theorem wanted_join {f : Int} {l : List Int} : filterWanted (filterJoin f (filterOf (filterWanted f l))) l = [] := by
  by_cases hv : (fv f && l.all pv) = true
  · have h2 : fv f = true ∧ l.all pv = true := by simpa using hv
    have e : filterWanted f l = l.filter (fun p => !filterHas f p) := by unfold filterWanted; rw [if_pos hv]
    have hx : (filterWanted f l).all pv = true := by
      rw [e, List.all_eq_true]; intro p hp; exact List.all_eq_true.1 h2.2 p (List.mem_filter.1 hp |>.1)
    refine wanted_of_has fun p hp => has_of_join h2.1 (filterOf_fv hx) ?_
    cases hh : filterHas f p with
    | true => exact .inl rfl
    | false => right; exact has_all hx p (by rw [e]; exact List.mem_filter.2 ⟨hp, by simp [hh]⟩)
  · have hf : filterWanted f l = [] := by unfold filterWanted; rw [if_neg hv]
    cases hl : l.all pv with
    | false => unfold filterWanted; simp [hl]
    | true =>
      have hff : fv f = false := by cases h : fv f <;> simp_all
      have : filterJoin f (filterOf (filterWanted f l)) = -1 := by unfold filterJoin; simp [hff]
      rw [this]; unfold filterWanted; rw [if_neg]; simp [fv, inI]

/-! ### bits of int64 -/
theorem ofInt_i64 (a : Nat) (ha : a < 9223372036854775808) : (BitVec.ofInt 64 (a : Int)).toNat = a := by
  rw [BitVec.ofInt_natCast, BitVec.toNat_ofNat]; exact Nat.mod_eq_of_lt (by omega)
theorem i64_and_nat (a b : Nat) (ha : a < 9223372036854775808) (hb : b < 9223372036854775808) : bits .and .i64 (a : Int) (b : Int) = ((a &&& b : Nat) : Int) := by
  have hx : a &&& b < 2 ^ 63 := Nat.and_lt_two_pow _ (by omega)
  show IntKind.i64.wrap ((BitVec.ofInt 64 (a : Int) &&& BitVec.ofInt 64 (b : Int)).toNat : Int) = _
  rw [BitVec.toNat_and, ofInt_i64 a ha, ofInt_i64 b hb, IntKind.wrap_i64]
  omega
theorem i64_or_nat (a b : Nat) (ha : a < 9223372036854775808) (hb : b < 9223372036854775808) : bits .or .i64 (a : Int) (b : Int) = ((a ||| b : Nat) : Int) := by
  have hx : a ||| b < 2 ^ 63 := Nat.or_lt_two_pow (by omega) (by omega)
  show IntKind.i64.wrap ((BitVec.ofInt 64 (a : Int) ||| BitVec.ofInt 64 (b : Int)).toNat : Int) = _
  rw [BitVec.toNat_or, ofInt_i64 a ha, ofInt_i64 b hb, IntKind.wrap_i64]
  omega
theorem or_pows {x y : Nat} (hx : x < 30) (hy : y < 30) : bits .or .i64 (wrap64 (2 ^ x)) (wrap64 (2 ^ y)) = ((2 ^ x ||| 2 ^ y : Nat) : Int) := by
  have h1 := pow30 hx
  have h2 := pow30 hy
  have p1 : ((2 : Int) ^ x) = ((2 ^ x : Nat) : Int) := by simp
  have p2 : ((2 : Int) ^ y) = ((2 ^ y : Nat) : Int) := by simp
  rw [p1, p2]
  generalize (2 ^ x : Nat) = X at *
  generalize (2 ^ y : Nat) = Y at *
  have e1 : wrap64 (X : Int) = X := IntWalk.wrap64_in _ (by omega)
  have e2 : wrap64 (Y : Int) = Y := IntWalk.wrap64_in _ (by omega)
  rw [e1, e2, i64_or_nat _ _ (by omega) (by omega)]

/-! ### the walks -/
theorem all_take_succ {α : Type} {p : α → Bool} {l : List α} {k : Nat} (hk : k < l.length) (h : (l.take k).all p = true) (hx : p l[k] = true) : (l.take (k + 1)).all p = true := by
  rw [List.take_succ_eq_append_getElem hk, List.all_append, h]; simp [hx]
theorem all_of_take {α : Type} {p : α → Bool} {l : List α} {k : Nat} (hk : ¬ k < l.length) (h : (l.take k).all p = true) : l.all p = true := by
  rwa [List.take_of_length_le (by omega)] at h
theorem all_bad {α : Type} {p : α → Bool} {l : List α} {k : Nat} (hk : k < l.length) (h : p l[k] = false) : l.all p = false := by
  rw [List.all_eq_false]; exact ⟨l[k], by simp, by simp [h]⟩

theorem filtN_take {l : List Int} {k : Nat} (hk : k < l.length) : filtN (l.take (k + 1)) = filtN (l.take k) ||| maskN l[k].toNat := by
  rw [List.take_succ_eq_append_getElem hk, filtN_snoc]
end Go.Proofs.YtjadgjlidejjpaaDoor
