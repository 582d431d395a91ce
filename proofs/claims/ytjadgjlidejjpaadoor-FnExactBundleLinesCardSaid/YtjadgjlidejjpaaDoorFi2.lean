/- Filters: FilterHas, FilterJoin, FilterWanted; drawn prints and filters. -/
import Derived.Test.YtjadgjlidejjpaaDoorFi
import Derived.Test.YtjadgjlidejjpaaDoorDr1
set_option linter.unusedVariables false
namespace Go.Proofs.YtjadgjlidejjpaaDoor
open Go.RowKit

theorem has_nat {F : Nat} {p : Int} (hf : fv (F : Int) = true) (hp : pv p = true) : filterHas (F : Int) p = (((F &&& maskN p.toNat : Nat) : Int) == ((maskN p.toNat : Nat) : Int)) := by
  unfold filterHas; rw [hf, hp, Int.toNat_natCast]
  simp only [Bool.and_self, Bool.true_and]
  rw [Bool.eq_iff_iff]; simp only [beq_iff_eq]; omega
theorem has_badf {f p : Int} (hf : fv f = false) : filterHas f p = false := by unfold filterHas; simp [hf]
theorem has_badp {f p : Int} (hp : pv p = false) : filterHas f p = false := by unfold filterHas; simp [hp]

theorem join_bad {a b : Int} (h : fv a = false ∨ fv b = false) : filterJoin a b = -1 := by
  unfold filterJoin; rcases h with h | h <;> simp [h]
theorem join_nat {F G : Nat} (hf : fv (F : Int) = true) (hg : fv (G : Int) = true) : filterJoin F G = ((F ||| G : Nat) : Int) := by
  unfold filterJoin; rw [hf, hg]; rfl
theorem wanted_bad {f : Int} {l : List Int} (h : fv f = false ∨ l.all pv = false) : filterWanted f l = [] := by
  unfold filterWanted; rcases h with h | h <;> simp [h]
theorem wanted_ok {f : Int} {l : List Int} (hf : fv f = true) (hl : l.all pv = true) : filterWanted f l = l.filter (fun p => !filterHas f p) := by
  unfold filterWanted; simp [hf, hl]
theorem filter_take_yes {α : Type} {p : α → Bool} {l : List α} {k : Nat} (hk : k < l.length) (h : p l[k] = true) : (l.take (k + 1)).filter p = (l.take k).filter p ++ [l[k]] := by
  rw [List.take_succ_eq_append_getElem hk, List.filter_append]; simp [h]
theorem filter_take_no {α : Type} {p : α → Bool} {l : List α} {k : Nat} (hk : k < l.length) (h : p l[k] = false) : (l.take (k + 1)).filter p = (l.take k).filter p := by
  rw [List.take_succ_eq_append_getElem hk, List.filter_append]; simp [h]
end Go.Proofs.YtjadgjlidejjpaaDoor
