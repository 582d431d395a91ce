/- Arguments that came in: slices of structs. -/
import Derived.Test.YtedcgbmdfmgcgaaGreatDoorOpen2
import Derived.Deep.Slices
import Derived.DataReads
set_option linter.unusedVariables false
namespace Go.Proofs.YtedcgbmdfmgcgaaGreatDoor
open Go.ChangeShapes Go.WideShapes Go.ChangeAt Go.RowKit
open Go.ChangeMaps (open_string shut_string)

theorem list_of {α : Type} {P : Nat → α → Prop} : ∀ n : Nat, (∀ i, i < n → ∃ x, P i x) → ∃ l : List α, l.length = n ∧ ∀ i x, l[i]? = some x → P i x
  | 0, _ => ⟨[], rfl, fun i x h => by simp at h⟩
  | n + 1, h => by
    obtain ⟨l, hl, hp⟩ := list_of n (fun i hi => h i (by omega))
    obtain ⟨y, hy⟩ := h n (by omega)
    refine ⟨l ++ [y], by simp [hl], fun i x hx => ?_⟩
    rw [List.getElem?_append] at hx
    split at hx
    · exact hp i x hx
    · rename_i hi
      have hlt := (List.getElem?_eq_some_iff.1 hx).1
      simp at hlt
      have e : i = n := by omega
      subst e
      rw [hl, Nat.sub_self] at hx
      simp at hx; subst hx; exact hy
section
variable {H : Type} {enc : TypeId × Value → H} {W : World} {a : Option Addr} {n c : Nat} {d : DataW H} {p : List MemPlace}
/-- Each element of a slice that came in, read by 'read'. -/
theorem rows_open {α : Type} {t e : TypeId} {fs : Array Field} (ht : Tryz.prog.underlying t = some (.slice e)) (he : Tryz.prog.underlying e = some (.struct fs)) (encA : α → List Value) (size : Nat) (good : α → Prop)
    (hC : Tryz.prog.cellsOf e = size) (hsz : 0 < size) (hlen : ∀ x, (encA x).length = size)
    (read : ∀ (cs : List Value) (q : Nat) (xs : List (DataW H × List MemPlace)), cs.length = size → xs.length = fs.size → (∀ (i : Nat) (f : Field), fs[i]? = some f → DataW.trod enc Tryz.prog W 0 (fun _ => true) true q f.type ((cs.drop f.offset).take (Tryz.prog.cellsOf f.type)) = xs[i]?) → ∃ x, good x ∧ cs = encA x)
    (h : DataW.Trod enc Tryz.prog W 0 (fun _ => true) true t (.slice a n c) d p) :
    ∃ l : List α, l.length = n ∧ n ≤ c ∧ c ≤ maxLen ∧ Sl W encA size a l ∧ ∀ x ∈ l, good x := by
  obtain ⟨fuel, hf⟩ := h
  rcases Go.Deep.open_slice ht hf with ⟨hcs, _⟩ | ⟨ad, len, cap, m, q, D, Pl, hcs, _, hl, hm, hmm, _, hel⟩
  · simp [Value.cells] at hcs
    obtain ⟨rfl, rfl, rfl⟩ := hcs
    exact ⟨[], rfl, Nat.le_refl _, by unfold maxLen; omega, Sl.none_, by simp⟩
  · simp [Value.cells] at hcs
    obtain ⟨rfl, rfl, rfl⟩ := hcs
    simp at hmm
    obtain ⟨l, hll, hp⟩ := list_of (P := fun i x => good x ∧ ∀ j u, (encA x)[j]? = some u → W.cell? (ad.add (i * size + j)) = some u) n (fun i hi => by
      obtain ⟨cs', hc, ht'⟩ := hel i (by omega)
      rw [hC] at hc
      obtain ⟨_, hcl, hat⟩ := World.cells?_some hc
      obtain ⟨xs, n', _, _, _, hxl, hfl⟩ := DataW.trod_struct he ht'
      obtain ⟨x, hg, rfl⟩ := read cs' n' xs hcl hxl hfl
      refine ⟨x, hg, fun j u hu => ?_⟩
      have hj : j < size := by rw [← hlen x]; exact (List.getElem?_eq_some_iff.1 hu).1
      rw [← Go.Deep.add_add, hat j hj, hu])
    refine ⟨l, hll, hl, hm, sl_of_add hsz hlen fun j u hu => ?_, fun x hx => ?_⟩
    · have hj : j < l.length * size := by
        have := (List.getElem?_eq_some_iff.1 hu).1
        rwa [flat_length hlen] at this
      have hq : j / size < l.length := Nat.div_lt_of_lt_mul (by rwa [Nat.mul_comm] at hj)
      have hdm := Nat.div_add_mod j size
      have hms := Nat.mod_lt j hsz
      have hg := flat_get hlen l (j / size) hq (j % size) hms
      have e : j / size * size + j % size = j := by rw [Nat.mul_comm]; exact hdm
      rw [e] at hg
      rw [hg] at hu
      have := (hp (j / size) l[j / size] (List.getElem?_eq_getElem hq)).2 (j % size) u hu
      rwa [e] at this
    · obtain ⟨i, hi, rfl⟩ := List.getElem_of_mem hx
      exact (hp i _ (List.getElem?_eq_getElem hi)).1
end
end Go.Proofs.YtedcgbmdfmgcgaaGreatDoor
