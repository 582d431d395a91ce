/- Arguments that came in, opened: structs by value, slices of strings, numbers, structs. -/
import Derived.Test.YtedcgbmdfmgcgaaGreatDoorOpen
import Derived.Lib.SmallJoins
import Derived.Test.YtedcgbmdfmgcgaaGreatDoorGa1
set_option linter.unusedVariables false
namespace Go.Proofs.YtedcgbmdfmgcgaaGreatDoor
open Go.ChangeShapes Go.WideShapes Go.ChangeAt Go.RowKit
open Go.ChangeMaps (open_string shut_string)
section
variable {H : Type} {enc : TypeId × Value → H} {W : World} {a : Option Addr} {n c : Nat} {d : DataW H} {p : List MemPlace}


theorem openInts (h : DataW.Trod enc Tryz.prog W 0 (fun _ => true) true 105 (.slice a n c) d p) : IntsIn W a n c := by
  obtain ⟨fuel, hf⟩ := h
  rcases open_ints Tryz.underlying105 Tryz.underlying3 (by kernel_rfl) hf with ⟨hcs, _⟩ | ⟨x, l, cp, zs, hcs, _, hl, hm, hz, _, hcell, hwz⟩
  · simp [Value.cells] at hcs
    obtain ⟨rfl, rfl, rfl⟩ := hcs
    exact ⟨[], rfl, Nat.le_refl _, by unfold maxLen; omega, Sl.none_⟩
  · simp [Value.cells] at hcs
    obtain ⟨rfl, rfl, rfl⟩ := hcs
    simp at hz
    refine ⟨zs.take n, by simp; omega, hl, hm, sl_of_add (by omega) (fun _ => rfl) fun j u hu => ?_⟩
    have hj : j < n := by
      have := (List.getElem?_eq_some_iff.1 hu).1
      rw [flat_length (size := 1) (fun _ => rfl)] at this
      simp at this; omega
    have hjl : j < (zs.take n).length := by simp; omega
    have hg := flat_get (enc := encI) (size := 1) (fun _ => rfl) _ j hjl 0 (by omega)
    simp only [Nat.mul_one, Nat.add_zero] at hg
    rw [hg] at hu
    simp [encI] at hu
    rw [hcell j (by omega), ← hu, List.getD_eq_getElem?_getD, List.getElem?_eq_getElem (by omega)]
    rfl
theorem openStrs (h : DataW.Trod enc Tryz.prog W 0 (fun _ => true) true 33 (.slice a n c) d p) : StrsIn W a n c := by
  obtain ⟨fuel, hf⟩ := h
  rcases open_strings Tryz.underlying33 Tryz.underlying9 (by kernel_rfl) hf with ⟨hcs, _⟩ | ⟨x, l, cp, zs, hcs, _, hl, hm, hz, _, hcell, hwz⟩
  · simp [Value.cells] at hcs
    obtain ⟨rfl, rfl, rfl⟩ := hcs
    exact ⟨[], rfl, Nat.le_refl _, by unfold maxLen; omega, Sl.none_, by simp⟩
  · simp [Value.cells] at hcs
    obtain ⟨rfl, rfl, rfl⟩ := hcs
    simp at hz
    refine ⟨zs.take n, by simp; omega, hl, hm, sl_of_add (by omega) (fun _ => rfl) fun j u hu => ?_, fun s hs => hwz s (List.mem_of_mem_take hs)⟩
    have hj : j < n := by
      have := (List.getElem?_eq_some_iff.1 hu).1
      rw [flat_length (size := 1) (fun _ => rfl)] at this
      simp at this; omega
    have hjl : j < (zs.take n).length := by simp; omega
    have hg := flat_get (enc := encS) (size := 1) (fun _ => rfl) _ j hjl 0 (by omega)
    simp only [Nat.mul_one, Nat.add_zero] at hg
    rw [hg] at hu
    simp [encS] at hu
    rw [hcell j (by omega), ← hu, List.getD_eq_getElem?_getD, List.getElem?_eq_getElem (by omega)]
    rfl
end
end Go.Proofs.YtedcgbmdfmgcgaaGreatDoor
