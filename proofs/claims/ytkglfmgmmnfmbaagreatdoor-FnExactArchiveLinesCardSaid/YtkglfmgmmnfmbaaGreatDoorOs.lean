/- A slice of strings that came in, told once more, so that the other claims' texts stay as they were built. -/
import Derived.Lib.SmallJoins
import Derived.Test.YtkglfmgmmnfmbaaGreatDoorGa5
import Derived.Test.YtkglfmgmmnfmbaaGreatDoorGa3
import Derived.Test.YtkglfmgmmnfmbaaGreatDoorGa1
set_option linter.unusedVariables false
namespace Go.Proofs.YtkglfmgmmnfmbaaGreatDoor
open Go.ChangeShapes Go.WideShapes Go.ChangeAt Go.RowKit
open Go.ChangeMaps (open_string shut_string)
section
variable {H : Type} {enc : TypeId × Value → H} {W : World} {a : Option Addr} {n c : Nat} {d : DataW H} {p : List MemPlace}
def StrsIn2 (w : World) (A : Option Addr) (n c : Nat) : Prop := ∃ ss : List ByteArray, ss.length = n ∧ n ≤ c ∧ c ≤ maxLen ∧ Sl w encS 1 A ss ∧ ∀ s ∈ ss, s.size ≤ maxLen
theorem openStrs2 (h : DataW.Trod enc Tryz.prog W 0 (fun _ => true) true 37 (.slice a n c) d p) : StrsIn2 W a n c := by
  obtain ⟨fuel, hf⟩ := h
  rcases open_strings Tryz.underlying37 Tryz.underlying9 (by kernel_rfl) hf with ⟨hcs, _⟩ | ⟨x, l, cp, zs, hcs, _, hl, hm, hz, _, hcell, hwz⟩
  · simp [Value.cells] at hcs
    obtain ⟨rfl, rfl, rfl⟩ := hcs
    exact ⟨[], rfl, Nat.le_refl _, by unfold maxLen; omega, Sl.none_, by simp⟩
  · simp [Value.cells] at hcs
    obtain ⟨rfl, rfl, rfl⟩ := hcs
    simp at hz
    refine ⟨zs.take n, by simp; omega, hl, hm, sl_of_add (by omega) (fun _ => rfl) fun j u hu => ?_, fun s hs => hwz s (List.mem_of_mem_take hs)⟩
    have hj : j < n := by
      have := (List.getElem?_eq_some_iff.1 hu).1
      rw [flat_length (size := 1) (fun _ => rfl)] at this
      simp at this; omega
    have hjl : j < (zs.take n).length := by simp; omega
    have hg := flat_get (enc := encS) (size := 1) (fun _ => rfl) _ j hjl 0 (by omega)
    simp only [Nat.mul_one, Nat.add_zero] at hg
    rw [hg] at hu
    simp [encS] at hu
    rw [hcell j (by omega), ← hu, List.getD_eq_getElem?_getD, List.getElem?_eq_getElem (by omega)]
    rfl
end
end Go.Proofs.YtkglfmgmmnfmbaaGreatDoor
