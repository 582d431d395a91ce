/- Laws' walks: FnExactSpotOf, FnExactFoldName, FnFoldName. -/
import Derived.Test.YtjadgjlidejjpaaDoorW2
import Derived.Test.YtjadgjlidejjpaaDoorDr1
set_option linter.unusedVariables false
namespace Go.Proofs.YtjadgjlidejjpaaDoor
open Go.RowKit
attribute [local go_sem] mk_toList

/-- A law's end: true, and nothing that was there has turned. -/
def LawOk (w : World) (e : Ending) (w' : World) : Prop := e = .returned (.bool true) ∧ Below w.heap.size w w'

/-! ### spots -/
def spotOf (seed many : Int) : Int := if pv seed && inI many 1 16 then prPair seed 17 % many else -1
/-! ### folded names -/
theorem foldName_facts (s : Bs) : foldName (foldName s) = foldName s ∧ (foldName s ≠ [] → (foldName s).length = s.length) := by
  by_cases h : 1 ≤ s.length ∧ s.length ≤ 8 ∧ s.all fineC = true
  · have e : foldName s = s.map foldC := by unfold foldName; rw [if_pos h]
    have hff : ∀ c, fineC c = true → foldC (foldC c) = foldC c ∧ fineC (foldC c) = true := by
      intro c hc
      have h2 : foldC (foldC c) = foldC c := by
        refine foldC_same ?_
        unfold fineC smallC digitC inI at hc
        simp at hc; omega
      refine ⟨h2, ?_⟩
      unfold fineC at hc ⊢
      rw [h2]; exact hc
    have hall := List.all_eq_true.1 h.2.2
    refine ⟨?_, fun _ => by rw [e]; simp⟩
    rw [e]
    have h3 : 1 ≤ (s.map foldC).length ∧ (s.map foldC).length ≤ 8 ∧ (s.map foldC).all fineC = true := by
      refine ⟨by simpa using h.1, by simpa using h.2.1, ?_⟩
      rw [List.all_eq_true]; intro c hc
      obtain ⟨d, hd, rfl⟩ := List.mem_map.1 hc
      exact (hff d (hall d hd)).2
    have e2 : foldName (s.map foldC) = (s.map foldC).map foldC := by unfold foldName; rw [if_pos h3]
    rw [e2, List.map_map]
    refine List.map_congr_left fun c hc => ?_
    exact (hff c (hall c hc)).1
  · have e : foldName s = [] := by unfold foldName; rw [if_neg h]
    rw [e]
    exact ⟨rfl, fun h => absurd rfl h⟩

theorem foldName_le (s : Bs) : (foldName s).length ≤ 8 := by
  unfold foldName; split
  · rename_i h; simpa using h.2.1
  · simp

end Go.Proofs.YtjadgjlidejjpaaDoor
