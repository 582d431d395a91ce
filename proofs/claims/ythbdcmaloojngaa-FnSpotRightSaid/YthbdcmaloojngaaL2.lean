/- Laws' walks: FnSpotOf, FnFilterJoin, FnFilterHas, FnFilterOf, FnFilterWanted. -/
import Derived.Test.YthbdcmaloojngaaDr2
import Derived.Test.YthbdcmaloojngaaL1
set_option linter.unusedVariables false
namespace Go.Proofs.Ythbdcmaloojngaa
open Go.RowKit

def Two (lo1 hi1 lo2 hi2 : Int) (w : World) (e : Ending) (w' : World) : Prop :=
  ∃ a b : Int, e = .returned (.tuple #[.int .i64 a, .int .i64 b]) ∧ lo1 ≤ a ∧ a ≤ hi1 ∧ lo2 ≤ b ∧ b ≤ hi2 ∧ Below w.heap.size w w'
/-- A drawn list of numbers in new memory. -/
def DrawnInts (w : World) (e : Ending) (w' : World) : Prop :=
  ∃ (v : Value) (l : List Int), e = .returned v ∧ Own w' w.heap.size 3 1 encI v l ∧ l.length ≤ 10 ∧ Below w.heap.size w w'
def DrawnIntInts (w : World) (e : Ending) (w' : World) : Prop :=
  ∃ (f : Int) (v : Value) (l : List Int), e = .returned (.tuple #[.int .i64 f, v]) ∧ Own w' w.heap.size 3 1 encI v l ∧ l.length ≤ 10 ∧ Below w.heap.size w w'
/-! ### the laws -/
theorem spotOf_facts {seed many : Int} (h : ¬ spotOf seed many < 0) : pv seed = true ∧ 1 ≤ many ∧ many ≤ 16 ∧ spotOf seed many < many ∧ spotOf seed 1 = 0 := by
  by_cases hv : (pv seed && inI many 1 16) = true
  · have h2 : pv seed = true ∧ inI many 1 16 = true := by simpa using hv
    have hm : 1 ≤ many ∧ many ≤ 16 := by simpa [inI] using h2.2
    have e : spotOf seed many = prPair seed 17 % many := by unfold spotOf; rw [if_pos hv]
    have e1 : spotOf seed 1 = prPair seed 17 % 1 := by unfold spotOf; rw [if_pos]; rw [h2.1]; rfl
    exact ⟨h2.1, hm.1, hm.2, by rw [e]; exact Int.emod_lt_of_pos _ (by omega), by rw [e1]; omega⟩
  · exfalso; apply h; unfold spotOf; rw [if_neg hv]; omega
theorem spotOf_lt0 {seed many : Int} (h : spotOf seed many < 0) : spotOf seed many = -1 := by
  by_cases hv : (pv seed && inI many 1 16) = true
  · have h2 : pv seed = true ∧ inI many 1 16 = true := by simpa using hv
    have hm : 1 ≤ many ∧ many ≤ 16 := by simpa [inI] using h2.2
    have e : spotOf seed many = prPair seed 17 % many := by unfold spotOf; rw [if_pos hv]
    have := Int.emod_nonneg (prPair seed 17) (show many ≠ 0 by omega)
    omega
  · unfold spotOf; rw [if_neg hv]

end Go.Proofs.Ythbdcmaloojngaa
