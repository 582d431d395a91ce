/- Damaged pieces, walked. -/
import Derived.Test.YtjadgjlidejjpaaDoorRp
import Derived.Test.YtjadgjlidejjpaaDoorAp
set_option linter.unusedVariables false
namespace Go.Proofs.YtjadgjlidejjpaaDoor
open Go.RowKit

def FitP (l : List Pc) : Prop := ∀ p ∈ l, p.2.size ≤ 16777216
theorem FitP.at {l : List Pc} (h : FitP l) {k : Nat} (hk : k < l.length) : l[k].2.size ≤ 16777216 := h _ (by simp)

end Go.Proofs.YtjadgjlidejjpaaDoor
