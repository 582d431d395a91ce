/- FnBundleLines, walked: bundles can be read. -/
import Derived.Test.YtkglfmgmmnfmbaaDoorGc3
import Derived.Test.YtkglfmgmmnfmbaaDoorRc
import Derived.Test.YtkglfmgmmnfmbaaDoorGa3
import Derived.Test.YtkglfmgmmnfmbaaDoorSm
set_option linter.unusedVariables false
namespace Go.Proofs.YtkglfmgmmnfmbaaDoor
open Go.RowKit
theorem lineOf_size {l : List Pc} (h : ∀ q ∈ l, q.2.size ≤ 60) : ∀ x ∈ bundL l, x.size ≤ 67 := fun x hx => by
  unfold bundL at hx
  split at hx
  · obtain ⟨q, hq, rfl⟩ := List.mem_map.1 hx
    have h1 := h q hq
    have h2 := hexT_len q.1
    have h3 := lineOf_bs q
    have h4 := congrArg List.length h3
    rw [size_bs, List.length_append, List.length_cons] at h4
    have h5 : (tx q.2).length = q.2.size := size_bs q.2
    omega
  · cases hx
end Go.Proofs.YtkglfmgmmnfmbaaDoor
