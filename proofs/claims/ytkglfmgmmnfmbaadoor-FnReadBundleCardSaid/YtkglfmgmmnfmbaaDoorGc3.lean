/- Texts in one: Ze, Fd, M1. -/
import Derived.Test.YtkglfmgmmnfmbaaDoorGa2
import Derived.Test.YtkglfmgmmnfmbaaDoorGa6
import Derived.Test.YtkglfmgmmnfmbaaDoorGa7
import Derived.Test.YtkglfmgmmnfmbaaDoorS4
import Derived.Test.YtkglfmgmmnfmbaaDoorGb7
import Derived.Test.YtkglfmgmmnfmbaaDoorGa5
/- The program's ways through folders, step by step: from the root down, and from the last one up. Plain Lean, no program in sight. -/
set_option linter.unusedVariables false
namespace Go.Proofs.YtkglfmgmmnfmbaaDoor
/-! ### down -/
/-! ### up -/
end Go.Proofs.YtkglfmgmmnfmbaaDoor

/- Rows of rows of entries: what the program keeps of the folders on its way. -/
set_option linter.unusedVariables false
namespace Go.Proofs.YtkglfmgmmnfmbaaDoor
open Go.RowKit
end Go.Proofs.YtkglfmgmmnfmbaaDoor

/- FnBundlePrint, walked: prints of stores go on. -/
set_option linter.unusedVariables false
namespace Go.Proofs.YtkglfmgmmnfmbaaDoor
open Go.RowKit
theorem StOk.fitP {n : Int} {l : List Pc} {root : Int} (h : StOk n l root) : FitP l := fun q hq => Nat.le_trans (h.fit q hq) (by omega)
end Go.Proofs.YtkglfmgmmnfmbaaDoor
