/- '==' and '!=' of structs. -/
import Derived.Test.YthbdcmaloojngaaDoorSt
import Derived.Laws.StructEq
set_option linter.unusedVariables false
namespace Go.Proofs.YthbdcmaloojngaaDoor
open Go.RowKit

end Go.Proofs.YthbdcmaloojngaaDoor
