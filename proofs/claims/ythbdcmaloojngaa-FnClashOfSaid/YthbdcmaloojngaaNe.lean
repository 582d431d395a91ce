/- '==' and '!=' of structs. -/
import Derived.Test.YthbdcmaloojngaaSt
import Derived.Laws.StructEq
set_option linter.unusedVariables false
namespace Go.Proofs.Ythbdcmaloojngaa
open Go.RowKit

end Go.Proofs.Ythbdcmaloojngaa
