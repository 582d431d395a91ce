/- Copies of slices of numbers. -/
import Derived.Test.YthbdcmaloojngaaDoorMk
import Derived.Test.YthbdcmaloojngaaDoorEq
set_option linter.unusedVariables false
namespace Go.Proofs.YthbdcmaloojngaaDoor
open Go.RowKit

end Go.Proofs.YthbdcmaloojngaaDoor
