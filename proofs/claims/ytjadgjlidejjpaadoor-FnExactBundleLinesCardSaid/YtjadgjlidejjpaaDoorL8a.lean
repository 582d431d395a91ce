/- Copies of slices of numbers. -/
import Derived.Test.YtjadgjlidejjpaaDoorMk
import Derived.Test.YtjadgjlidejjpaaDoorEq
set_option linter.unusedVariables false
namespace Go.Proofs.YtjadgjlidejjpaaDoor
open Go.RowKit

end Go.Proofs.YtjadgjlidejjpaaDoor
