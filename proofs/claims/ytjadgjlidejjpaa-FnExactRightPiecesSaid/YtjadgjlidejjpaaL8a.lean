/- Copies of slices of numbers. -/
import Derived.Test.YtjadgjlidejjpaaMk
import Derived.Test.YtjadgjlidejjpaaEq
set_option linter.unusedVariables false
namespace Go.Proofs.Ytjadgjlidejjpaa
open Go.RowKit

end Go.Proofs.Ytjadgjlidejjpaa
