/- Copies of slices of numbers. -/
import Derived.Test.YtkglfmgmmnfmbaaGreatDoorGa5
import Derived.Test.YtkglfmgmmnfmbaaGreatDoorGa3
set_option linter.unusedVariables false
namespace Go.Proofs.YtkglfmgmmnfmbaaGreatDoor
open Go.RowKit

end Go.Proofs.YtkglfmgmmnfmbaaGreatDoor
