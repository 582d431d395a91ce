/- FnUsedBelow, walked: what is below is not more. -/
import Derived.Test.YtokelopllbaikaaGreatDoorM3
import Derived.Test.YtokelopllbaikaaGreatDoorTo
import Derived.Test.YtokelopllbaikaaGreatDoorGc2
import Derived.Test.YtokelopllbaikaaGreatDoorGa5
set_option linter.unusedVariables false
namespace Go.Proofs.YtokelopllbaikaaGreatDoor
open Go.RowKit
theorem StG.fitP {l : List Pc} (h : StG l) : FitP l := fun q hq => Nat.le_trans (h.fit q hq) (by omega)
theorem slash_bs : bs (⟨#[47]⟩ : ByteArray) = [47] := rfl
end Go.Proofs.YtokelopllbaikaaGreatDoor
