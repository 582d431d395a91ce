/- DrawArchiveValid; FnArchiveValid, walked: archives have an open root. -/
import Derived.Test.YtkglfmgmmnfmbaaGreatDoorLr
import Derived.Test.YtkglfmgmmnfmbaaGreatDoorGc0
import Derived.Test.YtkglfmgmmnfmbaaGreatDoorGc1
import Derived.Test.YtkglfmgmmnfmbaaGreatDoorGc3
import Derived.Test.YtkglfmgmmnfmbaaGreatDoorGa5
set_option linter.unusedVariables false
namespace Go.Proofs.YtkglfmgmmnfmbaaGreatDoor
open Go.RowKit
theorem BytesIn.al {w : World} {A : Option Addr} {n c : Nat} (h : BytesIn w A n c) (o : Obj) : BytesIn (w.alloc o) A n c := by
  obtain ⟨l, h1, h2, h3, h4⟩ := h
  exact ⟨l, h1, h2, h3, h4.alloc o⟩
theorem ArOk.fit {a : Ar} (h : ArOk a) : FitP a.ps := fun q hq => Nat.le_trans (h.fitP q hq) (by omega)
end Go.Proofs.YtkglfmgmmnfmbaaGreatDoor
