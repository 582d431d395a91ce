/- A drawn store with a root. -/
import Derived.Test.YtokelopllbaikaaGreatDoorM4
set_option linter.unusedVariables false
namespace Go.Proofs.YtokelopllbaikaaGreatDoor
open Go.RowKit
def RootedRes (w : World) (e : Ending) (w' : World) : Prop :=
  ∃ (v : Value) (l : List Pc) (root : Int), e = .returned (.tuple #[v, .int .i64 root]) ∧ Own w' w.heap.size 38 2 encP v l ∧ StG l ∧ Below w.heap.size w w'
set_option maxHeartbeats 2000000 in
set_option maxRecDepth 100000 in
theorem l20Rooted_any (A : Option Addr) (n c : Nat) (w : World) (hb : BytesIn w A n c) : Calls Tryz.prog 11 #[.slice A n c] w (RootedRes w) := by
  go_enter Tryz.func11, Tryz.ntmps11
  go_wp2_with fail
  refine (l20Where_any _ _ _ _ hb).mono ?_
  rintro e w2 ⟨v, l, root, s, rfl, hown, hg, hs, hb⟩
  have HW := Lib.hid hown
  have HG := Lib.hid hg
  have HB := Lib.hid hb
  clear hown hg hb
  go_wp2
  go_ret2
  exact ⟨_, l, root, rfl, HW.out, HG.out, HB.out⟩
end Go.Proofs.YtokelopllbaikaaGreatDoor
