/-
  No cell of these rows narrows 'for every input' (looked for: loops, veiled, ifaces, maps, wideKeys, modest, calm, conditions, laid).
  DERIVED. THE GIVEN ROWS OF THIS SEAT. 5 by the template 'for every input the law returns true; each argument reads behind the call as it read before'; 0 by the template 'total and deterministic' (their statements: YthbdcmaloojngaaTotals.lean).
  GIVEN WITH THE SEED: the statements are not yours to turn. If you find one false, say at which input.
  Laid BY PROGRAM, IN A SANDBOX (cutbox-rows.mjs): the forced cells as the released guide's own fill.sh prints them over the translation e03814535213d3df… (all of the seat's roots in one cut). By AI agents, Wed Nov 11 2026. No macro, syntax, notation, axiom, sorry.
-/
import Derived.Test.YthbdcmaloojngaaChecked
import GoSem.Claim
import GoSem.ClaimJoined
import GoSem.ClaimMapViews
import Derived.JoinedTies
import Derived.KernelRfl
namespace Go.Proofs.Ythbdcmaloojngaa
/- THE CELL 'sum', in the pinned program and in every row, IS THE sha256 OF THE DUMP (.gsa) THAT YthbdcmaloojngaaProg.lean LOADS. Nothing in Lean hashes anything: it is a label: what it is worth is what the hold of that sum in a sandbox is worth. -/
noncomputable def Try.pinned : Pinned := { name := "ythbdcmaloojngaa", sum := "e03814535213d3df462747a919b1072388c460acdbe01266b1938689c1e19b4d", checked := Try.checked }
namespace Rows
def none {H : Type} : Left H := { results := [], args := [] }

/-- 'laws.FnClashOf': WHATEVER THE INPUT: true; the input reads as it did. -/
def fnClashOfSpec : ChangeSpec := { name := "fnClashOf", fn := fun _ => fun
  | [d] => { results := [.lit (.bool true)], args := [d] }
  | _ => none }
def fnClashOfRow : OpenClaim := { program := "ythbdcmaloojngaa", sum := "e03814535213d3df462747a919b1072388c460acdbe01266b1938689c1e19b4d", func := "loop.example/proofarchive/laws.FnClashOf", spec := "fnClashOf", apart := false }
def FnClashOfSaid : Prop := fnClashOfRow.holds Try.pinned (OpenSpec.ofChange fnClashOfSpec)

/-- ITS FALSE NEIGHBOUR: 'it returns false'. Refute it at one input. -/
def fnClashOfWrong : ChangeSpec := { name := "fnClashOf", fn := fun _ => fun
  | [d] => { results := [.lit (.bool false)], args := [d] }
  | _ => none }
def FnClashOfWrongFalsely : Prop := fnClashOfRow.holds Try.pinned (OpenSpec.ofChange fnClashOfWrong)

/-- 'laws.FnSpotAlways': WHATEVER THE INPUT: true; the input reads as it did. -/
def fnSpotAlwaysSpec : ChangeSpec := { name := "fnSpotAlways", fn := fun _ => fun
  | [d] => { results := [.lit (.bool true)], args := [d] }
  | _ => none }
def fnSpotAlwaysRow : OpenClaim := { program := "ythbdcmaloojngaa", sum := "e03814535213d3df462747a919b1072388c460acdbe01266b1938689c1e19b4d", func := "loop.example/proofarchive/laws.FnSpotAlways", spec := "fnSpotAlways", apart := false }
def FnSpotAlwaysSaid : Prop := fnSpotAlwaysRow.holds Try.pinned (OpenSpec.ofChange fnSpotAlwaysSpec)

/-- ITS FALSE NEIGHBOUR: 'it returns false'. Refute it at one input. -/
def fnSpotAlwaysWrong : ChangeSpec := { name := "fnSpotAlways", fn := fun _ => fun
  | [d] => { results := [.lit (.bool false)], args := [d] }
  | _ => none }
def FnSpotAlwaysWrongFalsely : Prop := fnSpotAlwaysRow.holds Try.pinned (OpenSpec.ofChange fnSpotAlwaysWrong)

/-- 'laws.FnSpotRoot': WHATEVER THE INPUT: true; the input reads as it did. -/
def fnSpotRootSpec : ChangeSpec := { name := "fnSpotRoot", fn := fun _ => fun
  | [d] => { results := [.lit (.bool true)], args := [d] }
  | _ => none }
def fnSpotRootRow : OpenClaim := { program := "ythbdcmaloojngaa", sum := "e03814535213d3df462747a919b1072388c460acdbe01266b1938689c1e19b4d", func := "loop.example/proofarchive/laws.FnSpotRoot", spec := "fnSpotRoot", apart := false }
def FnSpotRootSaid : Prop := fnSpotRootRow.holds Try.pinned (OpenSpec.ofChange fnSpotRootSpec)

/-- ITS FALSE NEIGHBOUR: 'it returns false'. Refute it at one input. -/
def fnSpotRootWrong : ChangeSpec := { name := "fnSpotRoot", fn := fun _ => fun
  | [d] => { results := [.lit (.bool false)], args := [d] }
  | _ => none }
def FnSpotRootWrongFalsely : Prop := fnSpotRootRow.holds Try.pinned (OpenSpec.ofChange fnSpotRootWrong)

/-- 'laws.FnSpotRight': WHATEVER THE INPUT: true; the input reads as it did. -/
def fnSpotRightSpec : ChangeSpec := { name := "fnSpotRight", fn := fun _ => fun
  | [d] => { results := [.lit (.bool true)], args := [d] }
  | _ => none }
def fnSpotRightRow : OpenClaim := { program := "ythbdcmaloojngaa", sum := "e03814535213d3df462747a919b1072388c460acdbe01266b1938689c1e19b4d", func := "loop.example/proofarchive/laws.FnSpotRight", spec := "fnSpotRight", apart := false }
def FnSpotRightSaid : Prop := fnSpotRightRow.holds Try.pinned (OpenSpec.ofChange fnSpotRightSpec)

/-- ITS FALSE NEIGHBOUR: 'it returns false'. Refute it at one input. -/
def fnSpotRightWrong : ChangeSpec := { name := "fnSpotRight", fn := fun _ => fun
  | [d] => { results := [.lit (.bool false)], args := [d] }
  | _ => none }
def FnSpotRightWrongFalsely : Prop := fnSpotRightRow.holds Try.pinned (OpenSpec.ofChange fnSpotRightWrong)

/-- 'laws.FnSpotAnswer': WHATEVER THE INPUT: true; the input reads as it did. -/
def fnSpotAnswerSpec : ChangeSpec := { name := "fnSpotAnswer", fn := fun _ => fun
  | [d] => { results := [.lit (.bool true)], args := [d] }
  | _ => none }
def fnSpotAnswerRow : OpenClaim := { program := "ythbdcmaloojngaa", sum := "e03814535213d3df462747a919b1072388c460acdbe01266b1938689c1e19b4d", func := "loop.example/proofarchive/laws.FnSpotAnswer", spec := "fnSpotAnswer", apart := false }
def FnSpotAnswerSaid : Prop := fnSpotAnswerRow.holds Try.pinned (OpenSpec.ofChange fnSpotAnswerSpec)

/-- ITS FALSE NEIGHBOUR: 'it returns false'. Refute it at one input. -/
def fnSpotAnswerWrong : ChangeSpec := { name := "fnSpotAnswer", fn := fun _ => fun
  | [d] => { results := [.lit (.bool false)], args := [d] }
  | _ => none }
def FnSpotAnswerWrongFalsely : Prop := fnSpotAnswerRow.holds Try.pinned (OpenSpec.ofChange fnSpotAnswerWrong)

/- THE SECOND FORM. 'bulk': how many values and letters a reading holds, each counted each time it is reached (what is shared counts as often as it is met; a slice's spare places count too). A statement '..UptoSaid' is the law's where the arguments, and the package variables that the reading takes, are together of bulk at most 1048576: NARROWER than '..Said'. Prove '..Said' where nothing that the law and all that it calls make is longer than what came in: it says more and counts as full. Else prove '..UptoSaid'. A law counts once. -/
mutual
def uptoBulk {H : Type} : DataW H → Nat
  | .lit (.string bytes) => bytes.length + 1
  | .lit _ => 1
  | .nil => 1
  | .ptr d => uptoBulk d + 1
  | .slice elems spare => uptoBulkAll elems + uptoBulkAll spare + 1
  | .agg parts => uptoBulkAll parts + 1
  | .iface _ d => uptoBulk d + 1
  | .map entries => uptoBulkEntries entries + 1
  | .held _ => 1
def uptoBulkAll {H : Type} : List (DataW H) → Nat
  | [] => 0
  | d :: r => uptoBulk d + uptoBulkAll r
def uptoBulkEntries {H : Type} : List (Lit × DataW H) → Nat
  | [] => 0
  | x :: r => uptoBulkEntry x + uptoBulkEntries r
def uptoBulkEntry {H : Type} : Lit × DataW H → Nat
  | (.string bytes, d) => bytes.length + uptoBulk d + 1
  | (_, d) => uptoBulk d + 1
 end
def uptoSmall : (H : Type) → List (DataW H) → Bool := fun _ ds => decide (uptoBulkAll ds ≤ 1048576)
def OpenSpec.upto (s : _root_.Go.ChangeSpec) : _root_.Go.OpenSpec := { _root_.Go.OpenSpec.ofChange s with cond := some uptoSmall }

/-- 'laws.FnClashOf', WHERE WHAT IT READS IS OF BULK AT MOST 1048576: true; the input reads as it did. -/
def fnClashOfUptoRow : OpenClaim := { program := "ythbdcmaloojngaa", sum := "e03814535213d3df462747a919b1072388c460acdbe01266b1938689c1e19b4d", func := "loop.example/proofarchive/laws.FnClashOf", spec := "fnClashOf", apart := false, narrowed := true }
def FnClashOfUptoSaid : Prop := fnClashOfUptoRow.holds Try.pinned (OpenSpec.upto fnClashOfSpec)

/-- 'laws.FnSpotAlways', WHERE WHAT IT READS IS OF BULK AT MOST 1048576: true; the input reads as it did. -/
def fnSpotAlwaysUptoRow : OpenClaim := { program := "ythbdcmaloojngaa", sum := "e03814535213d3df462747a919b1072388c460acdbe01266b1938689c1e19b4d", func := "loop.example/proofarchive/laws.FnSpotAlways", spec := "fnSpotAlways", apart := false, narrowed := true }
def FnSpotAlwaysUptoSaid : Prop := fnSpotAlwaysUptoRow.holds Try.pinned (OpenSpec.upto fnSpotAlwaysSpec)

/-- 'laws.FnSpotRoot', WHERE WHAT IT READS IS OF BULK AT MOST 1048576: true; the input reads as it did. -/
def fnSpotRootUptoRow : OpenClaim := { program := "ythbdcmaloojngaa", sum := "e03814535213d3df462747a919b1072388c460acdbe01266b1938689c1e19b4d", func := "loop.example/proofarchive/laws.FnSpotRoot", spec := "fnSpotRoot", apart := false, narrowed := true }
def FnSpotRootUptoSaid : Prop := fnSpotRootUptoRow.holds Try.pinned (OpenSpec.upto fnSpotRootSpec)

/-- 'laws.FnSpotRight', WHERE WHAT IT READS IS OF BULK AT MOST 1048576: true; the input reads as it did. -/
def fnSpotRightUptoRow : OpenClaim := { program := "ythbdcmaloojngaa", sum := "e03814535213d3df462747a919b1072388c460acdbe01266b1938689c1e19b4d", func := "loop.example/proofarchive/laws.FnSpotRight", spec := "fnSpotRight", apart := false, narrowed := true }
def FnSpotRightUptoSaid : Prop := fnSpotRightUptoRow.holds Try.pinned (OpenSpec.upto fnSpotRightSpec)

/-- 'laws.FnSpotAnswer', WHERE WHAT IT READS IS OF BULK AT MOST 1048576: true; the input reads as it did. -/
def fnSpotAnswerUptoRow : OpenClaim := { program := "ythbdcmaloojngaa", sum := "e03814535213d3df462747a919b1072388c460acdbe01266b1938689c1e19b4d", func := "loop.example/proofarchive/laws.FnSpotAnswer", spec := "fnSpotAnswer", apart := false, narrowed := true }
def FnSpotAnswerUptoSaid : Prop := fnSpotAnswerUptoRow.holds Try.pinned (OpenSpec.upto fnSpotAnswerSpec)

end Rows
end Go.Proofs.Ythbdcmaloojngaa
