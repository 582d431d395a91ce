/- Closed facts on the translation's head line, which is long: its words are read off a list of numbers, once; and the facts on the whole program, each by itself. -/
import Derived.Test.YtokelopllbaikaaGreatDoorRows
import Derived.JoinedOf
import Derived.KernelRfl
set_option linter.unusedVariables false
namespace Go.Proofs.YtokelopllbaikaaGreatDoor
open Go
def headNums : List Nat := [104, 97, 114, 110, 101, 115, 115, 32, 48, 57, 100, 101, 100, 48, 100, 52, 98, 51, 100, 56, 52, 51, 99, 50, 53, 49, 53, 55, 57, 48, 53, 100, 98, 53, 54, 57, 48, 100, 100, 51, 52, 56, 50, 98, 48, 102, 101, 51, 57, 57, 49, 49, 51, 50, 97, 97, 53, 101, 48, 101, 57, 99, 50, 53, 98, 50, 54, 54, 55, 102, 98, 48, 32, 99, 117, 116, 32, 97, 116, 32, 108, 111, 111, 112, 46, 101, 120, 97, 109, 112, 108, 101, 47, 112, 114, 111, 111, 102, 97, 114, 99, 104, 105, 118, 101, 47, 108, 97, 119, 115, 46, 70, 110, 84, 111, 116, 97, 108, 83, 105, 122, 101]
def headChars : List Char := headNums.map Char.ofNat
set_option maxRecDepth 1000000 in
theorem head_of : Tryz.prog.initOrder = String.ofList headChars := by kernel_rfl
theorem head_list : Tryz.prog.initOrder.toList = headChars := by rw [head_of, String.toList_ofList]
set_option maxRecDepth 1000000 in
theorem words_head : ((behindMainWord (wordsSigns headChars)).head? == some "cut".toList) = true := by kernel_rfl
theorem words_of : ∃ tl, behindMainWord (wordsSigns headChars) = "cut".toList :: tl := by
  have h := words_head
  cases hw : behindMainWord (wordsSigns headChars) with
  | nil => rw [hw] at h; cases h
  | cons c tl => rw [hw] at h; refine ⟨tl, ?_⟩; rw [List.head?_cons] at h; have := (beq_iff_eq.1 h); injection this with e; rw [e]
theorem strip_cut (tl : List (List Char)) : stripLifts liftWords ("cut".toList :: tl) = ([], "cut".toList :: tl) := by
  simp [liftWords, stripLifts]
theorem make_of (P : Program) (tl : List (List Char)) (h : behindMainWord (wordsSigns P.initOrder.toList) = "cut".toList :: tl) : P.make = some .cut := by
  unfold Program.make; rw [h]; simp
theorem lifts_of (P : Program) (tl : List (List Char)) (h : behindMainWord (wordsSigns P.initOrder.toList) = "cut".toList :: tl) : P.liftsFinal = false := by
  unfold Program.liftsFinal Program.headLifts; rw [h, strip_cut]; simp
theorem may_of (P : Program) (tl : List (List Char)) (h : behindMainWord (wordsSigns P.initOrder.toList) = "cut".toList :: tl) (h1 : P.laysLater = false) (h2 : P.bearsReflect = false) (h3 : P.doorFits [] = true) : P.mayEnter = true := by
  unfold Program.mayEnter; rw [h]; simp only [strip_cut, h1, h2, h3]; simp
theorem lat : Tryz.prog.laysLater = false := by kernel_rfl
theorem refl_ : Tryz.prog.bearsReflect = false := by kernel_rfl
theorem door : Tryz.prog.doorFits [] = true := by kernel_rfl
theorem words_prog : ∃ tl, behindMainWord (wordsSigns Tryz.prog.initOrder.toList) = "cut".toList :: tl := by
  rw [head_list]; exact words_of
theorem mke : Tryz.prog.make = some .cut := words_prog.elim fun tl h => make_of _ tl h
theorem lfts : Tryz.prog.liftsFinal = false := words_prog.elim fun tl h => lifts_of _ tl h
theorem may : Tryz.prog.mayEnter = true := words_prog.elim fun tl h => may_of _ tl h lat refl_ door
def mainL (cs : List Char) : Option (Bool × List Char) :=
  match wordsSigns cs with
  | h :: s :: _ => if !isSumSigns s then none else if h == "harness".toList then some (true, s) else if h == "ownmain".toList then some (false, s) else none
  | _ => none
theorem main_eq (x : Option (Bool × List Char)) (h : mainL headChars = x) : Tryz.prog.mainIs = x := by
  unfold Program.mainIs; rw [head_list]; exact h
theorem rowed : mapsRowed Tryz.prog = true := by kernel_rfl
theorem pkeys : Tryz.prog.plainKeys = true := by kernel_rfl
theorem heard : Tryz.prog.stopsHeard = true := by kernel_rfl
theorem laid_ : laidOutB Tryz.prog = true := by kernel_rfl
end Go.Proofs.YtokelopllbaikaaGreatDoor
