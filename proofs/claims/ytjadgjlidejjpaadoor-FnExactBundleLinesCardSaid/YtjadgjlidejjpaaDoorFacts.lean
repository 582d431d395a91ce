/- Closed facts on the translation's head line, which is long: its words are read off a list of numbers, once; and the facts on the whole program, each by itself. -/
import Derived.Test.YtjadgjlidejjpaaDoorRows
import Derived.JoinedOf
import Derived.KernelRfl
set_option linter.unusedVariables false
namespace Go.Proofs.YtjadgjlidejjpaaDoor
open Go
def headNums : List Nat := [104, 97, 114, 110, 101, 115, 115, 32, 99, 102, 100, 49, 48, 98, 56, 56, 97, 49, 54, 54, 53, 99, 48, 102, 53, 49, 102, 102, 48, 98, 48, 49, 55, 98, 102, 55, 55, 100, 53, 50, 53, 98, 50, 99, 102, 97, 98, 57, 54, 98, 57, 49, 102, 57, 53, 48, 50, 98, 98, 102, 100, 55, 102, 100, 100, 56, 56, 101, 57, 48, 97, 101, 32, 99, 117, 116, 32, 97, 116, 32, 108, 111, 111, 112, 46, 101, 120, 97, 109, 112, 108, 101, 47, 112, 114, 111, 111, 102, 97, 114, 99, 104, 105, 118, 101, 47, 108, 97, 119, 115, 46, 70, 110, 69, 120, 97, 99, 116, 66, 117, 110, 100, 108, 101, 76, 105, 110, 101, 115]
def headChars : List Char := headNums.map Char.ofNat
set_option maxRecDepth 1000000 in
theorem head_of : Tryd.prog.initOrder = String.ofList headChars := by kernel_rfl
theorem head_list : Tryd.prog.initOrder.toList = headChars := by rw [head_of, String.toList_ofList]
set_option maxRecDepth 1000000 in
theorem words_head : ((behindMainWord (wordsSigns headChars)).head? == some "cut".toList) = true := by kernel_rfl
theorem words_of : ∃ tl, behindMainWord (wordsSigns headChars) = "cut".toList :: tl := by
  have h := words_head
  cases hw : behindMainWord (wordsSigns headChars) with
  | nil => rw [hw] at h; cases h
  | cons c tl => rw [hw] at h; refine ⟨tl, ?_⟩; rw [List.head?_cons] at h; have := (beq_iff_eq.1 h); injection this with e; rw [e]
theorem strip_cut (tl : List (List Char)) : stripLifts liftWords ("cut".toList :: tl) = ([], "cut".toList :: tl) := by
  simp [liftWords, stripLifts]
theorem make_of (P : Program) (tl : List (List Char)) (h : behindMainWord (wordsSigns P.initOrder.toList) = "cut".toList :: tl) : P.make = some .cut := by
  unfold Program.make; rw [h]; simp
theorem lifts_of (P : Program) (tl : List (List Char)) (h : behindMainWord (wordsSigns P.initOrder.toList) = "cut".toList :: tl) : P.liftsFinal = false := by
  unfold Program.liftsFinal Program.headLifts; rw [h, strip_cut]; simp
theorem may_of (P : Program) (tl : List (List Char)) (h : behindMainWord (wordsSigns P.initOrder.toList) = "cut".toList :: tl) (h1 : P.laysLater = false) (h2 : P.bearsReflect = false) (h3 : P.doorFits [] = true) : P.mayEnter = true := by
  unfold Program.mayEnter; rw [h]; simp only [strip_cut, h1, h2, h3]; simp
theorem lat : Tryd.prog.laysLater = false := by kernel_rfl
theorem refl_ : Tryd.prog.bearsReflect = false := by kernel_rfl
theorem door : Tryd.prog.doorFits [] = true := by kernel_rfl
theorem words_prog : ∃ tl, behindMainWord (wordsSigns Tryd.prog.initOrder.toList) = "cut".toList :: tl := by
  rw [head_list]; exact words_of
theorem mke : Tryd.prog.make = some .cut := words_prog.elim fun tl h => make_of _ tl h
theorem lfts : Tryd.prog.liftsFinal = false := words_prog.elim fun tl h => lifts_of _ tl h
theorem may : Tryd.prog.mayEnter = true := words_prog.elim fun tl h => may_of _ tl h lat refl_ door
theorem rowed : mapsRowed Tryd.prog = true := by kernel_rfl
theorem pkeys : Tryd.prog.plainKeys = true := by kernel_rfl
theorem heard : Tryd.prog.stopsHeard = true := by kernel_rfl
theorem laid_ : laidOutB Tryd.prog = true := by kernel_rfl
end Go.Proofs.YtjadgjlidejjpaaDoor
