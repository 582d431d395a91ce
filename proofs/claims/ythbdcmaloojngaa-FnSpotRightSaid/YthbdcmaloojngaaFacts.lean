/- Closed facts on the translation's head line, which is long: its words are read off a list of numbers, once; and the facts on the whole program, each by itself. -/
import Derived.Test.YthbdcmaloojngaaRows
import Derived.JoinedOf
import Derived.KernelRfl
set_option linter.unusedVariables false
namespace Go.Proofs.Ythbdcmaloojngaa
open Go
def headNums : List Nat := [104, 97, 114, 110, 101, 115, 115, 32, 97, 51, 51, 100, 54, 57, 99, 100, 98, 49, 97, 102, 99, 97, 99, 98, 99, 100, 52, 50, 57, 56, 50, 56, 48, 57, 51, 52, 51, 101, 55, 99, 99, 48, 99, 56, 100, 51, 99, 98, 102, 54, 53, 100, 52, 102, 97, 54, 54, 100, 56, 53, 48, 49, 98, 99, 49, 101, 100, 100, 97, 57, 97, 100, 32, 99, 117, 116, 32, 97, 116, 32, 108, 111, 111, 112, 46, 101, 120, 97, 109, 112, 108, 101, 47, 112, 114, 111, 111, 102, 97, 114, 99, 104, 105, 118, 101, 47, 108, 97, 119, 115, 46, 70, 110, 67, 108, 97, 115, 104, 79, 102, 32, 108, 111, 111, 112, 46, 101, 120, 97, 109, 112, 108, 101, 47, 112, 114, 111, 111, 102, 97, 114, 99, 104, 105, 118, 101, 47, 108, 97, 119, 115, 46, 70, 110, 83, 112, 111, 116, 65, 108, 119, 97, 121, 115, 32, 108, 111, 111, 112, 46, 101, 120, 97, 109, 112, 108, 101, 47, 112, 114, 111, 111, 102, 97, 114, 99, 104, 105, 118, 101, 47, 108, 97, 119, 115, 46, 70, 110, 83, 112, 111, 116, 82, 111, 111, 116, 32, 108, 111, 111, 112, 46, 101, 120, 97, 109, 112, 108, 101, 47, 112, 114, 111, 111, 102, 97, 114, 99, 104, 105, 118, 101, 47, 108, 97, 119, 115, 46, 70, 110, 83, 112, 111, 116, 82, 105, 103, 104, 116, 32, 108, 111, 111, 112, 46, 101, 120, 97, 109, 112, 108, 101, 47, 112, 114, 111, 111, 102, 97, 114, 99, 104, 105, 118, 101, 47, 108, 97, 119, 115, 46, 70, 110, 83, 112, 111, 116, 65, 110, 115, 119, 101, 114]
def headChars : List Char := headNums.map Char.ofNat
set_option maxRecDepth 1000000 in
theorem head_of : Try.prog.initOrder = String.ofList headChars := by kernel_rfl
theorem head_list : Try.prog.initOrder.toList = headChars := by rw [head_of, String.toList_ofList]
set_option maxRecDepth 1000000 in
theorem words_head : ((behindMainWord (wordsSigns headChars)).head? == some "cut".toList) = true := by kernel_rfl
theorem words_of : ∃ tl, behindMainWord (wordsSigns headChars) = "cut".toList :: tl := by
  have h := words_head
  cases hw : behindMainWord (wordsSigns headChars) with
  | nil => rw [hw] at h; cases h
  | cons c tl => rw [hw] at h; refine ⟨tl, ?_⟩; rw [List.head?_cons] at h; have := (beq_iff_eq.1 h); injection this with e; rw [e]
theorem strip_cut (tl : List (List Char)) : stripLifts liftWords ("cut".toList :: tl) = ([], "cut".toList :: tl) := by
  simp [liftWords, stripLifts]
theorem make_of (P : Program) (tl : List (List Char)) (h : behindMainWord (wordsSigns P.initOrder.toList) = "cut".toList :: tl) : P.make = some .cut := by
  unfold Program.make; rw [h]; simp
theorem lifts_of (P : Program) (tl : List (List Char)) (h : behindMainWord (wordsSigns P.initOrder.toList) = "cut".toList :: tl) : P.liftsFinal = false := by
  unfold Program.liftsFinal Program.headLifts; rw [h, strip_cut]; simp
theorem may_of (P : Program) (tl : List (List Char)) (h : behindMainWord (wordsSigns P.initOrder.toList) = "cut".toList :: tl) (h1 : P.laysLater = false) (h2 : P.bearsReflect = false) (h3 : P.doorFits [] = true) : P.mayEnter = true := by
  unfold Program.mayEnter; rw [h]; simp only [strip_cut, h1, h2, h3]; simp
theorem lat : Try.prog.laysLater = false := by kernel_rfl
theorem refl_ : Try.prog.bearsReflect = false := by kernel_rfl
theorem door : Try.prog.doorFits [] = true := by kernel_rfl
theorem words_prog : ∃ tl, behindMainWord (wordsSigns Try.prog.initOrder.toList) = "cut".toList :: tl := by
  rw [head_list]; exact words_of
theorem mke : Try.prog.make = some .cut := words_prog.elim fun tl h => make_of _ tl h
theorem lfts : Try.prog.liftsFinal = false := words_prog.elim fun tl h => lifts_of _ tl h
theorem may : Try.prog.mayEnter = true := words_prog.elim fun tl h => may_of _ tl h lat refl_ door
theorem rowed : mapsRowed Try.prog = true := by kernel_rfl
theorem pkeys : Try.prog.plainKeys = true := by kernel_rfl
theorem heard : Try.prog.stopsHeard = true := by kernel_rfl
theorem laid_ : laidOutB Try.prog = true := by kernel_rfl
end Go.Proofs.Ythbdcmaloojngaa
