/- Drawn pieces: of DamagedPrints and RightPieces. -/
import Derived.Test.YtjadgjlidejjpaaDr4
set_option linter.unusedVariables false
namespace Go.Proofs.Ytjadgjlidejjpaa
open Go.RowKit
def DrawnPcs (w : World) (e : Ending) (w' : World) : Prop :=
  ∃ (v : Value) (l : List Pc), e = .returned v ∧ Own w' w.heap.size 38 2 encP v l ∧ FewP l ∧ Below w.heap.size w w'
set_option maxHeartbeats 2000000 in
set_option maxRecDepth 100000 in
theorem DrawDamagedPrints_any (A : Option Addr) (n c : Nat) (w : World) (hb : BytesIn w A n c) :
    Calls Try.prog 23 #[.slice A n c] w (DrawnPcs w) := by
  go_enter Try.func23, Try.ntmps23
  go_wp2_with fail
  refine (l20Open_any _ _ _ _ hb).mono ?_
  rintro e w1 ⟨rfl, hb1, hr1, hz1⟩
  have HR1 := Lib.hid hr1
  have HB1 := Lib.hid hb1
  clear hr1 hb1 hz1
  go_wp2_with fail
  refine (l20Pieces_any _ _ _ _ HR1.out (by omega) (by omega)).mono ?_
  rintro e w2 ⟨v1, l1, p2, rfl, hown, hf1, ho2, hr2, hp2⟩
  have HO2 := Lib.hid ho2
  have HW2 := Lib.hid hown
  have HF1 := Lib.hid hf1
  clear hr2 ho2 hown hf1
  go_wp2
  go_ret
  exact ⟨_, l1, rfl, HW2.out.mono HB1.out.size, HF1.out, HB1.out.trans (HO2.out.below (Nat.le_refl _) HB1.out.size)⟩
set_option maxHeartbeats 2000000 in
set_option maxRecDepth 100000 in
theorem DrawRightPieces_any (A : Option Addr) (n c : Nat) (w : World) (hb : BytesIn w A n c) :
    Calls Try.prog 17 #[.slice A n c] w (DrawnPcs w) := by
  go_enter Try.func17, Try.ntmps17
  go_wp2_with fail
  refine (l20Open_any _ _ _ _ hb).mono ?_
  rintro e w1 ⟨rfl, hb1, hr1, hz1⟩
  have HR1 := Lib.hid hr1
  have HB1 := Lib.hid hb1
  clear hr1 hb1 hz1
  go_wp2_with fail
  refine (l20Pieces_any _ _ _ _ HR1.out (by omega) (by omega)).mono ?_
  rintro e w2 ⟨v1, l1, p2, rfl, hown, hf1, ho2, hr2, hp2⟩
  have HO2 := Lib.hid ho2
  have HW2 := Lib.hid hown
  have HF1 := Lib.hid hf1
  clear hr2 ho2 hown hf1
  go_wp2
  go_ret
  exact ⟨_, l1, rfl, HW2.out.mono HB1.out.size, HF1.out, HB1.out.trans (HO2.out.below (Nat.le_refl _) HB1.out.size)⟩
end Go.Proofs.Ytjadgjlidejjpaa
