/- Comparisons of two slices that hold the same. -/
import Derived.Test.YtjadgjlidejjpaaDoorW1
set_option linter.unusedVariables false
namespace Go.Proofs.YtjadgjlidejjpaaDoor
open Go.RowKit
/-- wr is w after some draws. -/
def Drawn_ (w wr : World) : Prop := ∃ n, wr = w.drewN n
theorem Drawn_.drewN {w wr : World} (h : Drawn_ w wr) (m : Nat) : Drawn_ w (wr.drewN m) := by
  obtain ⟨n, rfl⟩ := h; exact ⟨n + m, by rw [World.drewN_drewN]⟩
theorem Sl.drawn_ {α : Type} {enc : α → List Value} {w wr : World} {size : Nat} {A : Option Addr} {l : List α} (h : Sl w enc size A l) (hd : Drawn_ w wr) : Sl wr enc size A l := by
  obtain ⟨n, rfl⟩ := hd; exact h
theorem Drawn_.below {w wr : World} (h : Drawn_ w wr) : Below w.heap.size w wr := by
  obtain ⟨n, rfl⟩ := h; exact Below_drewN (Below.refl _ _) n

set_option maxHeartbeats 2000000 in
set_option maxRecDepth 100000 in
theorem l_eqStringS_same (A B : Option Addr) (c d : Nat) (l : List ByteArray) (w : World) (ha : Sl w encS 1 A l) (hb : Sl w encS 1 B l) (hl : l.length ≤ 16777216) :
    Calls Tryd.prog 8 #[.slice A l.length c, .slice B l.length d] w fun e w' => e = .returned (.bool true) ∧ Drawn_ w w' := by
  have HA := Lib.hid ha
  have HB := Lib.hid hb
  clear ha hb
  go_enter Tryd.func8, Tryd.ntmps8
  go_wp2
  go_loopw [5] (fun i wr => ∃ (k : Nat), k ≤ l.length ∧ i = .int .i64 k ∧ Drawn_ w wr) (fun i _ => l.length - (intOf i).toNat)
  case atStart => exact ⟨0, Nat.zero_le _, rfl, 0, rfl⟩
  case round =>
    obtain ⟨k, hk, rfl, hw⟩ := hrel
    by_cases hlt : k < l.length
    · obtain ⟨b1, o1, rfl, hc1⟩ := (HA.out.drawn_ hw).getS hlt
      obtain ⟨b2, o2, rfl, hc2⟩ := (HB.out.drawn_ hw).getS hlt
      go_wp2
      go_quiet (fail)
      go_wp2
      go_roundw
      case rel => exact ⟨k + 1, by omega, by go_num, hw.drewN _⟩
      case measure => simp [intOf]; omega
    · go_wp2
      go_ret
      exact ⟨rfl, hw⟩
end Go.Proofs.YtjadgjlidejjpaaDoor
