/- Drawn inputs: paths. -/
import Derived.Test.YtedcgbmdfmgcgaaGreatDoorGa1
set_option linter.unusedVariables false
namespace Go.Proofs.YtedcgbmdfmgcgaaGreatDoor
open Go.RowKit
theorem lit_str {w w1 : World} {g : Nat} {cs : Array Value} {E : TypeId} {m k : Nat} (ho : Only g (w.alloc (.cells cs E)) w1) (hg : g < w.heap.size) (hk : k < cs.size) (hc : cs.toList.all (shortB m) = true) : ∃ s, w1.cell? ⟨w.heap.size, k, none⟩ = some (.string s) ∧ s.size ≤ m := by
  obtain ⟨s, hs, hz⟩ := shortB_iff (List.all_eq_true.1 hc cs[k] (by simp))
  exact ⟨s, lit_cell ho hg (by rw [Array.getElem?_eq_getElem hk, hs]), hz⟩
set_option maxHeartbeats 4000000 in
set_option maxRecDepth 100000 in
theorem l20Path_any (n : Int) (g p : Nat) (w : World) (hr : Rdr w g p) (hp : p ≤ 900000000) (hn : n ≤ 1000000000) :
    Calls Tryz.prog 84 #[.pointer (some ⟨g, 0, none⟩), .int .i64 n] w (Drew (ShortStr 9) 2 w g p) := by
  have HR := Lib.hid hr
  clear hr
  go_enter Tryz.func84, Tryz.ntmps84
  go_wp2_with fail
  refine (odd_any _ _ _ _ HR.out (by omega) hn).mono ?_
  rintro e w1 ⟨x, p1, rfl, ho1, hr1, hp1⟩
  have HR1 := Lib.hid hr1
  have HO1 := Lib.hid ho1
  clear hr1 ho1
  cases x
  · go_wp2_with fail
    refine (pick_int 13 0 7 (HR1.out.alloc _) (by omega) rfl (by omega) (by omega) (by decide)).mono ?_
    rintro e w2 ⟨x, m, rfl, hx, hc, hm0, hm7, ho2, hr2⟩
    obtain ⟨N, rfl⟩ := Int.eq_ofNat_of_zero_le hm0
    have hN : N < 8 := by omega
    have hcc : w2.cell? ⟨w1.heap.size + 1, x, none⟩ = some (.int .i64 (N : Int)) := by simpa using hc
    clear hc
    obtain ⟨s, hcs, hs⟩ := lit_str (k := N) (m := 9) ho2 HR1.out.lt hN (by decide)
    have HR2 := Lib.hid hr2
    have HO2 := Lib.hid ((Only.of_below ((Below.refl w1.heap.size w1).alloc (Nat.le_refl _) _)).trans ho2)
    clear hr2 ho2
    go_wp2_with fail
    go_ret
    exact ⟨_, _, rfl, ⟨_, rfl, hs⟩, HO1.out.trans HO2.out, HR2.out, by omega⟩
  · go_wp2_with fail
    refine (pick_str 6 9 HR1.out (by omega) rfl (by omega) (by omega) (by decide)).mono ?_
    rintro e w2 ⟨x, s, rfl, hx, hc, hs, ho2, hr2⟩
    have HR2 := Lib.hid hr2
    have HO2 := Lib.hid ho2
    clear hr2 ho2
    go_wp2_with fail
    go_ret
    exact ⟨_, _, rfl, ⟨_, rfl, hs⟩, HO1.out.trans HO2.out, HR2.out, by omega⟩
end Go.Proofs.YtedcgbmdfmgcgaaGreatDoor
