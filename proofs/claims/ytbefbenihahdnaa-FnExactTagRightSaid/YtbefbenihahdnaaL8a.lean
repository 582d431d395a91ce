/- Copies of slices of numbers. -/
import Derived.Test.YtbefbenihahdnaaMk
import Derived.Test.YtbefbenihahdnaaEq
set_option linter.unusedVariables false
namespace Go.Proofs.Ytbefbenihahdnaa
open Go.RowKit

set_option maxHeartbeats 2000000 in
set_option maxRecDepth 100000 in
theorem toIntS_any (A : Option Addr) (c : Nat) (ss : List Int) (w : World) (hs : Sl w encI 1 A ss) (hl : ss.length ≤ 16777216) :
    Calls Try.prog 63 #[.slice A ss.length c] w fun e w' => ∃ v, e = .returned v ∧ Own w' w.heap.size 3 1 encI v ss ∧ Below w.heap.size w w' := by
  obtain ⟨i0, hi0, hz0, hz1, hz2⟩ := info_parts int_info
  have hmk := make_row (P := Try.prog) 47 3 i0 _ Try.underlying47 hi0 hz0 ss.length hl (by omega)
  rw [hz1] at hmk
  have hfl := fun W : World => Filled.made W (Value.int .i64 0).cells (ss.length * 1) 3
  have HFL := Lib.hid hfl
  have HS := Lib.hid hs
  clear hs hfl hi0 hz0 hz1 hz2
  generalize madeCells (Value.int .i64 0).cells (ss.length * 1) = M at *
  go_enter Try.func63, Try.ntmps63
  go_wp2
  clear hmk
  go_loopw [4] (fun i wr => ∃ (k : Nat), k ≤ ss.length ∧ i = .int .i64 k ∧ Filled wr w.heap.size (ss.length * 1) 3 (flat encI (ss.take k)) ∧ Below w.heap.size w wr) (fun i _ => ss.length - (intOf i).toNat)
  case atStart => exact ⟨0, Nat.zero_le _, rfl, HFL.out w, (Below.refl _ _).alloc (Nat.le_refl _) _⟩
  case round =>
    obtain ⟨k, hk, rfl, hf, hb⟩ := hrel
    by_cases hlt : k < ss.length
    · obtain ⟨b, o, rfl, hc⟩ := (HS.out.below hb).getI hlt
      obtain ⟨u, hu⟩ := hf.cell (j := k) (by omega)
      have hfr := hf.free k
      have hlen : (flat encI (ss.take k)).length = k := by rw [flatI_len, List.length_take]; omega
      have hst := hf.store (.int .i64 ss[k]) (by omega)
      rw [hlen, show flat encI (ss.take k) ++ [Value.int .i64 ss[k]] = flat encI (ss.take (k + 1)) from by rw [List.take_succ_eq_append_getElem hlt, flat_snoc]; rfl] at hst
      have HST := Lib.hid hst
      clear hst hlen
      go_wp2
      go_roundw
      case rel => exact ⟨k + 1, by omega, by go_num, HST.out, hb.setCell (Nat.le_refl _) _⟩
      case measure => simp [intOf]; omega
    · go_wp2
      go_ret
      rw [List.take_of_length_le (by omega)] at hf
      exact ⟨_, rfl, hf.own (fun _ => rfl) (Nat.le_refl _) (by unfold maxLen; omega), hb⟩
end Go.Proofs.Ytbefbenihahdnaa
