/- Laws of spots, of the reference's answers. -/
import Derived.Test.YtbefbenihahdnaaSa
import Derived.Test.YtbefbenihahdnaaMk
import Derived.Test.YtbefbenihahdnaaEq
import Derived.Test.YtbefbenihahdnaaOpen2
set_option linter.unusedVariables false
namespace Go.Proofs.Ytbefbenihahdnaa
open Go.RowKit

set_option maxHeartbeats 2000000 in
set_option maxRecDepth 100000 in
theorem toIntS_any (A : Option Addr) (c : Nat) (ss : List Int) (w : World) (hs : Sl w encI 1 A ss) (hl : ss.length ≤ 16777216) :
    Calls Try.prog 63 #[.slice A ss.length c] w fun e w' => ∃ v, e = .returned v ∧ Own w' w.heap.size 3 1 encI v ss ∧ Below w.heap.size w w' := by
  obtain ⟨i0, hi0, hz0, hz1, hz2⟩ := info_parts int_info
  have hmk := make_row (P := Try.prog) 47 3 i0 _ Try.underlying47 hi0 hz0 ss.length hl (by omega)
  rw [hz1] at hmk
  have hfl := fun W : World => Filled.made W (Value.int .i64 0).cells (ss.length * 1) 3
  have HFL := Lib.hid hfl
  have HS := Lib.hid hs
  clear hs hfl hi0 hz0 hz1 hz2
  generalize madeCells (Value.int .i64 0).cells (ss.length * 1) = M at *
  go_enter Try.func63, Try.ntmps63
  go_wp2
  clear hmk
  go_loopw [4] (fun i wr => ∃ (k : Nat), k ≤ ss.length ∧ i = .int .i64 k ∧ Filled wr w.heap.size (ss.length * 1) 3 (flat encI (ss.take k)) ∧ Below w.heap.size w wr) (fun i _ => ss.length - (intOf i).toNat)
  case atStart => exact ⟨0, Nat.zero_le _, rfl, HFL.out w, (Below.refl _ _).alloc (Nat.le_refl _) _⟩
  case round =>
    obtain ⟨k, hk, rfl, hf, hb⟩ := hrel
    by_cases hlt : k < ss.length
    · obtain ⟨b, o, rfl, hc⟩ := (HS.out.below hb).getI hlt
      obtain ⟨u, hu⟩ := hf.cell (j := k) (by omega)
      have hfr := hf.free k
      have hlen : (flat encI (ss.take k)).length = k := by rw [flatI_len, List.length_take]; omega
      have hst := hf.store (.int .i64 ss[k]) (by omega)
      rw [hlen, show flat encI (ss.take k) ++ [Value.int .i64 ss[k]] = flat encI (ss.take (k + 1)) from by rw [List.take_succ_eq_append_getElem hlt, flat_snoc]; rfl] at hst
      have HST := Lib.hid hst
      clear hst hlen
      go_wp2
      go_roundw
      case rel => exact ⟨k + 1, by omega, by go_num, HST.out, hb.setCell (Nat.le_refl _) _⟩
      case measure => simp [intOf]; omega
    · go_wp2
      go_ret
      rw [List.take_of_length_le (by omega)] at hf
      exact ⟨_, rfl, hf.own (fun _ => rfl) (Nat.le_refl _) (by unfold maxLen; omega), hb⟩

set_option maxHeartbeats 4000000 in
set_option maxRecDepth 100000 in
theorem wFnExactSpotRight (a0 a1 a2 : Int) (t : ByteArray) (A : Option Addr) (n c : Nat) (w : World) (h : IntsIn w A n c) : Calls Try.prog 14 #[.int .i64 a0, .int .i64 a1, .int .i64 a2, .string t, .slice A n c] w (LawOk w) := by
  obtain ⟨l, rfl, hnc, hcm, hs⟩ := h
  have HS := Lib.hid hs
  clear hs hcm
  by_cases ht : t.size ≤ 1048576
  · by_cases hl : l.length ≤ 1048576
    · go_enter Try.func14, Try.ntmps14
      go_wp2_with fail
      refine (toIntS_any _ _ _ _ HS.out (by omega)).mono ?_
      rintro e w1 ⟨v1, rfl, hown1, hb1⟩
      obtain ⟨A1, c1, rfl, _, hs1, _⟩ := hown1.sl
      have HB1 := Lib.hid hb1
      have HS1 := Lib.hid (HS.out.below hb1)
      have HX1 := Lib.hid hs1
      clear hb1 hown1 hs1
      go_wp2_with fail
      refine (sSpotRight_any _ _ _ _ _ _ _ _ HX1.out (by omega) (by omega)).mono ?_
      rintro e w' ⟨rfl, rfl⟩
      go_wp2_with fail
      refine (toIntS_any _ _ _ _ HS1.out (by omega)).mono ?_
      rintro e w3 ⟨v3, rfl, hown3, hb3⟩
      obtain ⟨A3, c3, rfl, _, hs3, _⟩ := hown3.sl
      have HB3 := Lib.hid (Below_then HB1.out hb3 (Nat.le_refl _))
      have HS3 := Lib.hid (HS1.out.below hb3)
      have HX3 := Lib.hid hs3
      clear hb3 hown3 hs3
      go_wp2_with fail
      refine (iSpotRight_any _ _ _ _ _ _ _ _ HX3.out (by omega) (by omega)).mono ?_
      rintro e w' ⟨rfl, rfl⟩
      go_wp2_with fail
      refine (toIntS_any _ _ _ _ HS3.out (by omega)).mono ?_
      rintro e w5 ⟨v5, rfl, hown5, hb5⟩
      obtain ⟨A5, c5, rfl, _, hs5, _⟩ := hown5.sl
      have HB5 := Lib.hid (Below_then HB3.out hb5 (Nat.le_refl _))
      have HX5 := Lib.hid (HX3.out.below hb5)
      have HY5 := Lib.hid hs5
      clear hb5 hown5 hs5
      go_wp2_with fail
      refine (l_eqIntS_same _ _ _ _ _ _ HX5.out HY5.out (by omega)).mono ?_
      rintro e w6 ⟨rfl, hd6⟩
      have HB6 := Lib.hid (HB5.out.trans (hd6.below.mono HB5.out.size))
      clear hd6
      go_wp2
      go_ret
      exact ⟨rfl, HB6.out⟩
    · go_enter Try.func14, Try.ntmps14
      go_wp2
      go_ret
      exact ⟨rfl, Below.refl _ _⟩
  · go_enter Try.func14, Try.ntmps14
    go_wp2
    go_ret
    exact ⟨rfl, Below.refl _ _⟩
end Go.Proofs.Ytbefbenihahdnaa
