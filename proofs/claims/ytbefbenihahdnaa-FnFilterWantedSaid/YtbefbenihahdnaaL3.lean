/- Laws' walks: FnFilterOf, FnFilterWanted. -/
import Derived.Test.YtbefbenihahdnaaL2
import Derived.Test.YtbefbenihahdnaaEq
set_option linter.unusedVariables false
namespace Go.Proofs.Ytbefbenihahdnaa
open Go.RowKit

set_option maxHeartbeats 2000000 in
set_option maxRecDepth 100000 in
theorem wFnFilterOf (A : Option Addr) (n c : Nat) (w : World) (hb : BytesIn w A n c) : Calls Try.prog 12 #[.slice A n c] w (LawOk w) := by
  by_cases h : n ≤ 1048576
  · have HBI := Lib.hid hb
    clear hb
    go_enter Try.func12, Try.ntmps12
    go_wp2_with fail
    refine (DrawFilterOf_any _ _ _ _ HBI.out).mono ?_
    rintro e w1 ⟨v, l, rfl, hown, hl, hbw⟩
    obtain ⟨A1, c1, rfl, _, hsl, _⟩ := hown.sl
    have HB1 := Lib.hid hbw
    have HS := Lib.hid hsl
    clear hbw hown hsl
    have hI := fun W hW => iFilterOf_any A1 c1 l W hW (by omega)
    have hS := fun W hW => sFilterOf_any A1 c1 l W hW (by omega)
    by_cases hneg : filterOf l < 0
    · have e1 := filterOf_lt0 hneg
      rw [e1] at hI hS
      have HI := Lib.hid hI
      have HSS := Lib.hid hS
      clear hI hS e1 hneg
      go_wp2_with fail
      refine (HI.out _ HS.out).mono ?_
      rintro e w2 ⟨rfl, n2, rfl⟩
      go_wp2_with fail
      refine (HSS.out _ (HS.out.drewN _)).mono ?_
      rintro e w2 ⟨rfl, n3, rfl⟩
      go_wp2_with (go_at_call 41; refine (alive_any _).mono ?_; rintro e w' ⟨rfl, rfl⟩)
      go_ret
      exact ⟨rfl, Below_drewN HB1.out _⟩
    · have hv := filterOf_valid hneg
      have hall := has_all hv
      have hwn := fun W hW => iFilterWanted_any (filterOf l) A1 c1 l W hW (by omega)
      rw [wanted_of_has hall] at hwn
      have hbd := fv_iff.1 (filterOf_fv hv)
      generalize filterOf l = f at *
      have HI := Lib.hid hI
      have HSS := Lib.hid hS
      have HALL := Lib.hid hall
      have HWN := Lib.hid hwn
      clear hI hS hall hwn hv
      go_wp2_with fail
      refine (HI.out _ HS.out).mono ?_
      rintro e w2 ⟨rfl, n2, rfl⟩
      go_wp2_with fail
      refine (HSS.out _ (HS.out.drewN _)).mono ?_
      rintro e w3 ⟨rfl, hd3⟩
      have hbw3 : Drawn_ w1 w3 := by obtain ⟨n3, rfl⟩ := hd3; exact (Drawn_.drewN ⟨n2, rfl⟩ n3)
      clear hd3
      go_wp2
      go_loopw [5] (fun i wr => ∃ (k : Nat), k ≤ l.length ∧ i = .int .i64 k ∧ Drawn_ w1 wr) (fun i _ => l.length - (intOf i).toNat)
      case atStart => exact ⟨0, Nat.zero_le _, rfl, hbw3⟩
      case round =>
        clear hbw3
        obtain ⟨k, hk, rfl, hw⟩ := hrel
        by_cases hlt : k < l.length
        · obtain ⟨b1, o1, rfl, hc1⟩ := (HS.out.drawn_ hw).getI hlt
          have hh := HALL.out l[k] (by simp)
          go_wp2_with fail
          refine (iFilterHas_any _ _ _).mono ?_
          rintro e w4 ⟨rfl, n4, rfl⟩
          go_wp2
          go_roundw
          case rel => exact ⟨k + 1, by omega, by go_num, hw.drewN _⟩
          case measure => simp [intOf]; omega
        · go_wp2_with fail
          refine (HWN.out _ (HS.out.drawn_ hw)).mono ?_
          rintro e w5 ⟨v5, rfl, hown5, hb5⟩
          obtain ⟨A5, c5, rfl, _, _, _⟩ := hown5.sl
          clear hown5
          go_wp2
          go_ret
          exact ⟨rfl, Below_then (HB1.out.trans (hw.below.mono HB1.out.size)) hb5 (Nat.le_refl _)⟩
  · go_enter Try.func12, Try.ntmps12
    go_wp2
    go_ret
    exact ⟨rfl, Below.refl _ _⟩

theorem wanted_len (f : Int) (l : List Int) : (filterWanted f l).length ≤ l.length := by
  unfold filterWanted; split
  · exact List.length_filter_le _ _
  · simp
theorem wanted_not {f : Int} {l : List Int} : ∀ p ∈ filterWanted f l, filterHas f p = false := by
  intro p hp
  unfold filterWanted at hp; split at hp
  · have := (List.mem_filter.1 hp).2; simpa using this
  · cases hp
set_option maxHeartbeats 4000000 in
set_option maxRecDepth 100000 in
theorem wFnFilterWanted (A : Option Addr) (n c : Nat) (w : World) (hb : BytesIn w A n c) : Calls Try.prog 16 #[.slice A n c] w (LawOk w) := by
  by_cases h : n ≤ 1048576
  · have HBI := Lib.hid hb
    clear hb
    go_enter Try.func16, Try.ntmps16
    go_wp2_with fail
    refine (DrawFilterWanted_any _ _ _ _ HBI.out).mono ?_
    rintro e w1 ⟨f, v, l, rfl, hown, hl, hbw⟩
    obtain ⟨A1, c1, rfl, _, hsl, _⟩ := hown.sl
    have HB1 := Lib.hid hbw
    have HS := Lib.hid hsl
    clear hbw hown hsl
    have hI := fun W hW => iFilterWanted_any f A1 c1 l W hW (by omega)
    have hS := fun W hW => sFilterWanted_any f A1 c1 l W hW (by omega)
    have hxl := wanted_len f l
    have hnot := wanted_not (f := f) (l := l)
    have hj := wanted_join (f := f) (l := l)
    generalize filterWanted f l = x at *
    have HI := Lib.hid hI
    have HSS := Lib.hid hS
    have HNOT := Lib.hid hnot
    have HJ := Lib.hid hj
    clear hI hS hnot hj
    go_wp2_with fail
    refine (HI.out _ HS.out).mono ?_
    rintro e w2 ⟨v2, rfl, hown2, hb2⟩
    obtain ⟨A2, c2, rfl, _, hsl2, _⟩ := hown2.sl
    have HB2 := Lib.hid (Below_then HB1.out hb2 (Nat.le_refl _))
    have HX2 := Lib.hid hsl2
    have HS2 := Lib.hid (HS.out.below hb2)
    clear hown2 hsl2 hb2
    go_wp2_with fail
    refine (HSS.out _ HS2.out).mono ?_
    rintro e w3 ⟨v3, rfl, hown3, hb3⟩
    obtain ⟨A3, c3, rfl, _, hsl3, _⟩ := hown3.sl
    have HB3 := Lib.hid (Below_then HB2.out hb3 (Nat.le_refl _))
    have HX3 := Lib.hid (HX2.out.below hb3)
    have HS3 := Lib.hid (HS2.out.below hb3)
    have HY3 := Lib.hid hsl3
    clear hown3 hsl3 hb3
    by_cases h0 : x.length = 0
    · have hz : ((x.length : Int) == 0) = true := by simp [h0]
      clear h0
      go_wp2_with fail
      refine (l_sameInts_same _ _ _ _ _ _ HX3.out HY3.out (by omega)).mono ?_
      rintro e w4 ⟨rfl, hd4⟩
      go_wp2_with (go_at_call 41; refine (alive_any _).mono ?_; rintro e w' ⟨rfl, rfl⟩)
      go_ret
      exact ⟨rfl, HB3.out.trans (hd4.below.mono HB3.out.size)⟩
    · have hz : ((x.length : Int) == 0) = false := beq_eq_false_iff_ne.2 (by omega)
      go_wp2_with fail
      refine (l_sameInts_same _ _ _ _ _ _ HX3.out HY3.out (by omega)).mono ?_
      rintro e w4 ⟨rfl, hd4⟩
      go_wp2
      go_loopw [6] (fun i wr => ∃ (k : Nat), k ≤ x.length ∧ i = .int .i64 k ∧ Drawn_ w3 wr) (fun i _ => x.length - (intOf i).toNat)
      case atStart => exact ⟨0, Nat.zero_le _, rfl, hd4⟩
      case round =>
        clear hd4
        obtain ⟨k, hk, rfl, hw⟩ := hrel
        by_cases hlt : k < x.length
        · obtain ⟨b1, o1, rfl, hc1⟩ := (HX3.out.drawn_ hw).getI hlt
          have hh := HNOT.out x[k] (by simp)
          go_wp2_with fail
          refine (iFilterHas_any _ _ _).mono ?_
          rintro e w4 ⟨rfl, n4, rfl⟩
          go_wp2
          go_roundw
          case rel => exact ⟨k + 1, by omega, by go_num, hw.drewN _⟩
          case measure => simp [intOf]; omega
        · go_wp2_with fail
          refine (iFilterOf_any _ _ _ _ (HX3.out.drawn_ hw) (by omega)).mono ?_
          rintro e w5 ⟨rfl, n5, rfl⟩
          go_wp2_with fail
          refine (iFilterJoin_any _ _ _).mono ?_
          rintro e w6 ⟨rfl, rfl⟩
          go_wp2_with fail
          refine (iFilterWanted_any _ _ _ _ _ ((HS3.out.drawn_ hw).drewN _) (by omega)).mono ?_
          rintro e w7 ⟨v7, rfl, hown7, hb7⟩
          rw [HJ.out] at hown7
          obtain ⟨A7, c7, rfl, _, _, _⟩ := hown7.sl
          clear hown7
          go_wp2
          go_ret
          exact ⟨rfl, Below_then (HB3.out.trans (((hw.drewN n5).below).mono HB3.out.size)) hb7 (Nat.le_refl _)⟩
  · go_enter Try.func16, Try.ntmps16
    go_wp2
    go_ret
    exact ⟨rfl, Below.refl _ _⟩
end Go.Proofs.Ytbefbenihahdnaa
