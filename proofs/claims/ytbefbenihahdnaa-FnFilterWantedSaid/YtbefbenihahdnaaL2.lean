/- Laws' walks: FnSpotOf, FnFilterJoin, FnFilterHas, FnFilterOf, FnFilterWanted. -/
import Derived.Test.YtbefbenihahdnaaDr2
import Derived.Test.YtbefbenihahdnaaL1
set_option linter.unusedVariables false
namespace Go.Proofs.Ytbefbenihahdnaa
open Go.RowKit

def Two (lo1 hi1 lo2 hi2 : Int) (w : World) (e : Ending) (w' : World) : Prop :=
  ∃ a b : Int, e = .returned (.tuple #[.int .i64 a, .int .i64 b]) ∧ lo1 ≤ a ∧ a ≤ hi1 ∧ lo2 ≤ b ∧ b ≤ hi2 ∧ Below w.heap.size w w'
set_option maxHeartbeats 2000000 in
set_option maxRecDepth 100000 in
theorem DrawSpotOf_any (A : Option Addr) (n c : Nat) (w : World) (hb : BytesIn w A n c) :
    Calls Try.prog 42 #[.slice A n c] w (Two (-1) 16777213 0 17 w) := by
  go_enter Try.func42, Try.ntmps42
  go_wp2_with fail
  refine (l20Open_any _ _ _ _ hb).mono ?_
  rintro e w1 ⟨rfl, hb1, hr1, hz1⟩
  have HR1 := Lib.hid hr1
  have HB1 := Lib.hid hb1
  clear hr1 hb1 hz1
  go_wp2_with fail
  refine (l20Print_any _ _ _ _ HR1.out (by omega) (by omega)).mono ?_
  rintro e w2 ⟨v, p2, rfl, ⟨x, rfl, hx0, hx1⟩, ho2, hr2, hp2⟩
  have HO2 := Lib.hid ho2
  have HR2 := Lib.hid hr2
  clear ho2 hr2
  go_wp2_with fail
  refine (pick_any _ _ _ _ HR2.out (by omega) (by omega)).mono ?_
  rintro e w3 ⟨b, rfl, hb, ho3, hr3⟩
  have hb' : (b : Int) ≤ 17 := by omega
  have HO3 := Lib.hid (HO2.out.trans ho3)
  clear ho3 hr3 hb
  go_wp2_with fail
  go_ret2
  exact ⟨_, _, rfl, hx0, hx1, by omega, hb', HB1.out.trans (HO3.out.below (Nat.le_refl _) HB1.out.size)⟩
set_option maxHeartbeats 2000000 in
set_option maxRecDepth 100000 in
theorem DrawFilterHas_any (A : Option Addr) (n c : Nat) (w : World) (hb : BytesIn w A n c) :
    Calls Try.prog 49 #[.slice A n c] w (Two (-1) 1073741824 (-1) 16777213 w) := by
  go_enter Try.func49, Try.ntmps49
  go_wp2_with fail
  refine (l20Open_any _ _ _ _ hb).mono ?_
  rintro e w1 ⟨rfl, hb1, hr1, hz1⟩
  have HR1 := Lib.hid hr1
  have HB1 := Lib.hid hb1
  clear hr1 hb1 hz1
  go_wp2_with fail
  refine (l20Filter_any _ _ _ _ HR1.out (by omega) (by omega)).mono ?_
  rintro e w2 ⟨v, p2, rfl, ⟨x, rfl, hx0, hx1⟩, ho2, hr2, hp2⟩
  have HO2 := Lib.hid ho2
  have HR2 := Lib.hid hr2
  clear ho2 hr2
  go_wp2_with fail
  refine (l20Print_any _ _ _ _ HR2.out (by omega) (by omega)).mono ?_
  rintro e w3 ⟨v, p3, rfl, ⟨y, rfl, hy0, hy1⟩, ho3, hr3, hp3⟩
  have HO3 := Lib.hid (HO2.out.trans ho3)
  clear ho3 hr3
  go_wp2_with fail
  go_ret2
  exact ⟨_, _, rfl, hx0, hx1, hy0, hy1, HB1.out.trans (HO3.out.below (Nat.le_refl _) HB1.out.size)⟩
set_option maxHeartbeats 2000000 in
set_option maxRecDepth 100000 in
theorem DrawFilterJoin_any (A : Option Addr) (n c : Nat) (w : World) (hb : BytesIn w A n c) :
    Calls Try.prog 43 #[.slice A n c] w (Two (-1) 1073741824 (-1) 1073741824 w) := by
  go_enter Try.func43, Try.ntmps43
  go_wp2_with fail
  refine (l20Open_any _ _ _ _ hb).mono ?_
  rintro e w1 ⟨rfl, hb1, hr1, hz1⟩
  have HR1 := Lib.hid hr1
  have HB1 := Lib.hid hb1
  clear hr1 hb1 hz1
  go_wp2_with fail
  refine (l20Filter_any _ _ _ _ HR1.out (by omega) (by omega)).mono ?_
  rintro e w2 ⟨v, p2, rfl, ⟨x, rfl, hx0, hx1⟩, ho2, hr2, hp2⟩
  have HO2 := Lib.hid ho2
  have HR2 := Lib.hid hr2
  clear ho2 hr2
  go_wp2_with fail
  refine (l20Filter_any _ _ _ _ HR2.out (by omega) (by omega)).mono ?_
  rintro e w3 ⟨v, p3, rfl, ⟨y, rfl, hy0, hy1⟩, ho3, hr3, hp3⟩
  have HO3 := Lib.hid (HO2.out.trans ho3)
  clear ho3 hr3
  go_wp2_with fail
  go_ret2
  exact ⟨_, _, rfl, hx0, hx1, hy0, hy1, HB1.out.trans (HO3.out.below (Nat.le_refl _) HB1.out.size)⟩
/-- A drawn list of numbers in new memory. -/
def DrawnInts (w : World) (e : Ending) (w' : World) : Prop :=
  ∃ (v : Value) (l : List Int), e = .returned v ∧ Own w' w.heap.size 3 1 encI v l ∧ l.length ≤ 10 ∧ Below w.heap.size w w'
set_option maxHeartbeats 2000000 in
set_option maxRecDepth 100000 in
theorem DrawFilterOf_any (A : Option Addr) (n c : Nat) (w : World) (hb : BytesIn w A n c) :
    Calls Try.prog 57 #[.slice A n c] w (DrawnInts w) := by
  go_enter Try.func57, Try.ntmps57
  go_wp2_with fail
  refine (l20Open_any _ _ _ _ hb).mono ?_
  rintro e w1 ⟨rfl, hb1, hr1, hz1⟩
  have HR1 := Lib.hid hr1
  have HB1 := Lib.hid hb1
  clear hr1 hb1 hz1
  go_wp2_with fail
  refine (l20Prints_any _ _ _ _ HR1.out (by omega) (by omega)).mono ?_
  rintro e w2 ⟨v, l, p2, rfl, hown, hl, ho2, hr2, hp2⟩
  have HO2 := Lib.hid ho2
  have HW2 := Lib.hid (hown.mono HB1.out.size)
  clear ho2 hr2 hown
  go_wp2_with fail
  go_ret
  exact ⟨_, _, rfl, HW2.out, hl, HB1.out.trans (HO2.out.below (Nat.le_refl _) HB1.out.size)⟩
def DrawnIntInts (w : World) (e : Ending) (w' : World) : Prop :=
  ∃ (f : Int) (v : Value) (l : List Int), e = .returned (.tuple #[.int .i64 f, v]) ∧ Own w' w.heap.size 3 1 encI v l ∧ l.length ≤ 10 ∧ Below w.heap.size w w'
set_option maxHeartbeats 2000000 in
set_option maxRecDepth 100000 in
theorem DrawFilterWanted_any (A : Option Addr) (n c : Nat) (w : World) (hb : BytesIn w A n c) :
    Calls Try.prog 74 #[.slice A n c] w (DrawnIntInts w) := by
  go_enter Try.func74, Try.ntmps74
  go_wp2_with fail
  refine (l20Open_any _ _ _ _ hb).mono ?_
  rintro e w1 ⟨rfl, hb1, hr1, hz1⟩
  have HR1 := Lib.hid hr1
  have HB1 := Lib.hid hb1
  clear hr1 hb1 hz1
  go_wp2_with fail
  refine (l20Filter_any _ _ _ _ HR1.out (by omega) (by omega)).mono ?_
  rintro e w2 ⟨v, p2, rfl, ⟨x, rfl, hx0, hx1⟩, ho2, hr2, hp2⟩
  have HO2 := Lib.hid ho2
  have HR2 := Lib.hid hr2
  clear ho2 hr2
  go_wp2_with fail
  refine (l20Prints_any _ _ _ _ HR2.out (by omega) (by omega)).mono ?_
  rintro e w3 ⟨v, l, p3, rfl, hown, hl, ho3, hr3, hp3⟩
  have HO3 := Lib.hid (HO2.out.trans ho3)
  have HW3 := Lib.hid (hown.mono (Nat.le_trans HB1.out.size HO2.out.size))
  clear ho3 hr3 hown
  go_wp2_with fail
  go_ret2
  exact ⟨_, _, _, rfl, HW3.out, hl, HB1.out.trans (HO3.out.below (Nat.le_refl _) HB1.out.size)⟩

/-! ### the laws -/
theorem spotOf_facts {seed many : Int} (h : ¬ spotOf seed many < 0) : pv seed = true ∧ 1 ≤ many ∧ many ≤ 16 ∧ spotOf seed many < many ∧ spotOf seed 1 = 0 := by
  by_cases hv : (pv seed && inI many 1 16) = true
  · have h2 : pv seed = true ∧ inI many 1 16 = true := by simpa using hv
    have hm : 1 ≤ many ∧ many ≤ 16 := by simpa [inI] using h2.2
    have e : spotOf seed many = prPair seed 17 % many := by unfold spotOf; rw [if_pos hv]
    have e1 : spotOf seed 1 = prPair seed 17 % 1 := by unfold spotOf; rw [if_pos]; rw [h2.1]; rfl
    exact ⟨h2.1, hm.1, hm.2, by rw [e]; exact Int.emod_lt_of_pos _ (by omega), by rw [e1]; omega⟩
  · exfalso; apply h; unfold spotOf; rw [if_neg hv]; omega
theorem spotOf_lt0 {seed many : Int} (h : spotOf seed many < 0) : spotOf seed many = -1 := by
  by_cases hv : (pv seed && inI many 1 16) = true
  · have h2 : pv seed = true ∧ inI many 1 16 = true := by simpa using hv
    have hm : 1 ≤ many ∧ many ≤ 16 := by simpa [inI] using h2.2
    have e : spotOf seed many = prPair seed 17 % many := by unfold spotOf; rw [if_pos hv]
    have := Int.emod_nonneg (prPair seed 17) (show many ≠ 0 by omega)
    omega
  · unfold spotOf; rw [if_neg hv]

set_option maxHeartbeats 2000000 in
set_option maxRecDepth 100000 in
theorem wFnSpotOf (A : Option Addr) (n c : Nat) (w : World) (hb : BytesIn w A n c) : Calls Try.prog 7 #[.slice A n c] w (LawOk w) := by
  by_cases h : n ≤ 1048576
  · have HBI := Lib.hid hb
    clear hb
    go_enter Try.func7, Try.ntmps7
    go_wp2_with fail
    refine (DrawSpotOf_any _ _ _ _ HBI.out).mono ?_
    rintro e w1 ⟨a, b, rfl, ha0, ha1, hb0, hb1, hbw⟩
    have HB1 := Lib.hid hbw
    clear hbw
    by_cases hneg : spotOf a b < 0
    · have e1 := spotOf_lt0 hneg
      have hI := iSpotOf_any a b
      have hS := sSpotOf_any a b
      rw [e1] at hI hS
      have HI := Lib.hid hI
      have HS := Lib.hid hS
      clear hI hS e1 hneg
      go_wp2_with (first | (go_at_call 33; refine (HI.out _).mono ?_; rintro e w' ⟨rfl, rfl⟩) | (go_at_call 32; refine (HS.out _).mono ?_; rintro e w' ⟨rfl, rfl⟩) | (go_at_call 41; refine (alive_any _).mono ?_; rintro e w' ⟨rfl, rfl⟩))
      go_ret
      exact ⟨rfl, HB1.out⟩
    · obtain ⟨h1, h2, h3, h4, h5⟩ := spotOf_facts hneg
      have hI := iSpotOf_any a b
      have hS := sSpotOf_any a b
      have hI1 := iSpotOf_any a 1
      rw [h5] at hI1
      generalize spotOf a b = m at *
      have HI := Lib.hid hI
      have HS := Lib.hid hS
      have HI1 := Lib.hid hI1
      clear hI hS hI1 h5
      go_wp2_with fail
      refine (HI.out _).mono ?_
      rintro e w' ⟨rfl, rfl⟩
      go_wp2_with (first | (go_at_call 32; refine (HS.out _).mono ?_; rintro e w' ⟨rfl, rfl⟩) | (go_at_call 33; refine (HI1.out _).mono ?_; rintro e w' ⟨rfl, rfl⟩))
      go_ret
      exact ⟨rfl, HB1.out⟩
  · go_enter Try.func7, Try.ntmps7
    go_wp2
    go_ret
    exact ⟨rfl, Below.refl _ _⟩

set_option maxHeartbeats 2000000 in
set_option maxRecDepth 100000 in
theorem wFnFilterJoin (A : Option Addr) (n c : Nat) (w : World) (hb : BytesIn w A n c) : Calls Try.prog 8 #[.slice A n c] w (LawOk w) := by
  by_cases h : n ≤ 1048576
  · have HBI := Lib.hid hb
    clear hb
    go_enter Try.func8, Try.ntmps8
    go_wp2_with fail
    refine (DrawFilterJoin_any _ _ _ _ HBI.out).mono ?_
    rintro e w1 ⟨a, b, rfl, ha0, ha1, hb0, hb1, hbw⟩
    have HB1 := Lib.hid hbw
    clear hbw
    have hI := iFilterJoin_any a b
    have hI2 := iFilterJoin_any b a
    have hS := sFilterJoin_any a b
    rw [join_comm b a] at hI2
    by_cases hneg : filterJoin a b < 0
    · have e1 := join_lt0 hneg
      rw [e1] at hI hS hI2
      have HI := Lib.hid hI
      have HS := Lib.hid hS
      have HI2 := Lib.hid hI2
      clear hI hS hI2 e1 hneg
      go_wp2_with fail
      refine (HI.out _).mono ?_
      rintro e w' ⟨rfl, rfl⟩
      go_wp2_with (first | (go_at_call 45; refine (HS.out _).mono ?_; rintro e w' ⟨rfl, rfl⟩) | (go_at_call 44; refine (HI2.out _).mono ?_; rintro e w' ⟨rfl, rfl⟩) | (go_at_call 41; refine (alive_any _).mono ?_; rintro e w' ⟨rfl, rfl⟩))
      go_ret
      exact ⟨rfl, HB1.out⟩
    · obtain ⟨h1, h2, h3, h4, h5, h6⟩ := join_facts hneg
      have hI3 := iFilterJoin_any (filterJoin a b) a
      rw [h3] at hI3
      generalize filterJoin a b = m at *
      have HI := Lib.hid hI
      have HS := Lib.hid hS
      have HI2 := Lib.hid hI2
      have HI3 := Lib.hid hI3
      clear hI hS hI2 hI3 h3
      go_wp2_with fail
      refine (HI.out _).mono ?_
      rintro e w' ⟨rfl, rfl⟩
      go_wp2_with fail
      refine (HS.out _).mono ?_
      rintro e w' ⟨rfl, rfl⟩
      go_wp2_with fail
      refine (HI2.out _).mono ?_
      rintro e w' ⟨rfl, rfl⟩
      go_wp2_with fail
      refine (HI3.out _).mono ?_
      rintro e w' ⟨rfl, rfl⟩
      go_wp2
      go_ret
      exact ⟨rfl, HB1.out⟩
  · go_enter Try.func8, Try.ntmps8
    go_wp2
    go_ret
    exact ⟨rfl, Below.refl _ _⟩

set_option maxHeartbeats 2000000 in
set_option maxRecDepth 100000 in
theorem wFnFilterHas (A : Option Addr) (n c : Nat) (w : World) (hb : BytesIn w A n c) : Calls Try.prog 10 #[.slice A n c] w (LawOk w) := by
  by_cases h : n ≤ 1048576
  · have HBI := Lib.hid hb
    clear hb
    go_enter Try.func10, Try.ntmps10
    go_wp2_with fail
    refine (DrawFilterHas_any _ _ _ _ HBI.out).mono ?_
    rintro e w1 ⟨a, b, rfl, ha0, ha1, hb0, hb1, hbw⟩
    have HB1 := Lib.hid hbw
    clear hbw
    have hI := iFilterHas_any a b
    have hS := sFilterHas_any a b
    have hI0 := iFilterHas_any 0 b
    rw [has_empty] at hI0
    have HI0 := Lib.hid hI0
    cases hh : filterHas a b
    · rw [hh] at hI hS
      have HI := Lib.hid hI
      have HS := Lib.hid hS
      clear hI hS hI0 hh
      go_wp2_with fail
      refine (HI.out _).mono ?_
      rintro e w2 ⟨rfl, n2, rfl⟩
      go_wp2_with fail
      refine (HS.out _).mono ?_
      rintro e w2 ⟨rfl, n3, rfl⟩
      go_wp2_with fail
      refine (HI0.out _).mono ?_
      rintro e w2 ⟨rfl, n4, rfl⟩
      go_wp2_with (go_at_call 41; refine (alive_any _).mono ?_; rintro e w' ⟨rfl, rfl⟩)
      go_ret
      exact ⟨rfl, Below_drewN HB1.out _⟩
    · have hI1 := iFilterHas_any 1073741823 b
      rw [has_full hh] at hI1
      rw [hh] at hI hS
      have HI := Lib.hid hI
      have HS := Lib.hid hS
      have HI1 := Lib.hid hI1
      clear hI hS hI0 hh hI1
      go_wp2_with fail
      refine (HI.out _).mono ?_
      rintro e w2 ⟨rfl, n2, rfl⟩
      go_wp2_with fail
      refine (HS.out _).mono ?_
      rintro e w2 ⟨rfl, n3, rfl⟩
      go_wp2_with fail
      refine (HI1.out _).mono ?_
      rintro e w2 ⟨rfl, n4, rfl⟩
      go_wp2_with fail
      refine (HI0.out _).mono ?_
      rintro e w2 ⟨rfl, n5, rfl⟩
      go_wp2_with (go_at_call 41; refine (alive_any _).mono ?_; rintro e w' ⟨rfl, rfl⟩)
      go_ret
      exact ⟨rfl, Below_drewN HB1.out _⟩
  · go_enter Try.func10, Try.ntmps10
    go_wp2
    go_ret
    exact ⟨rfl, Below.refl _ _⟩
end Go.Proofs.Ytbefbenihahdnaa
