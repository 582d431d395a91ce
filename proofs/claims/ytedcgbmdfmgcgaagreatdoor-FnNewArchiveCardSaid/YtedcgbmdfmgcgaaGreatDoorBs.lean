/- Where a print stands: cmp.Compare, slices.BinarySearchFunc, findPiece, walked. -/
import Derived.Test.YtedcgbmdfmgcgaaGreatDoorSto
import Derived.Shelf.Abstract
set_option linter.unusedVariables false
namespace Go.Proofs.YtedcgbmdfmgcgaaGreatDoor
open Go.RowKit

def cmp3 (a b : Int) : Int := if a < b then -1 else if b < a then 1 else 0
set_option maxHeartbeats 2000000 in
set_option maxRecDepth 100000 in
theorem isNaN_any (a : Int) (w : World) : Calls Tryz.prog 143 #[.int .i64 a] w fun e w' => e = .returned (.bool false) ∧ w = w' := by
  go_enter Tryz.func143, Tryz.ntmps143
  go_wp2
  go_ret
  exact ⟨ret_bool (by simp), rfl⟩
set_option maxHeartbeats 2000000 in
set_option maxRecDepth 100000 in
theorem Compare_any (a b : Int) (w : World) : Calls Tryz.prog 122 #[.int .i64 a, .int .i64 b] w fun e w' => e = .returned (.int .i64 (cmp3 a b)) ∧ w = w' := by
  by_cases h1 : a < b
  · have E : Hid (cmp3 a b = -1) := by show _ = _; unfold cmp3; rw [if_pos h1]
    go_enter Tryz.func122, Tryz.ntmps122
    go_wp2_with (go_at_call 143; refine (isNaN_any _ _).mono ?_; rintro e w' ⟨rfl, rfl⟩)
    go_ret
    exact ⟨ret_int E.out.symm, rfl⟩
  · by_cases h2 : b < a
    · have E : Hid (cmp3 a b = 1) := by show _ = _; unfold cmp3; rw [if_neg h1, if_pos h2]
      go_enter Tryz.func122, Tryz.ntmps122
      go_wp2_with (go_at_call 143; refine (isNaN_any _ _).mono ?_; rintro e w' ⟨rfl, rfl⟩)
      go_ret
      exact ⟨ret_int E.out.symm, rfl⟩
    · have E : Hid (cmp3 a b = 0) := by show _ = _; unfold cmp3; rw [if_neg h1, if_neg h2]
      go_enter Tryz.func122, Tryz.ntmps122
      go_wp2_with (go_at_call 143; refine (isNaN_any _ _).mono ?_; rintro e w' ⟨rfl, rfl⟩)
      go_ret
      exact ⟨ret_int E.out.symm, rfl⟩
set_option maxHeartbeats 2000000 in
set_option maxRecDepth 100000 in
theorem fpCmp_any (a x : Int) (t : ByteArray) (w : World) : Calls Tryz.prog 121 #[.agg #[.int .i64 a, .string t], .int .i64 x] w fun e w' => e = .returned (.int .i64 (cmp3 a x)) ∧ Below w.heap.size w w' := by
  have HB := Lib.hid ((Below.refl w.heap.size w).alloc (Nat.le_refl _) (.cells #[.int .i64 a, .string t] 83))
  generalize hc : cmp3 a x = c at *
  have HC := Lib.hid (fun w => hc ▸ Compare_any a x w)
  clear hc
  go_enter Tryz.func121, Tryz.ntmps121
  go_wp2_with (go_at_call 122; refine (HC.out _).mono ?_; rintro e w' ⟨rfl, rfl⟩)
  go_ret
  exact ⟨rfl, HB.out⟩
def FpRes (l : List Pc) (x : Int) (w : World) (e : Ending) (w' : World) : Prop := e = .returned (.tuple #[.int .i64 (below l x : Nat), .bool (hereP l x)]) ∧ Below w.heap.size w w'
theorem ret_two {a b : Int} {c d : Bool} (h1 : a = b) (h2 : c = d) : Ending.returned (.tuple #[.int .i64 a, .bool c]) = .returned (.tuple #[.int .i64 b, .bool d]) := by rw [h1, h2]
set_option maxHeartbeats 4000000 in
set_option maxRecDepth 100000 in
theorem BSearch_any (A : Option Addr) (c : Nat) (l : List Pc) (x : Int) (w : World) (hs : Sl w encP 2 A l) (hl : l.length ≤ 16777216) (hso : Sorted l) :
    Calls Tryz.prog 120 #[.slice A l.length c, .int .i64 x, .func (.func 121) #[] #[]] w (FpRes l x w) := by
  have HS := Lib.hid hs
  have HSO := Lib.hid hso
  clear hs hso
  go_enter Tryz.func120, Tryz.ntmps120
  go_wp2_with fail
  go_loopw [9, 10] (fun vi vj wr => ∃ lo hi : Nat, vi = .int .i64 lo ∧ vj = .int .i64 hi ∧ lo ≤ hi ∧ hi ≤ l.length ∧ Hid (∀ t (h : t < l.length), t < lo → l[t].1 < x) ∧ Hid (∀ t (h : t < l.length), hi ≤ t → x ≤ l[t].1) ∧ Hid (Below w.heap.size w wr)) (fun vi vj _ => (intOf vj).toNat - (intOf vi).toNat)
  case atStart => exact ⟨0, l.length, rfl, rfl, Nat.zero_le _, Nat.le_refl _, (fun t h h2 => by omega), (fun t h h2 => by omega), Below.refl _ _⟩
  case round =>
    obtain ⟨lo, hi, rfl, rfl, hle, hhi, H1, H2, HB⟩ := hrel
    by_cases hlt : lo < hi
    · obtain ⟨m, hm⟩ : ∃ m, m = (lo + hi) / 2 := ⟨_, rfl⟩
      have hm1 : lo ≤ m := by omega
      have hm2 : m < hi := by omega
      have hml : m < l.length := by omega
      have hmi : ((lo : Int) + (hi : Int)) / 2 = (m : Int) := by omega
      obtain ⟨b, o, rfl, hc0, hc1⟩ := (HS.out.below HB.out).getP hml
      have HP := Lib.hid (List.pairwise_iff_getElem.1 HSO.out)
      have HQ1 := Lib.hid (fun (hx : l[m].1 < x) (t : Nat) (h : t < l.length) (ht : t < m + 1) => show l[t].1 < x by
        by_cases e : t = m
        · subst e; exact hx
        · have := HP.out t m h hml (by omega); omega)
      have HQ2 := Lib.hid (fun (hx : ¬ l[m].1 < x) (t : Nat) (h : t < l.length) (ht : m ≤ t) => show x ≤ l[t].1 by
        by_cases e : m = t
        · subst e; omega
        · have := HP.out m t hml h (by omega); omega)
      generalize l[m] = p at *
      obtain ⟨a, t⟩ := p
      simp only at *
      clear hm HP
      by_cases hax : a < x
      · have HN := Lib.hid (HQ1.out hax)
        have hcm : cmp3 a x = -1 := by unfold cmp3; rw [if_pos hax]
        have hC := fun w => fpCmp_any a x t w
        rw [hcm] at hC
        have HC := Lib.hid hC
        clear hC hcm HQ1 HQ2
        go_wp2_with ((first | go_at_call 121 | go_at_fn 121); refine (HC.out _).mono ?_; rintro e w2 ⟨rfl, hb2⟩; have HB2 := Lib.hid (Below_then HB.out hb2 (Nat.le_refl _)); clear hb2)
        go_roundw
        case rel => exact ⟨m + 1, hi, by go_num, rfl, by omega, hhi, HN.out, H2.out, HB2.out⟩
        case measure => simp [intOf]; omega
      · have HN := Lib.hid (HQ2.out hax)
        have hcm : ¬ cmp3 a x < 0 := by unfold cmp3; rw [if_neg hax]; split <;> omega
        have hC := fun w => fpCmp_any a x t w
        generalize cmp3 a x = cv at *
        have HC := Lib.hid hC
        clear hC HQ1 HQ2
        go_wp2_with ((first | go_at_call 121 | go_at_fn 121); refine (HC.out _).mono ?_; rintro e w2 ⟨rfl, hb2⟩; have HB2 := Lib.hid (Below_then HB.out hb2 (Nat.le_refl _)); clear hb2)
        go_roundw
        case rel => exact ⟨lo, m, rfl, rfl, by omega, by omega, H1.out, HN.out, HB2.out⟩
        case measure => simp [intOf]; omega
    · obtain rfl : hi = lo := by omega
      have HE := Lib.hid (below_of l x hi hhi H1.out (fun h => Int.not_lt.2 (H2.out hi h (Nat.le_refl _))))
      by_cases hn : hi < l.length
      · obtain ⟨b, o, rfl, hc0, hc1⟩ := (HS.out.below HB.out).getP hn
        have hh : hereP l x = decide (l[hi].1 = x) := by unfold hereP; rw [HE.out, getD_pc hn, decide_eq_true hn, Bool.true_and]
        have hnl := Int.not_lt.2 (H2.out hi hn (Nat.le_refl _))
        generalize l[hi] = p at *
        obtain ⟨a, t⟩ := p
        simp only at *
        by_cases hax : a = x
        · have HH := Lib.hid (show hereP l x = true by rw [hh]; exact decide_eq_true hax)
          have hcm : cmp3 a x = 0 := by unfold cmp3; rw [if_neg hnl, if_neg (by omega)]
          have hC := fun w => fpCmp_any a x t w
          rw [hcm] at hC
          have HC := Lib.hid hC
          clear hC hcm hh hax
          go_wp2_with ((first | go_at_call 121 | go_at_fn 121); refine (HC.out _).mono ?_; rintro e w2 ⟨rfl, hb2⟩; have HB2 := Lib.hid (Below_then HB.out hb2 (Nat.le_refl _)); clear hb2)
          go_ret2
          exact ⟨ret_two (by rw [HE.out]) (by rw [HH.out]), HB2.out⟩
        · have HH := Lib.hid (show hereP l x = false by rw [hh]; exact decide_eq_false hax)
          have hcm : (cmp3 a x == 0) = false := by unfold cmp3; rw [if_neg hnl, if_pos (by omega)]; rfl
          have hC := fun w => fpCmp_any a x t w
          generalize cmp3 a x = cv at *
          have HC := Lib.hid hC
          clear hC hh hax
          go_wp2_with ((first | go_at_call 121 | go_at_fn 121); refine (HC.out _).mono ?_; rintro e w2 ⟨rfl, hb2⟩; have HB2 := Lib.hid (Below_then HB.out hb2 (Nat.le_refl _)); clear hb2)
          go_ret2
          exact ⟨ret_two (by rw [HE.out]) (by rw [HH.out]), HB2.out⟩
      · have HH := Lib.hid (show hereP l x = false by unfold hereP; rw [HE.out, decide_eq_false hn]; rfl)
        go_wp2
        go_ret2
        exact ⟨ret_two (by rw [HE.out]) (by rw [HH.out]), HB.out⟩
set_option maxHeartbeats 4000000 in
set_option maxRecDepth 100000 in
theorem findPiece_any (A : Option Addr) (c : Nat) (l : List Pc) (x : Int) (w : World) (hs : Sl w encP 2 A l) (hl : l.length ≤ 16777216) (hso : Sorted l) :
    Calls Tryz.prog 101 #[.slice A l.length c, .int .i64 x] w (FpRes l x w) := by
  have HX := Lib.hid (fun w h => BSearch_any A c l x w h hl hso)
  have HS := Lib.hid hs
  clear hs hso
  unfold FpRes at *
  go_enter Tryz.func101, Tryz.ntmps101
  go_wp2_with fail
  refine (HX.out _ HS.out).mono ?_
  rintro e w1 ⟨rfl, hb⟩
  have HB := Lib.hid hb
  clear hb
  go_wp2
  go_ret2
  exact ⟨rfl, HB.out⟩
end Go.Proofs.YtedcgbmdfmgcgaaGreatDoor
