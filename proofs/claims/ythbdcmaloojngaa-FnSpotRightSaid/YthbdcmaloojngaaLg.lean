/- FnSpotRight, walked. -/
import Derived.Test.YthbdcmaloojngaaLf
set_option linter.unusedVariables false
namespace Go.Proofs.Ythbdcmaloojngaa
open Go.RowKit

def DrawnSR (w : World) (e : Ending) (w' : World) : Prop :=
  ∃ (root many seed : Int) (t : ByteArray) (v : Value) (l : List Int), e = .returned (.tuple #[.int .i64 root, .int .i64 many, .int .i64 seed, .string t, v]) ∧ -1 ≤ root ∧ root ≤ 16777213 ∧ t.size ≤ 61 ∧ Own w' w.heap.size 3 1 encI v l ∧ l.length ≤ 5 ∧ Below w.heap.size w w'
set_option maxHeartbeats 8000000 in
set_option maxRecDepth 100000 in
theorem DrawSpotRight_any (A : Option Addr) (n c : Nat) (w : World) (hb : BytesIn w A n c) :
    Calls Try.prog 19 #[.slice A n c] w (DrawnSR w) := by
  go_enter Try.func19, Try.ntmps19
  go_wp2_with fail
  refine (l20Open_any _ _ _ _ hb).mono ?_
  rintro e w1 ⟨rfl, hb1, hr1, hz1⟩
  have HR1 := Lib.hid hr1
  have HB1 := Lib.hid hb1
  have HZ1 := Lib.hid hz1
  clear hr1 hb1 hz1
  go_wp2_with fail
  refine (l20Texts_any _ _ _ _ HR1.out (by omega) (by omega)).mono ?_
  rintro e w2 ⟨v1, ss, p2, rfl, hown, hf1, ho2, hr2, hp2⟩
  have hl1 := hf1.1
  have HO2 := Lib.hid ho2
  have HR2 := Lib.hid hr2
  have HW2 := Lib.hid hown
  have HF1 := Lib.hid (show Fit ss from fun s hs => Nat.le_trans (hf1.2.1 s hs) (by omega))
  have HSZ := Lib.hid hf1.2.1
  clear hr2 ho2 hown hf1
  go_wp2_with fail
  refine (l20Print_any _ _ _ _ HR2.out (by omega) (by omega)).mono ?_
  rintro e w3 ⟨v3, p3, rfl, ⟨seed, rfl, hs0, hs1⟩, ho3, hr3, hp3⟩
  have HR3 := Lib.hid hr3
  have HO3 := Lib.hid (HO2.out.trans ho3)
  have hown3 := HW2.out.only ho3 (by have := HZ1.out; omega)
  obtain ⟨X, d, rfl, _, hsl3, _⟩ := hown3.sl
  have HS3 := Lib.hid hsl3
  clear hr3 ho3 hown3 hsl3
  have HTS := Lib.hid (show ∀ m, (ansT ss m).size ≤ 61 from fun m => by
    unfold ansT; split
    · rename_i hh
      obtain ⟨_, h0, h1⟩ := ansOk_iff.1 hh
      have hk : m.toNat < ss.length := by omega
      rw [List.getD_eq_getElem?_getD, List.getElem?_eq_getElem hk]
      exact Nat.le_trans (HSZ.out _ (by simp)) (by omega)
    · decide)
  have HPL := Lib.hid (fun m => ansP_len ss m)
  have hbd := spotRoot_bd ss
  have HSR := Lib.hid (fun w h => sSpotRoot_any X d ss w h (by omega) HF1.out)
  generalize spotRoot ss = r at *
  go_wp2_with fail
  all_goals
    refine (sSpotOf_any _ _ _).mono ?_
    rintro e w' ⟨rfl, rfl⟩
    generalize spotOf _ _ = m at *
    go_wp2_with fail
    refine (sSpotAnswer_any X d ss m _ HS3.out (by omega) HF1.out).mono ?_
    rintro e w4 ⟨v4, rfl, hown4, hb4⟩
    have hts := HTS.out m
    have hpl := HPL.out m
    generalize ansT ss m = tt at *
    generalize ansP ss m = pp at *
    generalize ansOk ss m = ok at *
    have HW4 := Lib.hid hown4
    have HR4 := Lib.hid (HR3.out.below hb4)
    have HO4 := Lib.hid (HO3.out.trans (Only.of_below hb4))
    have HS4 := Lib.hid (HS3.out.below hb4)
    clear hown4 hb4
    go_wp2_with fail
    refine (HSR.out _ HS4.out).mono ?_
    rintro e w5 ⟨rfl, hb5⟩
    have HW5 := Lib.hid (HW4.out.below hb5)
    have HR5 := Lib.hid (HR4.out.below hb5)
    have HO5 := Lib.hid (HO4.out.trans (Only.of_below hb5))
    have hz5 : w.heap.size < w3.heap.size := by have := HZ1.out; have := HO3.out.size; omega
    clear hb5
    go_wp2_with fail
    refine (pick_any 6 _ _ _ HR5.out (by omega) (by omega)).mono ?_
    rintro e w6 ⟨x, rfl, hx, ho6, hr6⟩
    have HR6 := Lib.hid hr6
    have HO6 := Lib.hid (HO5.out.trans ho6)
    have HW6 := Lib.hid (HW5.out.only ho6 hz5)
    clear hr6 ho6
    have hx6 : x = 0 ∨ x = 1 ∨ x = 2 ∨ x = 3 ∨ x = 4 ∨ x = 5 := by omega
    clear hx
    have fin : ∀ (root many : Int) (t : ByteArray) (w7 : World), -1 ≤ root → root ≤ 16777213 → t.size ≤ 61 → Only w.heap.size w1 w7 → Own w7 w3.heap.size 3 1 encI v4 pp → DrawnSR w (.returned (.tuple #[.int .i64 root, .int .i64 many, .int .i64 seed, .string t, v4])) w7 := fun root many t w7 h1 h2 h3 h4 h5 =>
      ⟨root, many, seed, t, v4, pp, rfl, h1, h2, h3, h5.mono (Nat.le_of_lt hz5), hpl, HB1.out.trans (h4.below (Nat.le_refl _) HB1.out.size)⟩
    have FIN := Lib.hid fin
    clear fin
    obtain ⟨Y, dd, rfl, _, _, _⟩ := HW6.out.sl
    rcases hx6 with rfl | rfl | rfl | rfl | rfl | rfl
    · go_wp2_with fail
      refine (l20Text_any _ _ _ _ HR6.out (by omega) (by omega)).mono ?_
      rintro e w7 ⟨v7, p7, rfl, ⟨t, rfl, ht⟩, ho7, hr7, hp7⟩
      have HO7 := Lib.hid (HO6.out.trans ho7)
      have HW7 := Lib.hid (HW6.out.only ho7 hz5)
      clear ho7 hr7
      go_wp2
      exact bodyPost_ret (v := .tuple #[.int .i64 r, .int .i64 (ss.length : Int), .int .i64 seed, .string t, .slice Y pp.length dd]) (by simp [results, Try.results19, go_sem]) rfl (FIN.out _ _ _ _ hbd.1 (by omega) ht HO7.out HW7.out)
    · go_wp2_with fail
      refine (l20Print_any _ _ _ _ HR6.out (by omega) (by omega)).mono ?_
      rintro e w7 ⟨v7, p7, rfl, ⟨root, rfl, hr0, hr1⟩, ho7, hr7, hp7⟩
      have HO7 := Lib.hid (HO6.out.trans ho7)
      have HW7 := Lib.hid (HW6.out.only ho7 hz5)
      clear ho7 hr7
      go_wp2
      exact bodyPost_ret (v := .tuple #[.int .i64 root, .int .i64 (ss.length : Int), .int .i64 seed, .string tt, .slice Y pp.length dd]) (by simp [results, Try.results19, go_sem]) rfl (FIN.out _ _ _ _ hr0 hr1 hts HO7.out HW7.out)
    · go_wp2_with fail
      refine (pick_any 18 _ _ _ HR6.out (by omega) (by omega)).mono ?_
      rintro e w7 ⟨y, rfl, hy, ho7, hr7⟩
      have HO7 := Lib.hid (HO6.out.trans ho7)
      have HW7 := Lib.hid (HW6.out.only ho7 hz5)
      clear ho7 hr7
      go_wp2
      exact bodyPost_ret (v := .tuple #[.int .i64 r, .int .i64 (y : Int), .int .i64 seed, .string tt, .slice Y pp.length dd]) (by simp [results, Try.results19, go_sem]) rfl (FIN.out _ _ _ _ hbd.1 (by omega) hts HO7.out HW7.out)
    all_goals
      go_wp2
      exact bodyPost_ret (v := .tuple #[.int .i64 r, .int .i64 (ss.length : Int), .int .i64 seed, .string tt, .slice Y pp.length dd]) (by simp [results, Try.results19, go_sem]) rfl (FIN.out _ _ _ _ hbd.1 (by omega) hts HO6.out HW6.out)
set_option maxHeartbeats 8000000 in
set_option maxRecDepth 100000 in
theorem wFnSpotRight (A : Option Addr) (n c : Nat) (w : World) (hb : BytesIn w A n c) : Calls Try.prog 6 #[.slice A n c] w (LawOk w) := by
  by_cases h : n ≤ 1048576
  case neg =>
    go_enter Try.func6, Try.ntmps6
    go_wp2
    go_ret
    exact ⟨rfl, Below.refl _ _⟩
  have HBI := Lib.hid hb
  clear hb
  go_enter Try.func6, Try.ntmps6
  go_wp2_with fail
  refine (DrawSpotRight_any _ _ _ _ HBI.out).mono ?_
  rintro e w1 ⟨root, many, seed, t, v, l, rfl, hr0, hr1, ht, hown1, hl, hb1⟩
  obtain ⟨A1, c1, rfl, hle1, hs1, _⟩ := hown1.sl
  have HS1 := Lib.hid hs1
  have HB1 := Lib.hid hb1
  clear hown1 hs1 hb1
  have hI := fun w h => iSpotRight_any root many seed t A1 c1 l w h (by omega) (by omega)
  have hS := fun w h => sSpotRight_any root many seed t A1 c1 l w h (by omega) (by omega)
  cases hok : spotR root many seed t l
  · rw [hok] at hI hS
    have HI := Lib.hid hI
    have HS := Lib.hid hS
    clear hI hS hok
    go_wp2_with (first | (go_at_call 17; refine (HI.out _ HS1.out).mono ?_; rintro e w' ⟨rfl, rfl⟩) | (go_at_call 20; refine (HS.out _ HS1.out).mono ?_; rintro e w' ⟨rfl, rfl⟩) | (go_at_call 12; refine (alive_any _).mono ?_; rintro e w' ⟨rfl, rfl⟩))
    go_ret
    exact ⟨rfl, HB1.out⟩
  · have hN := fun w h => iSpotRight_any (root + 1) many seed t A1 c1 l w h (by omega) (by omega)
    rw [spotR_next hok] at hN
    rw [hok] at hI hS
    have HI := Lib.hid hI
    have HS := Lib.hid hS
    have HN := Lib.hid hN
    clear hI hS hN hok
    go_wp2_with fail
    refine (HI.out _ HS1.out).mono ?_
    rintro e w' ⟨rfl, rfl⟩
    go_wp2_with (first | (go_at_call 20; refine (HS.out _ HS1.out).mono ?_; rintro e w' ⟨rfl, rfl⟩) | (go_at_call 17; refine (HN.out _ HS1.out).mono ?_; rintro e w' ⟨rfl, rfl⟩) | (go_at_call 12; refine (alive_any _).mono ?_; rintro e w' ⟨rfl, rfl⟩))
    go_ret
    exact ⟨rfl, HB1.out⟩
end Go.Proofs.Ythbdcmaloojngaa
