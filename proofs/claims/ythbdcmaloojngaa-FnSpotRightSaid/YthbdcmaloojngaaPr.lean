/- Roots of proofs, walked. -/
import Derived.Test.YthbdcmaloojngaaTr3
set_option linter.unusedVariables false
namespace Go.Proofs.Ythbdcmaloojngaa
open Go.RowKit

theorem rootF_one {x p : Int} {r : List Int} {N : Nat} : rootF (x :: r) p N 1 = -1 := by rw [rootF, if_pos rfl]
theorem rootF_alone {p : Int} {r : List Int} {N M : Nat} (h1 : M ≠ 1) (h2 : M ≤ N ^^^ 1) : rootF (-1 :: r) p N M = rootF r p (N / 2) ((M + 1) / 2) := by rw [rootF, if_neg h1, if_pos h2, if_pos rfl]
theorem rootF_alone_bad {x p : Int} {r : List Int} {N M : Nat} (h1 : M ≠ 1) (h2 : M ≤ N ^^^ 1) (hx : x ≠ -1) : rootF (x :: r) p N M = -1 := by rw [rootF, if_neg h1, if_pos h2, if_neg hx]
theorem rootF_bad {x p : Int} {r : List Int} {N M : Nat} (h1 : M ≠ 1) (h2 : ¬ M ≤ N ^^^ 1) (hx : pv x = false) : rootF (x :: r) p N M = -1 := by rw [rootF, if_neg h1, if_neg h2, if_neg (by rw [hx]; simp)]
theorem rootF_left {x p : Int} {r : List Int} {N M : Nat} (h1 : M ≠ 1) (h2 : ¬ M ≤ N ^^^ 1) (hx : pv x = true) (h : N % 2 = 0) : rootF (x :: r) p N M = rootF r (prPair p x) (N / 2) ((M + 1) / 2) := by rw [rootF, if_neg h1, if_neg h2, if_pos hx, if_pos h]
theorem rootF_right {x p : Int} {r : List Int} {N M : Nat} (h1 : M ≠ 1) (h2 : ¬ M ≤ N ^^^ 1) (hx : pv x = true) (h : ¬ N % 2 = 0) : rootF (x :: r) p N M = rootF r (prPair x p) (N / 2) ((M + 1) / 2) := by rw [rootF, if_neg h1, if_neg h2, if_pos hx, if_neg h]
theorem rootF_end {p : Int} {N M : Nat} : rootF [] p N M = if 1 < M then -1 else p := rfl
theorem inTree_iff {p n m : Int} : inTree p n m = true ↔ pv p = true ∧ (1 ≤ m ∧ m ≤ 16) ∧ (0 ≤ n ∧ n < m) := by
  unfold inTree; simp only [Bool.and_eq_true, decide_eq_true_eq, and_assoc]
theorem proofRoot_out {p n m : Int} {l : List Int} (h : inTree p n m = false) : proofRoot p n m l = -1 := by unfold proofRoot; rw [h]; rfl
theorem inTree_bad {p n m : Int} (h : ¬ (pv p = true ∧ (1 ≤ m ∧ m ≤ 16) ∧ (0 ≤ n ∧ n < m))) : inTree p n m = false := by
  cases hh : inTree p n m
  · rfl
  · exact absurd (inTree_iff.1 hh) h
/-- How a proof is read: what is left to be reckoned. -/
def RootAt (l : List Int) (R : Int) (k : Nat) (p : Int) (N M : Nat) : Prop := R = rootF (l.drop k) p N M
theorem RootAt.cons {l : List Int} {R p : Int} {k N M : Nat} (h : RootAt l R k p N M) (hk : k < l.length) : R = rootF (l[k] :: l.drop (k + 1)) p N M := by
  unfold RootAt at h; rw [h, List.drop_eq_getElem_cons hk]
theorem RootAt.nil {l : List Int} {R p : Int} {k N M : Nat} (h : RootAt l R k p N M) (hk : ¬ k < l.length) : R = if 1 < M then -1 else p := by
  unfold RootAt at h; rw [h, List.drop_of_length_le (by omega)]; rfl

set_option maxHeartbeats 4000000 in
set_option maxRecDepth 100000 in
theorem iProofRoot_in (A : Option Addr) (c : Nat) (l : List Int) (p : Int) (n m : Nat) (w : World) (hs : Sl w encI 1 A l) (hl : l.length ≤ 16777216) (hp : pv p = true) (hm1 : 1 ≤ m) (hm : m ≤ 16) (hn : n < m) :
    Calls Try.prog 24 #[.int .i64 p, .int .i64 n, .int .i64 m, .slice A l.length c] w fun e w' => e = .returned (.int .i64 (rootF l p n m)) ∧ w = w' := by
  have HS := Lib.hid hs
  clear hs
  generalize hR : rootF l p n m = R
  have HR := Lib.hid (show RootAt l R 0 p n m from hR.symm)
  clear hR
  have hd1 : decide (m ≤ n) = false := decide_eq_false (by omega)
  go_enter Try.func24, Try.ntmps24
  go_wp2_with (go_at_call 39; refine (iprintValid_any _ _).mono ?_; rintro e w' ⟨rfl, rfl⟩)
  clear hp hd1
  go_loop [0, 1, 2, 33] (fun sp sn sm si => ∃ (k : Nat) (P : Int) (N M : Nat), k ≤ l.length ∧ si = .int .i64 k ∧ sp = .int .i64 P ∧ sn = .int .i64 (N : Int) ∧ sm = .int .i64 (M : Int) ∧ 1 ≤ M ∧ M ≤ 16 ∧ N < M ∧ Hid (RootAt l R k P N M)) (fun _ _ _ i => l.length - (intOf i).toNat)
  case atStart => exact ⟨0, p, n, m, Nat.zero_le _, rfl, rfl, rfl, rfl, hm1, hm, hn, HR⟩
  case round =>
    obtain ⟨k, P, N, M, hk, rfl, rfl, rfl, rfl, hM1, hM, hN, hh⟩ := hrel
    clear hm1 hm hn
    by_cases hlt : k < l.length
    · obtain ⟨b, o, rfl, hc⟩ := HS.out.getI hlt
      have hcons := hh.out.cons hlt
      have HC := Lib.hid hcons
      clear hcons hh
      have hx := xor1_int N (by omega)
      by_cases hM2 : M = 1
      · subst hM2
        have e := HC.out.trans rootF_one
        have HE := Lib.hid e
        clear e
        go_wp2
        go_ret
        exact ⟨ret_int HE.out.symm, rfl⟩
      · have hMe : ((M : Int) == 1) = false := beq_eq_false_iff_ne.2 (by omega)
        have r1 := @rootF_alone P (l.drop (k + 1)) N M hM2
        have r2 := @rootF_alone_bad l[k] P (l.drop (k + 1)) N M hM2
        have r3 := @rootF_bad l[k] P (l.drop (k + 1)) N M hM2
        have r4 := @rootF_left l[k] P (l.drop (k + 1)) N M hM2
        have r5 := @rootF_right l[k] P (l.drop (k + 1)) N M hM2
        generalize hX : N ^^^ 1 = X at *
        have HX := Lib.hid hX
        clear hX
        generalize l[k] = x at *
        have R1 := Lib.hid r1
        have R2 := Lib.hid r2
        have R3 := Lib.hid r3
        have R4 := Lib.hid r4
        have R5 := Lib.hid r5
        clear r1 r2 r3 r4 r5
        by_cases hal : M ≤ X
        · by_cases hx1 : x = -1
          · subst hx1
            go_wp2
            go_round
            case rel => exact ⟨k + 1, P, N / 2, (M + 1) / 2, by omega, by go_num, rfl, by go_num, by go_num, by omega, by omega, by omega, HC.out.trans (R1.out hal)⟩
            case measure => simp [intOf]; omega
          · have e := HC.out.trans (R2.out hal hx1)
            have HE := Lib.hid e
            clear e
            have hxe : (x == -1) = false := beq_eq_false_iff_ne.2 hx1
            have hxn : (x != -1) = true := bne_iff_ne.2 hx1
            go_wp2
            go_ret
            exact ⟨ret_int HE.out.symm, rfl⟩
        · cases hpx : pv x
          · have e := HC.out.trans (R3.out hal hpx)
            have HE := Lib.hid e
            clear e
            go_wp2_with (go_at_call 39; refine (iprintValid_any _ _).mono ?_; rintro e w' ⟨rfl, rfl⟩)
            go_ret
            exact ⟨ret_int HE.out.symm, rfl⟩
          · by_cases h2 : N % 2 = 0
            · have he : ((N : Int) % 2 == 0) = true := beq_iff_eq.2 (by omega)
              have e := HC.out.trans (R4.out hal hpx h2)
              have HE := Lib.hid e
              clear e
              go_wp2_with (first | (go_at_call 39; refine (iprintValid_any _ _).mono ?_; rintro e w' ⟨rfl, rfl⟩) | (go_at_call 40; refine (iPrintPair_any _ _ _).mono ?_; rintro e w' ⟨rfl, rfl⟩))
              go_round
              case rel => exact ⟨k + 1, _, N / 2, (M + 1) / 2, by omega, by go_num, rfl, by go_num, by go_num, by omega, by omega, by omega, HE.out⟩
              case measure => simp [intOf]; omega
            · have he : ((N : Int) % 2 == 0) = false := beq_eq_false_iff_ne.2 (by omega)
              have e := HC.out.trans (R5.out hal hpx h2)
              have HE := Lib.hid e
              clear e
              go_wp2_with (first | (go_at_call 39; refine (iprintValid_any _ _).mono ?_; rintro e w' ⟨rfl, rfl⟩) | (go_at_call 40; refine (iPrintPair_any _ _ _).mono ?_; rintro e w' ⟨rfl, rfl⟩))
              go_round
              case rel => exact ⟨k + 1, _, N / 2, (M + 1) / 2, by omega, by go_num, rfl, by go_num, by go_num, by omega, by omega, by omega, HE.out⟩
              case measure => simp [intOf]; omega
    · have e := hh.out.nil hlt
      clear hh
      by_cases hM2 : 1 < M
      · rw [if_pos hM2] at e
        have HE := Lib.hid e
        clear e
        go_wp2
        go_ret
        exact ⟨ret_int HE.out.symm, rfl⟩
      · rw [if_neg hM2] at e
        have HE := Lib.hid e
        clear e
        go_wp2
        go_ret
        exact ⟨ret_int HE.out.symm, rfl⟩
set_option maxHeartbeats 4000000 in
set_option maxRecDepth 100000 in
theorem iProofRoot_any (A : Option Addr) (c : Nat) (l : List Int) (p n m : Int) (w : World) (hs : Sl w encI 1 A l) (hl : l.length ≤ 16777216) :
    Calls Try.prog 24 #[.int .i64 p, .int .i64 n, .int .i64 m, .slice A l.length c] w fun e w' => e = .returned (.int .i64 (proofRoot p n m l)) ∧ w = w' := by
  by_cases hin : pv p = true ∧ (1 ≤ m ∧ m ≤ 16) ∧ (0 ≤ n ∧ n < m)
  · have h := inTree_iff.2 hin
    obtain ⟨hp, hm, hn⟩ := hin
    obtain ⟨N, rfl⟩ := Int.eq_ofNat_of_zero_le hn.1
    obtain ⟨M, rfl⟩ := Int.eq_ofNat_of_zero_le (show 0 ≤ m by omega)
    have e : proofRoot p N M l = rootF l p N M := by unfold proofRoot; rw [if_pos h]; rfl
    rw [e]
    exact iProofRoot_in A c l p N M w hs hl hp (by omega) (by omega) (by omega)
  · rw [proofRoot_out (inTree_bad hin)]
    cases hp : pv p
    · clear hin
      go_enter Try.func24, Try.ntmps24
      go_wp2_with (go_at_call 39; refine (iprintValid_any _ _).mono ?_; rintro e w' ⟨rfl, rfl⟩)
      go_ret
      exact ⟨rfl, rfl⟩
    · by_cases h1 : m < 1
      · clear hin
        go_enter Try.func24, Try.ntmps24
        go_wp2_with (go_at_call 39; refine (iprintValid_any _ _).mono ?_; rintro e w' ⟨rfl, rfl⟩)
        go_ret
        exact ⟨rfl, rfl⟩
      · by_cases h2 : 16 < m
        · clear hin
          go_enter Try.func24, Try.ntmps24
          go_wp2_with (go_at_call 39; refine (iprintValid_any _ _).mono ?_; rintro e w' ⟨rfl, rfl⟩)
          go_ret
          exact ⟨rfl, rfl⟩
        · by_cases h3 : n < 0
          · clear hin
            go_enter Try.func24, Try.ntmps24
            go_wp2_with (go_at_call 39; refine (iprintValid_any _ _).mono ?_; rintro e w' ⟨rfl, rfl⟩)
            go_ret
            exact ⟨rfl, rfl⟩
          · have h4 : m ≤ n := by
              by_cases h4 : m ≤ n
              · exact h4
              · exact absurd ⟨hp, by omega, by omega⟩ hin
            clear hin
            go_enter Try.func24, Try.ntmps24
            go_wp2_with (go_at_call 39; refine (iprintValid_any _ _).mono ?_; rintro e w' ⟨rfl, rfl⟩)
            go_ret
            exact ⟨rfl, rfl⟩

theorem inI_pv {x : Int} (h : inI x (-1) 16777212 = true) (hx : x ≠ -1) : pv x = true := by
  simp only [inI, decide_eq_true_eq] at h; exact pv_iff.2 (by omega)
theorem inI_bad {x : Int} (h : inI x (-1) 16777212 = false) : pv x = false ∧ x ≠ -1 := by
  simp only [inI, decide_eq_false_iff_not] at h
  exact ⟨pv_false.2 (by omega), by omega⟩
theorem alone_iff {N M : Nat} (hN : N < M) : M ≤ N ^^^ 1 ↔ N % 2 = 0 ∧ N + 1 = M := by
  by_cases h : N % 2 = 0
  · rw [xor1_even h]; omega
  · rw [xor1_odd (by omega)]; omega
set_option maxHeartbeats 4000000 in
set_option maxRecDepth 100000 in
theorem sProofRoot_in (A : Option Addr) (c : Nat) (l : List Int) (p : Int) (n m : Nat) (w : World) (hs : Sl w encI 1 A l) (hl : l.length ≤ 16777216) (hp : pv p = true) (hm1 : 1 ≤ m) (hm : m ≤ 16) (hn : n < m) :
    Calls Try.prog 49 #[.int .i64 p, .int .i64 n, .int .i64 m, .slice A l.length c] w fun e w' => e = .returned (.int .i64 (rootF l p n m)) ∧ w = w' := by
  have HS := Lib.hid hs
  clear hs
  generalize hR : rootF l p n m = R
  have HR := Lib.hid (show RootAt l R 0 p n m from hR.symm)
  clear hR
  have i1 : inI p 0 16777212 = true := hp
  have i2 : inI (m : Int) 1 16 = true := inI_true (by omega)
  have i3 : inI (n : Int) 0 ((m : Int) - 1) = true := inI_true (by omega)
  clear hp
  go_enter Try.func49, Try.ntmps49
  go_wp2_with (go_at_call 51; refine (sl1In_any _ _ _ _).mono ?_; rintro e w' ⟨rfl, rfl⟩)
  clear i1 i2 i3
  go_loop [0, 1, 2, 9] (fun sp sn sm si => ∃ (k : Nat) (P : Int) (N M : Nat), k ≤ l.length ∧ si = .int .i64 k ∧ sp = .int .i64 P ∧ sn = .int .i64 (N : Int) ∧ sm = .int .i64 (M : Int) ∧ 1 ≤ M ∧ M ≤ 16 ∧ N < M ∧ Hid (RootAt l R k P N M)) (fun _ _ _ i => l.length - (intOf i).toNat)
  case atStart => exact ⟨0, p, n, m, Nat.zero_le _, rfl, rfl, rfl, rfl, hm1, hm, hn, HR⟩
  case round =>
    obtain ⟨k, P, N, M, hk, rfl, rfl, rfl, rfl, hM1, hM, hN, hh⟩ := hrel
    clear hm1 hm hn
    by_cases hlt : k < l.length
    · obtain ⟨b, o, rfl, hc⟩ := HS.out.getI hlt
      have hcons := hh.out.cons hlt
      have HC := Lib.hid hcons
      clear hcons hh
      have hal0 := Lib.hid (alone_iff hN)
      by_cases hM2 : M = 1
      · subst hM2
        have e := HC.out.trans rootF_one
        have HE := Lib.hid e
        clear e
        have hN0 : N = 0 := by omega
        subst hN0
        go_wp2
        go_ret
        exact ⟨ret_int HE.out.symm, rfl⟩
      · have hMe : ((M : Int) == 1) = false := beq_eq_false_iff_ne.2 (by omega)
        have r1 := @rootF_alone P (l.drop (k + 1)) N M hM2
        have r2 := @rootF_alone_bad l[k] P (l.drop (k + 1)) N M hM2
        have r3 := @rootF_bad l[k] P (l.drop (k + 1)) N M hM2
        have r4 := @rootF_left l[k] P (l.drop (k + 1)) N M hM2
        have r5 := @rootF_right l[k] P (l.drop (k + 1)) N M hM2
        generalize l[k] = x at *
        have R1 := Lib.hid r1
        have R2 := Lib.hid r2
        have R3 := Lib.hid r3
        have R4 := Lib.hid r4
        have R5 := Lib.hid r5
        clear r1 r2 r3 r4 r5
        cases hi : inI x (-1) 16777212
        · -- no print, and not -1
          have hb := inI_bad hi
          have hR : R = -1 := by
            by_cases hal : M ≤ N ^^^ 1
            · exact HC.out.trans (R2.out hal hb.2)
            · exact HC.out.trans (R3.out hal hb.1)
          have HE := Lib.hid hR
          clear hR hb
          by_cases h2 : N % 2 = 0
          · have he : ((N : Int) % 2 == 0) = true := beq_iff_eq.2 (by omega)
            by_cases h3 : N + 1 = M
            · have hf : ((N : Int) + 1 == (M : Int)) = true := beq_iff_eq.2 (by omega)
              have HX := Lib.hid h3
              clear h3
              go_wp2_with (go_at_call 51; refine (sl1In_any _ _ _ _).mono ?_; rintro e w' ⟨rfl, rfl⟩)
              go_ret
              exact ⟨ret_int HE.out.symm, rfl⟩
            · have hf : ((N : Int) + 1 == (M : Int)) = false := beq_eq_false_iff_ne.2 (by omega)
              go_wp2_with (go_at_call 51; refine (sl1In_any _ _ _ _).mono ?_; rintro e w' ⟨rfl, rfl⟩)
              go_ret
              exact ⟨ret_int HE.out.symm, rfl⟩
          · have he : ((N : Int) % 2 == 0) = false := beq_eq_false_iff_ne.2 (by omega)
            go_wp2_with (go_at_call 51; refine (sl1In_any _ _ _ _).mono ?_; rintro e w' ⟨rfl, rfl⟩)
            go_ret
            exact ⟨ret_int HE.out.symm, rfl⟩
        · by_cases hx1 : x = -1
          · subst hx1
            by_cases h2 : N % 2 = 0
            · have he : ((N : Int) % 2 == 0) = true := beq_iff_eq.2 (by omega)
              by_cases h3 : N + 1 = M
              · have hf : ((N : Int) + 1 == (M : Int)) = true := beq_iff_eq.2 (by omega)
                have HE := Lib.hid (HC.out.trans (R1.out (hal0.out.2 ⟨h2, h3⟩)))
                have hN2 : (M + 1) / 2 ≤ 16 := by omega
                have hN3 : N / 2 < (M + 1) / 2 := by omega
                have HX := Lib.hid h3
                clear h3
                go_wp2_with (go_at_call 51; refine (sl1In_any _ _ _ _).mono ?_; rintro e w' ⟨rfl, rfl⟩)
                go_round
                case rel => exact ⟨k + 1, P, N / 2, (M + 1) / 2, by omega, by go_num, rfl, by go_num, by go_num, by omega, hN2, hN3, HE.out⟩
                case measure => simp [intOf]; omega
              · have hf : ((N : Int) + 1 == (M : Int)) = false := beq_eq_false_iff_ne.2 (by omega)
                have HE := Lib.hid (HC.out.trans (R3.out (fun h => h3 (hal0.out.1 h).2) (by decide)))
                go_wp2_with (go_at_call 51; refine (sl1In_any _ _ _ _).mono ?_; rintro e w' ⟨rfl, rfl⟩)
                go_ret
                exact ⟨ret_int HE.out.symm, rfl⟩
            · have he : ((N : Int) % 2 == 0) = false := beq_eq_false_iff_ne.2 (by omega)
              have HE := Lib.hid (HC.out.trans (R3.out (fun h => h2 (hal0.out.1 h).1) (by decide)))
              go_wp2_with (go_at_call 51; refine (sl1In_any _ _ _ _).mono ?_; rintro e w' ⟨rfl, rfl⟩)
              go_ret
              exact ⟨ret_int HE.out.symm, rfl⟩
          · have hpx := inI_pv hi hx1
            have hxe : (x == -1) = false := beq_eq_false_iff_ne.2 hx1
            by_cases h2 : N % 2 = 0
            · have he : ((N : Int) % 2 == 0) = true := beq_iff_eq.2 (by omega)
              by_cases h3 : N + 1 = M
              · have hf : ((N : Int) + 1 == (M : Int)) = true := beq_iff_eq.2 (by omega)
                have HE := Lib.hid (HC.out.trans (R2.out (hal0.out.2 ⟨h2, h3⟩) hx1))
                have HX := Lib.hid h3
                clear h3
                go_wp2_with (go_at_call 51; refine (sl1In_any _ _ _ _).mono ?_; rintro e w' ⟨rfl, rfl⟩)
                go_ret
                exact ⟨ret_int HE.out.symm, rfl⟩
              · have hf : ((N : Int) + 1 == (M : Int)) = false := beq_eq_false_iff_ne.2 (by omega)
                have HE := Lib.hid (HC.out.trans (R4.out (fun h => h3 (hal0.out.1 h).2) hpx h2))
                clear hpx
                go_wp2_with (first | (go_at_call 51; refine (sl1In_any _ _ _ _).mono ?_; rintro e w' ⟨rfl, rfl⟩) | (go_at_call 60; refine (sPrintPair_any _ _ _).mono ?_; rintro e w' ⟨rfl, rfl⟩))
                go_round
                case rel => exact ⟨k + 1, _, N / 2, (M + 1) / 2, by omega, by go_num, rfl, by go_num, by go_num, by omega, by omega, by omega, HE.out⟩
                case measure => simp [intOf]; omega
            · have he : ((N : Int) % 2 == 0) = false := beq_eq_false_iff_ne.2 (by omega)
              have HE := Lib.hid (HC.out.trans (R5.out (fun h => h2 (hal0.out.1 h).1) hpx h2))
              clear hpx
              go_wp2_with (first | (go_at_call 51; refine (sl1In_any _ _ _ _).mono ?_; rintro e w' ⟨rfl, rfl⟩) | (go_at_call 60; refine (sPrintPair_any _ _ _).mono ?_; rintro e w' ⟨rfl, rfl⟩))
              go_round
              case rel => exact ⟨k + 1, _, N / 2, (M + 1) / 2, by omega, by go_num, rfl, by go_num, by go_num, by omega, by omega, by omega, HE.out⟩
              case measure => simp [intOf]; omega
    · have e := hh.out.nil hlt
      clear hh
      by_cases hM2 : 1 < M
      · rw [if_pos hM2] at e
        have HE := Lib.hid e
        clear e
        go_wp2
        go_ret
        exact ⟨ret_int HE.out.symm, rfl⟩
      · rw [if_neg hM2] at e
        have HE := Lib.hid e
        clear e
        go_wp2
        go_ret
        exact ⟨ret_int HE.out.symm, rfl⟩
set_option maxHeartbeats 4000000 in
set_option maxRecDepth 100000 in
theorem sProofRoot_any (A : Option Addr) (c : Nat) (l : List Int) (p n m : Int) (w : World) (hs : Sl w encI 1 A l) (hl : l.length ≤ 16777216) :
    Calls Try.prog 49 #[.int .i64 p, .int .i64 n, .int .i64 m, .slice A l.length c] w fun e w' => e = .returned (.int .i64 (proofRoot p n m l)) ∧ w = w' := by
  by_cases hin : pv p = true ∧ (1 ≤ m ∧ m ≤ 16) ∧ (0 ≤ n ∧ n < m)
  · have h := inTree_iff.2 hin
    obtain ⟨hp, hm, hn⟩ := hin
    obtain ⟨N, rfl⟩ := Int.eq_ofNat_of_zero_le hn.1
    obtain ⟨M, rfl⟩ := Int.eq_ofNat_of_zero_le (show 0 ≤ m by omega)
    have e : proofRoot p N M l = rootF l p N M := by unfold proofRoot; rw [if_pos h]; rfl
    rw [e]
    exact sProofRoot_in A c l p N M w hs hl hp (by omega) (by omega) (by omega)
  · rw [proofRoot_out (inTree_bad hin)]
    cases hp : inI p 0 16777212
    · clear hin
      go_enter Try.func49, Try.ntmps49
      go_wp2_with (go_at_call 51; refine (sl1In_any _ _ _ _).mono ?_; rintro e w' ⟨rfl, rfl⟩)
      go_ret
      exact ⟨rfl, rfl⟩
    · cases h1 : inI m 1 16
      · clear hin
        go_enter Try.func49, Try.ntmps49
        go_wp2_with (go_at_call 51; refine (sl1In_any _ _ _ _).mono ?_; rintro e w' ⟨rfl, rfl⟩)
        go_ret
        exact ⟨rfl, rfl⟩
      · have h2 : 1 ≤ m ∧ m ≤ 16 := by simpa [inI] using h1
        have h3 : inI n 0 (m - 1) = false := inI_false (fun h => hin ⟨hp, h2, by omega⟩)
        have h21 := h2.1
        have h22 := h2.2
        clear hin h2
        go_enter Try.func49, Try.ntmps49
        go_wp2_with (go_at_call 51; refine (sl1In_any _ _ _ _).mono ?_; rintro e w' ⟨rfl, rfl⟩)
        go_ret
        exact ⟨rfl, rfl⟩
end Go.Proofs.Ythbdcmaloojngaa
