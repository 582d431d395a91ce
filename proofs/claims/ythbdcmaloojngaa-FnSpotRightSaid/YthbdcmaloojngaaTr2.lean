/- Trees: valid leaves, the root, and the same of texts. -/
import Derived.Test.YthbdcmaloojngaaTr
set_option linter.unusedVariables false
namespace Go.Proofs.Ythbdcmaloojngaa
open Go.RowKit

theorem lvlUp_length : ∀ (n : Nat) (l : List Int), l.length ≤ n → (lvlUp l).length = (l.length + 1) / 2
  | 0, l, h => by have : l = [] := List.eq_nil_of_length_eq_zero (by omega); subst this; rfl
  | n + 1, l, h => by
    match l, h with
    | [], _ => rfl
    | [a], _ => simp [lvlUp]
    | a :: b :: r, h =>
      have := lvlUp_length n r (by simp at h; omega)
      simp only [lvlUp, List.length_cons, this]; omega
theorem lvlUp_len (l : List Int) : (lvlUp l).length = (l.length + 1) / 2 := lvlUp_length _ l (Nat.le_refl _)
theorem lvlUp_pv : ∀ (n : Nat) (l : List Int), l.length ≤ n → l.all pv = true → (lvlUp l).all pv = true
  | 0, l, h, _ => by have : l = [] := List.eq_nil_of_length_eq_zero (by omega); subst this; rfl
  | n + 1, l, h, ha => by
    match l, h, ha with
    | [], _, _ => rfl
    | [a], _, ha => exact ha
    | a :: b :: r, h, ha =>
      simp only [List.all_cons, Bool.and_eq_true] at ha
      simp only [lvlUp, List.all_cons, Bool.and_eq_true]
      exact ⟨prPair_pv ha.1 ha.2.1, lvlUp_pv n r (by simp at h; omega) ha.2.2⟩
theorem topF_step {f : Nat} {l : List Int} (h : 1 < l.length) : topF (f + 1) l = topF f (lvlUp l) := by
  rw [topF, if_pos h]
theorem topF_one {f : Nat} {l : List Int} (h : l.length = 1) : topF f l = l.headD 0 := by
  cases f with
  | zero => rfl
  | succ f => rw [topF, if_neg (by omega)]
theorem treeRoot_bad {l : List Int} (h : leavesV l = false) : treeRoot l = -1 := by unfold treeRoot; simp [h]
theorem treeRoot_ok {l : List Int} (h : leavesV l = true) : treeRoot l = topF 5 l := by unfold treeRoot; simp [h]
theorem leavesV_iff {l : List Int} : leavesV l = true ↔ 1 ≤ l.length ∧ l.length ≤ 16 ∧ l.all pv = true := by
  unfold leavesV; rw [Bool.and_eq_true, decide_eq_true_eq, and_assoc]
theorem leavesV_len {l : List Int} (h : ¬ (1 ≤ l.length ∧ l.length ≤ 16)) : leavesV l = false := by
  cases hl : leavesV l with
  | false => rfl
  | true => exact absurd ⟨(leavesV_iff.1 hl).1, (leavesV_iff.1 hl).2.1⟩ h
theorem leavesV_all {l : List Int} (h : l.all pv = false) : leavesV l = false := by
  cases hl : leavesV l with
  | false => rfl
  | true => rw [(leavesV_iff.1 hl).2.2] at h; cases h

set_option maxHeartbeats 2000000 in
set_option maxRecDepth 100000 in
theorem ileavesValid_any (A : Option Addr) (c : Nat) (l : List Int) (w : World) (hs : Sl w encI 1 A l) (hl : l.length ≤ 16777216) :
    Calls Try.prog 37 #[.slice A l.length c] w fun e w' => e = .returned (.bool (leavesV l)) ∧ w = w' := by
  have HS := Lib.hid hs
  clear hs
  by_cases h1 : 1 ≤ l.length
  · by_cases h2 : l.length ≤ 16
    · cases hv : l.all pv
      · have E := Lib.hid (leavesV_all hv)
        go_enter Try.func37, Try.ntmps37
        go_wp2_with (go_at_call 57; refine (iprintsValid_any _ _ _ _ HS.out hl).mono ?_; rintro e w' ⟨rfl, rfl⟩)
        go_ret
        exact ⟨ret_bool E.out.symm, rfl⟩
      · have E := Lib.hid (leavesV_iff.2 ⟨h1, h2, hv⟩)
        go_enter Try.func37, Try.ntmps37
        go_wp2_with (go_at_call 57; refine (iprintsValid_any _ _ _ _ HS.out hl).mono ?_; rintro e w' ⟨rfl, rfl⟩)
        go_ret
        exact ⟨ret_bool E.out.symm, rfl⟩
    · have E := Lib.hid (leavesV_len (l := l) (by omega))
      go_enter Try.func37, Try.ntmps37
      go_wp2
      go_ret
      exact ⟨ret_bool E.out.symm, rfl⟩
  · have E := Lib.hid (leavesV_len (l := l) (by omega))
    go_enter Try.func37, Try.ntmps37
    go_wp2
    go_ret
    exact ⟨ret_bool E.out.symm, rfl⟩
set_option maxHeartbeats 2000000 in
set_option maxRecDepth 100000 in
theorem sl5Valid_any (A : Option Addr) (c : Nat) (l : List Int) (w : World) (hs : Sl w encI 1 A l) (hl : l.length ≤ 16777216) :
    Calls Try.prog 58 #[.slice A l.length c] w fun e w' => e = .returned (.bool (leavesV l)) ∧ w = w' := by
  have HS := Lib.hid hs
  clear hs
  go_enter Try.func58, Try.ntmps58
  go_wp2
  go_loop [3] (fun i => ∃ k : Nat, k ≤ l.length ∧ i = .int .i64 k ∧ Hid ((l.take k).all pv = true)) (fun i => l.length - (intOf i).toNat)
  case atStart => exact ⟨0, Nat.zero_le _, rfl, rfl⟩
  case round =>
    obtain ⟨k, hk, rfl, hh⟩ := hrel
    by_cases hlt : k < l.length
    · obtain ⟨b, o, rfl, hc⟩ := HS.out.getI hlt
      cases hp : inI l[k] 0 16777212
      · go_wp2_with (go_at_call 51; refine (sl1In_any _ _ _ _).mono ?_; rintro e w' ⟨rfl, rfl⟩)
        go_ret
        exact ⟨ret_bool (leavesV_all (all_bad hlt hp)).symm, rfl⟩
      · go_wp2_with (go_at_call 51; refine (sl1In_any _ _ _ _).mono ?_; rintro e w' ⟨rfl, rfl⟩)
        go_round
        case rel => exact ⟨k + 1, by omega, by go_num, all_take_succ hlt hh.out hp⟩
        case measure => simp [intOf]; omega
    · go_wp2_with (go_at_call 51; refine (sl1In_any _ _ _ _).mono ?_; rintro e w' ⟨rfl, rfl⟩)
      go_ret
      refine ⟨ret_bool ?_, rfl⟩
      unfold leavesV; rw [all_of_take hlt hh.out, Bool.and_true, Bool.eq_iff_iff]
      simp only [inI, decide_eq_true_eq]; omega

def lenOf : Value → Nat | .slice _ n _ => n | _ => 0
def Level (l : List Int) (v : Value) (wr : World) : Prop := ∃ (A : Option Addr) (c f : Nat) (m : List Int), v = .slice A m.length c ∧ Sl wr encI 1 A m ∧ 1 ≤ m.length ∧ m.length ≤ 16 ∧ m.length ≤ 2 ^ f ∧ topF 5 l = topF f m

set_option maxHeartbeats 2000000 in
set_option maxRecDepth 100000 in
theorem iTreeRoot_any (A : Option Addr) (c : Nat) (l : List Int) (w : World) (hs : Sl w encI 1 A l) (hl : l.length ≤ 16777216) :
    Calls Try.prog 35 #[.slice A l.length c] w fun e w' => e = .returned (.int .i64 (treeRoot l)) ∧ Below w.heap.size w w' := by
  have HS := Lib.hid hs
  clear hs
  cases hv : leavesV l
  · go_enter Try.func35, Try.ntmps35
    go_wp2_with (go_at_call 37; refine (ileavesValid_any _ _ _ _ HS.out hl).mono ?_; rintro e w' ⟨rfl, rfl⟩)
    go_ret
    exact ⟨ret_int (treeRoot_bad hv).symm, Below.refl _ _⟩
  · obtain ⟨h1, h2, _⟩ := leavesV_iff.1 hv
    go_enter Try.func35, Try.ntmps35
    go_wp2_with (go_at_call 37; refine (ileavesValid_any _ _ _ _ HS.out hl).mono ?_; rintro e w' ⟨rfl, rfl⟩)
    go_loopw [3] (fun v wr => Hid (Level l v wr) ∧ Below w.heap.size w wr) (fun v _ => lenOf v)
    case atStart => exact ⟨⟨A, c, 5, l, rfl, HS.out, h1, h2, by omega, rfl⟩, Below.refl _ _⟩
    case round =>
      obtain ⟨hlev, hb⟩ := hrel
      obtain ⟨A1, c1, f, m, hveq, hsm, hm1, hm16, hmf, htop⟩ := hlev.out
      clear hlev
      subst hveq
      have HSM := Lib.hid hsm
      have HT := Lib.hid htop
      have HF := Lib.hid hmf
      clear hsm htop hmf
      by_cases hlt : 1 < m.length
      · go_wp2_with (go_at_call 56; refine (i_levelAbove_any _ _ _ _ HSM.out (by omega)).mono ?_; rintro e w2 ⟨v2, rfl, hown2, hb2⟩)
        obtain ⟨A2, c2, rfl, _, hs2, _⟩ := hown2.sl
        have hlen := lvlUp_len m
        clear hown2
        go_wp2
        go_roundw
        case rel =>
          refine ⟨⟨A2, c2, f - 1, lvlUp m, rfl, hs2, by omega, by omega, ?_, ?_⟩, Below_then hb hb2 (Nat.le_refl _)⟩
          · have h3 := HF.out
            cases f with
            | zero => simp at h3; omega
            | succ f => simp only [Nat.add_sub_cancel, Nat.pow_succ] at h3 ⊢; omega
          · have h3 := HF.out
            cases f with
            | zero => simp at h3; omega
            | succ f => rw [HT.out, topF_step hlt]; rfl
        case measure => simp [lenOf]; omega
      · have hm : m.length = 1 := by omega
        obtain ⟨x, rfl⟩ : ∃ x, m = [x] := by
          match m, hm with
          | [x], _ => exact ⟨x, rfl⟩
        obtain ⟨b, o, rfl, hc⟩ := HSM.out.getI (k := 0) (by simp)
        simp only [Nat.add_zero, List.getElem_cons_zero] at hc
        go_wp2
        go_ret
        exact ⟨ret_int (by rw [treeRoot_ok hv, HT.out, topF_one rfl]; rfl), hb⟩
set_option maxHeartbeats 2000000 in
set_option maxRecDepth 100000 in
theorem sTreeRoot_any (A : Option Addr) (c : Nat) (l : List Int) (w : World) (hs : Sl w encI 1 A l) (hl : l.length ≤ 16777216) :
    Calls Try.prog 42 #[.slice A l.length c] w fun e w' => e = .returned (.int .i64 (treeRoot l)) ∧ Below w.heap.size w w' := by
  have HS := Lib.hid hs
  clear hs
  cases hv : leavesV l
  · go_enter Try.func42, Try.ntmps42
    go_wp2_with (go_at_call 58; refine (sl5Valid_any _ _ _ _ HS.out hl).mono ?_; rintro e w' ⟨rfl, rfl⟩)
    go_ret
    exact ⟨ret_int (treeRoot_bad hv).symm, Below.refl _ _⟩
  · obtain ⟨h1, h2, _⟩ := leavesV_iff.1 hv
    go_enter Try.func42, Try.ntmps42
    go_wp2_with (go_at_call 58; refine (sl5Valid_any _ _ _ _ HS.out hl).mono ?_; rintro e w' ⟨rfl, rfl⟩)
    go_loopw [0] (fun v wr => Hid (Level l v wr) ∧ Below w.heap.size w wr) (fun v _ => lenOf v)
    case atStart => exact ⟨⟨A, c, 5, l, rfl, HS.out, h1, h2, by omega, rfl⟩, Below.refl _ _⟩
    case round =>
      obtain ⟨hlev, hb⟩ := hrel
      obtain ⟨A1, c1, f, m, hveq, hsm, hm1, hm16, hmf, htop⟩ := hlev.out
      clear hlev
      subst hveq
      have HSM := Lib.hid hsm
      have HT := Lib.hid htop
      have HF := Lib.hid hmf
      clear hsm htop hmf
      by_cases hlt : 1 < m.length
      · go_wp2_with (go_at_call 59; refine (s_l5Up_any _ _ _ _ HSM.out (by omega)).mono ?_; rintro e w2 ⟨v2, rfl, hown2, hb2⟩)
        obtain ⟨A2, c2, rfl, _, hs2, _⟩ := hown2.sl
        have hlen := lvlUp_len m
        clear hown2
        go_wp2
        go_roundw
        case rel =>
          refine ⟨⟨A2, c2, f - 1, lvlUp m, rfl, hs2, by omega, by omega, ?_, ?_⟩, Below_then hb hb2 (Nat.le_refl _)⟩
          · have h3 := HF.out
            cases f with
            | zero => simp at h3; omega
            | succ f => simp only [Nat.add_sub_cancel, Nat.pow_succ] at h3 ⊢; omega
          · have h3 := HF.out
            cases f with
            | zero => simp at h3; omega
            | succ f => rw [HT.out, topF_step hlt]; rfl
        case measure => simp [lenOf]; omega
      · have hm : m.length = 1 := by omega
        obtain ⟨x, rfl⟩ : ∃ x, m = [x] := by
          match m, hm with
          | [x], _ => exact ⟨x, rfl⟩
        obtain ⟨b, o, rfl, hc⟩ := HSM.out.getI (k := 0) (by simp)
        simp only [Nat.add_zero, List.getElem_cons_zero] at hc
        go_wp2
        go_ret
        exact ⟨ret_int (by rw [treeRoot_ok hv, HT.out, topF_one rfl]; rfl), hb⟩
end Go.Proofs.Ythbdcmaloojngaa
