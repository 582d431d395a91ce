/- One path below another: slices.Equal of texts, PathBelow of both. -/
import Derived.Test.YtokelopllbaikaaGreatDoorGb2
import Derived.Test.YtokelopllbaikaaGreatDoorGb8
import Derived.Test.YtokelopllbaikaaGreatDoorGb5
set_option linter.unusedVariables false
namespace Go.Proofs.YtokelopllbaikaaGreatDoor
open Go.RowKit
set_option maxHeartbeats 4000000 in
set_option maxRecDepth 100000 in
theorem EqualS_any (A B : Option Addr) (c d : Nat) (l m : List ByteArray) (w : World) (hs : Sl w encS 1 A l) (hm : Sl w encS 1 B m) (hl : l.length ≤ 16777216) (hl2 : m.length ≤ 16777216) :
    Calls Tryz.prog 39 #[.slice A l.length c, .slice B m.length d] w fun e w' => e = .returned (.bool (eqL l m)) ∧ Below w.heap.size w w' := by
  have HS := Lib.hid hs
  have HM := Lib.hid hm
  have HNL := Lib.hid (@eqL_len l m)
  have HNE := Lib.hid (@eqL_ne l m)
  have HAL := Lib.hid (@eqL_all l m)
  generalize eqL l m = R at *
  clear hs hm
  by_cases hlen : l.length = m.length
  case neg =>
    have HR := Lib.hid (HNL.out hlen)
    have hlen' : ¬ (l.length : Int) = (m.length : Int) := by omega
    go_enter Tryz.func39, Tryz.ntmps39
    go_wp2
    go_ret
    exact ⟨ret_bool HR.out.symm, Below.refl _ _⟩
  case pos =>
    rw [← hlen]
    go_enter Tryz.func39, Tryz.ntmps39
    go_wp2_with fail
    go_loopw [13] (fun i wr => ∃ (k : Nat), k ≤ l.length ∧ i = .int .i64 k ∧ Hid (∀ j (h1 : j < l.length) (h2 : j < m.length), j < k → bs l[j] = bs m[j]) ∧ Hid (Below w.heap.size w wr)) (fun i _ => l.length - (intOf i).toNat)
    case atStart => exact ⟨0, Nat.zero_le _, rfl, fun j _ _ h => by omega, Below.refl _ _⟩
    case round =>
      obtain ⟨k, hk, rfl, HJ, HBJ⟩ := hrel
      by_cases hlt : k < l.length
      · have hlt' : (k : Int) < (l.length : Int) := by omega
        have hlm : k < m.length := by omega
        obtain ⟨b, o, rfl, hc⟩ := (HS.out.below HBJ.out).getS hlt
        obtain ⟨b2, o2, rfl, hc2⟩ := (HM.out.below HBJ.out).getS hlm
        have HN := Lib.hid (HNE.out k hlt hlm)
        have HX := Lib.hid (fun (h : bs l[k] = bs m[k]) => show ∀ j (h1 : j < l.length) (h2 : j < m.length), j < k + 1 → bs l[j] = bs m[j] from fun j h1 h2 h3 => by
          by_cases e : j = k
          · subst e; exact h
          · exact HJ.out j h1 h2 (by omega))
        generalize l[k] = x at *
        generalize m[k] = y at *
        cases hq : (x.toList == y.toList)
        · have hne : bs x ≠ bs y := by rw [eq_tlx] at hq; exact beq_eq_false_iff_ne.1 hq
          have HR := Lib.hid (HN.out hne)
          clear hne HN HX
          go_wp2_with fail
          go_quiet (fail)
          all_goals
            go_wp2
            go_ret
            exact ⟨ret_bool HR.out.symm, Below_drewN HBJ.out _⟩
        · have heq : bs x = bs y := by rw [eq_tlx] at hq; exact beq_iff_eq.1 hq
          have HNX := Lib.hid (HX.out heq)
          clear heq HN HX
          go_wp2_with fail
          go_quiet (fail)
          all_goals
            go_wp2
            go_round
            case rel => exact ⟨k + 1, by omega, by go_num, HNX.out, Below_drewN HBJ.out _⟩
            case measure => simp [intOf]; omega
      · have HR := Lib.hid (HAL.out hlen (fun j h1 h2 => HJ.out j h1 h2 (by omega)))
        have hlt' : ¬ (k : Int) < (l.length : Int) := by omega
        go_wp2
        go_ret
        exact ⟨ret_bool HR.out.symm, HBJ.out⟩
theorem sl_takeN {w : World} {A : Option Addr} {l : List ByteArray} {n : Nat} (h : Sl w encS 1 A l) : Sl w encS 1 A (l.take n) := by
  intro hn
  have hlt : 0 < l.length := by rw [List.length_take] at hn; omega
  obtain ⟨b, o, e, hc⟩ := h hlt
  refine ⟨b, o, e, fun j u hu => hc j u ?_⟩
  have e2 : flat encS l = flat encS (l.take n) ++ flat encS (l.drop n) := by rw [← flat_append, List.take_append_drop]
  rw [e2, List.getElem?_append_left (List.getElem?_eq_some_iff.1 hu).1]; exact hu
set_option maxHeartbeats 4000000 in
set_option maxRecDepth 100000 in
theorem iPathBelow_any (p q : ByteArray) (w : World) (hp : p.size ≤ 1048576) (hq : q.size ≤ 1048576) (hm : MaxL w) :
    Calls Tryz.prog 19 #[.string p, .string q] w fun e w' => e = .returned (.bool (belowP (bs p) (bs q))) ∧ Below w.heap.size w w' := by
  have hP := fun w h => iPathPartsS_any p w hp h
  have hQ := fun w h => iPathPartsS_any q w hq h
  unfold PathS at hP hQ
  have HB := Lib.hid (Below.refl w.heap.size w)
  have HM := Lib.hid hm
  have hnil := fun (W : World) (A : Option Addr) (n c : Nat) => Lib.run_eql_slice_nil (P := Tryz.prog) W 33 9 A n c 0 0 Tryz.underlying33
  clear hm
  cases hpp : pathP (bs p) with
  | none =>
    have HR := Lib.hid (belowP_no (b := bs q) (.inl hpp))
    rw [hpp] at hP
    generalize belowP (bs p) (bs q) = R at *
    have HP := Lib.hid hP
    clear hP hQ hpp
    go_enter Tryz.func19, Tryz.ntmps19
    go_wp2_with fail
    refine (HP.out _ HM.out).mono ?_
    rintro e w1 ⟨X, A, c, hX, rfl, hle, hs, hb⟩
    replace HB := Lib.hid (Below_then HB.out hb (Nat.le_refl _))
    clear hb hX
    simp only [Option.isSome_none]
    go_wp2
    go_ret
    exact ⟨ret_bool HR.out.symm, HB.out⟩
  | some x =>
    cases hqq : pathP (bs q) with
    | none =>
      have HR := Lib.hid (belowP_no (a := bs p) (.inr hqq))
      rw [hpp] at hP
      rw [hqq] at hQ
      generalize belowP (bs p) (bs q) = R at *
      have HP := Lib.hid hP
      have HQ := Lib.hid hQ
      clear hP hQ hpp hqq
      go_enter Tryz.func19, Tryz.ntmps19
      go_wp2_with fail
      refine (HP.out _ HM.out).mono ?_
      rintro e w1 ⟨X, A, c, hX, rfl, hle, hs, hb⟩
      replace HB := Lib.hid (Below_then HB.out hb (Nat.le_refl _))
      replace HM := Lib.hid (HM.out.below hb)
      clear hb hX
      simp only [Option.isSome_some]
      go_wp2_with fail
      refine (HQ.out _ HM.out).mono ?_
      rintro e w2 ⟨Y, A2, c2, hY, rfl, hle2, hs2, hb⟩
      replace HB := Lib.hid (Below_then HB.out hb (Nat.le_refl _))
      clear hb hY
      simp only [Option.isSome_none]
      go_wp2
      go_ret
      exact ⟨ret_bool HR.out.symm, HB.out⟩
    | some y =>
      have HEQ := Lib.hid (below_eq hpp hqq)
      have HLG := Lib.hid (below_long hpp hqq)
      have hx3 : (x.map mk).length ≤ 3 := by rw [List.length_map]; exact (partsV_iff.1 (pathP_join hpp).1).1
      have hy3 : (y.map mk).length ≤ 3 := by rw [List.length_map]; exact (partsV_iff.1 (pathP_join hqq).1).1
      rw [hpp] at hP
      rw [hqq] at hQ
      simp only [Option.getD_some] at hP hQ
      generalize belowP (bs p) (bs q) = R at *
      generalize x.map mk = X at *
      generalize y.map mk = Y at *
      have HP := Lib.hid hP
      have HQ := Lib.hid hQ
      clear hP hQ hpp hqq
      by_cases hlen : Y.length ≤ X.length
      case neg =>
        have HR := Lib.hid (HLG.out hlen)
        have hlen' : (X.length : Int) < (Y.length : Int) := by omega
        go_enter Tryz.func19, Tryz.ntmps19
        go_wp2_with fail
        refine (HP.out _ HM.out).mono ?_
        rintro e w1 ⟨X', A, c, rfl, rfl, hle, hs, hb⟩
        replace HB := Lib.hid (Below_then HB.out hb (Nat.le_refl _))
        replace HM := Lib.hid (HM.out.below hb)
        clear hb
        simp only [Option.isSome_some]
        go_wp2_with fail
        refine (HQ.out _ HM.out).mono ?_
        rintro e w2 ⟨Y', A2, c2, rfl, rfl, hle2, hs2, hb⟩
        replace HB := Lib.hid (Below_then HB.out hb (Nat.le_refl _))
        clear hb
        simp only [Option.isSome_some]
        go_wp2
        go_ret
        exact ⟨ret_bool HR.out.symm, HB.out⟩
      case pos =>
        have hlen' : ¬ (X.length : Int) < (Y.length : Int) := by omega
        have HE2 := Lib.hid (HEQ.out hlen)
        have hln : (X.take Y.length).length = Y.length := by rw [List.length_take]; omega
        have hEq := fun A B c d w h h2 => EqualS_any A B c d (X.take Y.length) Y w h h2 (by omega) (by omega)
        rw [hln] at hEq
        have HEC := Lib.hid hEq
        have HLN := Lib.hid hln
        clear hEq hln
        rw [HE2.out]
        go_enter Tryz.func19, Tryz.ntmps19
        go_wp2_with fail
        refine (HP.out _ HM.out).mono ?_
        rintro e w1 ⟨X', A, c, rfl, rfl, hle, hs, hb⟩
        have HSX := Lib.hid hs
        replace HB := Lib.hid (Below_then HB.out hb (Nat.le_refl _))
        replace HM := Lib.hid (HM.out.below hb)
        clear hb hs
        simp only [Option.isSome_some]
        go_wp2_with fail
        refine (HQ.out _ HM.out).mono ?_
        rintro e w2 ⟨Y', A2, c2, rfl, rfl, hle2, hs2, hb⟩
        have HSY := Lib.hid hs2
        replace HB := Lib.hid (Below_then HB.out hb (Nat.le_refl _))
        replace HSX := Lib.hid (HSX.out.below hb)
        clear hb hs2
        simp only [Option.isSome_some]
        have hyc : Y'.length ≤ c := by omega
        cases A with
        | none =>
          have hx0 : X' = [] := by
            cases X' with
            | nil => rfl
            | cons z r => obtain ⟨b, o, e, _⟩ := HSX.out (by simp); cases e
          subst hx0
          have hy0 : Y' = [] := List.eq_nil_of_length_eq_zero (by simpa using hlen)
          subst hy0
          go_wp2_with (first | (go_at_call 39; refine (HEC.out _ _ _ _ _ Sl.none_ HSY.out).mono ?_; rintro e w3 ⟨rfl, hb⟩; have HB3 := Lib.hid (Below_then HB.out hb (Nat.le_refl _)); clear hb))
          go_ret
          exact ⟨rfl, HB3.out⟩
        | some ad =>
          have HST := Lib.hid (sl_takeN (n := Y'.length) HSX.out)
          go_wp2_with (first | (go_at_call 39; refine (HEC.out _ _ _ _ _ HST.out HSY.out).mono ?_; rintro e w3 ⟨rfl, hb⟩; have HB3 := Lib.hid (Below_then HB.out hb (Nat.le_refl _)); clear hb))
          go_ret
          exact ⟨rfl, HB3.out⟩
end Go.Proofs.YtokelopllbaikaaGreatDoor
