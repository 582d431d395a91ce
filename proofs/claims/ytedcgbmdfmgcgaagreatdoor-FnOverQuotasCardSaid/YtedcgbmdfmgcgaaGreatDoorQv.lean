/- QuotasValid of the reference, walked. -/
import Derived.Test.YtedcgbmdfmgcgaaGreatDoorGa1
import Derived.Test.YtedcgbmdfmgcgaaGreatDoorPp
import Derived.Test.YtedcgbmdfmgcgaaGreatDoorW1
set_option linter.unusedVariables false
namespace Go.Proofs.YtedcgbmdfmgcgaaGreatDoor
open Go.RowKit
set_option maxHeartbeats 4000000 in
set_option maxRecDepth 100000 in
theorem sQuotasValid_any (A : Option Addr) (c : Nat) (l : List Qt) (w : World) (hs : Sl w encQ 2 A l) (hl : l.length ≤ 16777216) (hf : FitQ l) :
    Calls Tryz.prog 59 #[.slice A l.length c] w fun e w' => e = .returned (.bool (quoV l)) ∧ Below w.heap.size w w' := by
  have HS := Lib.hid hs
  have HF := Lib.hid hf
  have HNO := Lib.hid (fun k (hk : k < l.length) h => @quoV_no l k hk h)
  have HALL := Lib.hid (@quoV_all l)
  generalize quoV l = R at *
  clear hs hf
  go_enter Tryz.func59, Tryz.ntmps59
  go_wp2_with fail
  go_loopw [3] (fun i wr => ∃ (k : Nat), k ≤ l.length ∧ i = .int .i64 k ∧ Hid (∀ j, j < k → quoAt l j = true) ∧ Hid (Below w.heap.size w wr)) (fun i _ => l.length - (intOf i).toNat)
  case atStart => exact ⟨0, Nat.zero_le _, rfl, fun j h => by omega, Below.refl _ _⟩
  case round =>
    obtain ⟨k, hk, rfl, HH, HBW⟩ := hrel
    by_cases hlt : k < l.length
    · have hlt' : (k : Int) < (l.length : Int) := by omega
      obtain ⟨b, o, rfl, hc0, hc1⟩ := (HS.out.below HBW.out).getQ hlt
      have HN := Lib.hid (HNO.out k hlt)
      have hz := HF.out _ (List.getElem_mem hlt)
      have hP := fun w => sPathParts_any l[k].1 w hz
      unfold PathR at hP
      have HQ := Lib.hid (fun h => @quoAt_path l k hlt h)
      have HM := Lib.hid (fun h => @quoAt_most l k hlt h)
      have HT := Lib.hid (fun j h1 h2 => @quoAt_twice l k j hlt h1 h2)
      have HY := Lib.hid (fun h1 h2 h3 => @quoAt_yes l k hlt h1 h2 h3)
      have hq : ∃ q : Qt, q = l[k] := ⟨_, rfl⟩
      obtain ⟨q, hq⟩ := hq
      rw [← hq] at hc0 hc1 hP HQ HM HT HY
      have HEQ := Lib.hid hq
      clear hq hz
      obtain ⟨p, x⟩ := q
      simp only at *
      have hIN := fun w => sl1In_any x 0 1000 w
      generalize ((pathP (bs p)).getD []).map mk = LP at *
      cases hp : (pathP (bs p)).isSome
      · have HR := Lib.hid (HN.out (HQ.out hp))
        rw [hp] at hP
        have HP := Lib.hid hP
        clear hP hp hIN HQ HM HT HY HN
        go_wp2_with fail
        refine (HP.out _).mono ?_
        rintro e w2 ⟨v, rfl, hown, hb⟩
        have HB2 := Lib.hid (Below_then HBW.out hb (Nat.le_refl _))
        clear hb hown
        go_wp2
        go_ret
        exact ⟨ret_bool HR.out.symm, HB2.out⟩
      · have HPS := Lib.hid hp
        rw [hp] at hP
        have HP := Lib.hid hP
        clear hP hp
        cases hx : inI x 0 1000
        · have HR := Lib.hid (HN.out (HM.out hx))
          rw [hx] at hIN
          have HI := Lib.hid hIN
          clear hIN hx HQ HM HT HY HN
          have hlt2 := hlt
          go_wp2_with fail
          refine (HP.out _).mono ?_
          rintro e w2 ⟨v, rfl, hown, hb⟩
          have HB2 := Lib.hid (Below_then HBW.out hb (Nat.le_refl _))
          have hd1 := Below_cells hb _ _ _ hc1
          clear hb hown hc0 hc1
          go_wp2_with (go_at_call 100; refine (HI.out _).mono ?_; rintro e w' ⟨rfl, rfl⟩)
          go_ret
          exact ⟨ret_bool HR.out.symm, HB2.out⟩
        · rw [hx] at hIN
          have HI := Lib.hid hIN
          have HYY := Lib.hid (fun h3 => HY.out HPS.out hx h3)
          clear hIN hx HQ HM HY
          go_wp2_with fail
          refine (HP.out _).mono ?_
          rintro e w2 ⟨v, rfl, hown, hb⟩
          have HB2 := Lib.hid (Below_then HBW.out hb (Nat.le_refl _))
          have hd0 := Below_cells hb _ _ _ hc0
          have hd1 := Below_cells hb _ _ _ hc1
          clear hb hown hc0 hc1
          go_wp2_with (go_at_call 100; refine (HI.out _).mono ?_; rintro e w' ⟨rfl, rfl⟩)
          clear hd0 hd1
          go_loopw [6] (fun i wr => ∃ (j : Nat), j ≤ k ∧ i = .int .i64 j ∧ Hid (∀ i (h : i < l.length), i < j → bs l[i].1 ≠ bs p) ∧ Hid (Below w.heap.size w wr)) (fun i _ => k - (intOf i).toNat)
          case atStart => exact ⟨0, Nat.zero_le _, rfl, fun i h h2 => by omega, HB2.out⟩
          case round =>
            obtain ⟨j, hj, rfl, HJ, HBJ⟩ := hrel
            obtain ⟨b3, o3, e3, hd0, hd1⟩ := (HS.out.below HBJ.out).getQ hlt
            rw [← HEQ.out] at hd0 hd1
            injection e3 with e3; injection e3 with e4 e5
            subst e4 e5
            simp only at hd0 hd1
            by_cases hjl : j < k
            · have hjn : j < l.length := by omega
              have hjl' : (j : Int) < (k : Int) := by omega
              have hjn' : (j : Int) < (l.length : Int) := by omega
              obtain ⟨b2, o2, e, hy0, hy1⟩ := (HS.out.below HBJ.out).getQ hjn
              injection e with e; injection e with e1 e2
              subst e1 e2
              have HTj := Lib.hid (fun h => HN.out (HT.out j hjl h))
              have HSj := Lib.hid (fun (h : bs l[j].1 ≠ bs p) => show ∀ i (hi : i < l.length), i < j + 1 → bs l[i].1 ≠ bs p from fun i hi h2 => by
                by_cases e : i = j
                · subst e; exact h
                · exact HJ.out i hi (by omega))
              generalize l[j].1 = pj at *
              generalize l[j].2 = xj at *
              cases hq : (pj.toList == p.toList)
              · have hne : bs pj ≠ bs p := by rw [eq_tlx] at hq; exact beq_eq_false_iff_ne.1 hq
                have HNX := Lib.hid (HSj.out hne)
                clear hne HTj HSj
                go_wp2_with fail
                go_quiet (fail)
                all_goals
                  go_wp2
                  go_round
                  case rel => exact ⟨j + 1, by omega, by go_num, HNX.out, Below_drewN HBJ.out _⟩
                  case measure => simp [intOf]; omega
              · have heq : bs pj = bs p := by rw [eq_tlx] at hq; exact beq_iff_eq.1 hq
                have HR := Lib.hid (HTj.out heq)
                clear heq HTj HSj
                go_wp2_with fail
                go_quiet (fail)
                all_goals
                  go_wp2
                  go_ret
                  exact ⟨ret_bool HR.out.symm, Below_drewN HBJ.out _⟩
            · have hjk : ¬ (j : Int) < (k : Int) := by omega
              have HNX := Lib.hid (show ∀ j, j < k + 1 → quoAt l j = true from fun i h => by
                by_cases e : i = k
                · subst e; exact HYY.out (fun i hi h2 => HJ.out i hi (by omega))
                · exact HH.out i (by omega))
              go_wp2
              go_roundw
              case rel => exact ⟨k + 1, by omega, by go_num, HNX.out, HBJ.out⟩
              case measure => simp [intOf]; omega
    · have HE := Lib.hid (show decide ((l.length : Int) ≤ 6) = R by rw [HALL.out (fun j h => HH.out j (by omega))]; exact decide_eq_decide.2 (by omega))
      have hlt' : ¬ (k : Int) < (l.length : Int) := by omega
      go_wp2
      go_ret
      exact ⟨ret_bool HE.out, HBW.out⟩
end Go.Proofs.YtedcgbmdfmgcgaaGreatDoor
