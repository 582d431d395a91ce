/- Words of the reference; common words. -/
import Derived.Test.YtedcgbmdfmgcgaaGreatDoorGa1
set_option linter.unusedVariables false
namespace Go.Proofs.YtedcgbmdfmgcgaaGreatDoor
open Go.RowKit

/-- What the reference has come to behind k bytes (the end counts as one more). -/
def wsAt (s : Bs) (k : Nat) : List Bs × Bs := if k ≤ s.length then wrun [] [] (s.take k) else (wordsOf s, [])
theorem wsAt_zero (s : Bs) : wsAt s 0 = ([], []) := by unfold wsAt; rw [if_pos (Nat.zero_le _)]; rfl
theorem wsAt_step {s : Bs} {k : Nat} (hk : k < s.length) : wsAt s (k + 1) = if s[k] = 32 then (addW (wsAt s k).1 (wsAt s k).2, []) else ((wsAt s k).1, (wsAt s k).2 ++ [s[k]]) := by
  unfold wsAt
  rw [if_pos (show k + 1 ≤ s.length by omega), if_pos (show k ≤ s.length by omega), List.take_succ_eq_append_getElem hk, wrun_snoc]
theorem wsAt_end {s : Bs} (hv : textV s = true) : wsAt s (s.length + 1) = (addW (wsAt s s.length).1 (wsAt s s.length).2, []) := by
  have e : wsAt s s.length = wrun [] [] s := by unfold wsAt; rw [if_pos (Nat.le_refl _), List.take_length]
  rw [e, wrun_spl]
  unfold wsAt wordsOf
  rw [if_neg (by omega), if_pos hv]
theorem wsAt_all (s : Bs) : wsAt s (s.length + 1) = (wordsOf s, []) := by unfold wsAt; rw [if_neg (by omega)]
theorem hasS_upto {fs : List ByteArray} {x : ByteArray} {j : Nat} (h : j < fs.length) : hasS (fs.take (j + 1)) x = (hasS (fs.take j) x || (bs fs[j] == bs x)) := by
  unfold hasS; rw [List.take_succ_eq_append_getElem h, List.any_append]
  have e : (bs x == bs fs[j]) = (bs fs[j] == bs x) := by rw [Bool.eq_iff_iff, beq_iff_eq, beq_iff_eq]; exact eq_comm
  simp only [List.any_cons, List.any_nil, Bool.or_false, e]
theorem ext_one {s : ByteArray} {k : Nat} (hk : k < s.size) (l : Bs) : mk l ++ s.extract k (k + 1) = mk (l ++ [s[k]]) := by
  apply ByteArray.ext
  apply Array.ext'
  show ((mk l ++ s.extract k (k + 1)).data).toList = _
  rw [ByteArray.data_append, Array.toList_append, Lib.extract_data]
  show l ++ _ = l ++ [s[k]]
  congr 1
  rw [show k + 1 - k = 1 from by omega]
  have hk' : k < s.data.toList.length := by simpa using hk
  rw [List.take_one, List.head?_drop, List.getElem?_eq_getElem hk']; rfl
set_option maxHeartbeats 8000000 in
set_option maxRecDepth 100000 in
theorem sWordsOf_any (s : ByteArray) (w : World) (hs : s.size ≤ 16777216) :
    Calls Tryz.prog 55 #[.string s] w (OwnRes 9 1 encS (wordsB s) w) := by
  have hTV := fun w => sTextValid_any s w hs
  cases hv : textV (bs s)
  · have e : wordsB s = [] := by unfold wordsB wordsOf; rw [hv]; rfl
    rw [e]
    rw [hv] at hTV
    have HTV := Lib.hid hTV
    clear hTV hv e
    go_enter Tryz.func55, Tryz.ntmps55
    go_wp2_with fail
    go_loopw [3, 5] (fun v i wr => v = .slice (some ⟨w.heap.size, 0, none⟩) 0 0 ∧ i = .int .i64 0 ∧ wr = w.alloc (.cells #[] 9)) (fun _ _ _ => 0)
    case atStart => exact ⟨rfl, rfl, rfl⟩
    case round =>
      obtain ⟨rfl, rfl, rfl⟩ := hrel
      go_wp2_with (go_at_call 89; refine (HTV.out _).mono ?_; rintro e w' ⟨rfl, rfl⟩)
      go_ret
      exact ⟨_, rfl, Own.made (Nat.le_refl _), (Below.refl _ _).alloc (Nat.le_refl _) _⟩
  · have hsz : s.size ≤ 60 := textV_size hv
    rw [hv] at hTV
    have HTV := Lib.hid hTV
    have HEND := Lib.hid (wsAt_end hv)
    have HALL := Lib.hid (wsAt_all (bs s))
    clear hTV hv
    go_enter Tryz.func55, Tryz.ntmps55
    go_wp2_with fail
    go_loopw [3, 4, 5] (fun v wd i wr => ∃ (k : Nat) (acc : List Bs) (wl : Bs) (ab : List ByteArray), k ≤ s.size + 1 ∧ i = .int .i64 k ∧ wd = .string (mk wl) ∧ wl.length ≤ k ∧ ab.length ≤ k ∧ Hid (wsAt (bs s) k = (acc, wl)) ∧ Hid (ab = acc.map mk) ∧ Own wr w.heap.size 9 1 encS v ab ∧ Below w.heap.size w wr) (fun _ _ i _ => s.size + 1 - (intOf i).toNat)
    case atStart => exact ⟨0, [], [], [], by omega, rfl, rfl, by simp, by simp, wsAt_zero _, rfl, Own.made (Nat.le_refl _), (Below.refl _ _).alloc (Nat.le_refl _) _⟩
    case round =>
      obtain ⟨k, acc, wl, ab, hk, rfl, rfl, hwl, hal, hst, hab, hown, hb⟩ := hrel
      obtain ⟨X, d, rfl, _, hsx, _⟩ := hown.sl
      have HW := Lib.hid hown
      have HSX := Lib.hid hsx
      have HB := Lib.hid hb
      clear hown hsx hb
      by_cases hle : k ≤ s.size
      · by_cases hch : ∃ h : k < s.size, s[k] ≠ 32
        · obtain ⟨hlt, hne⟩ := hch
          have hst2 := wsAt_step (s := bs s) (k := k) hlt
          rw [get_bs s k hlt, if_neg hne, hst.out] at hst2
          have HST2 := Lib.hid hst2
          have hcn : ((s[k].toNat : Int) == 32) = false := by
            rw [beq_eq_false_iff_ne]; intro e; apply hne; apply UInt8.toNat_inj.1; have : s[k].toNat = 32 := by omega
            rw [this]; rfl
          have hcn2 : ((s[k].toNat : Int) != 32) = true := by rw [bne, hcn]; rfl
          have z1 : (mk wl).size ≤ 100 := by rw [mk_size]; omega
          have z2 : (s.extract k (k + 1)).size ≤ 1 := by simp; omega
          have HEX := Lib.hid (ext_one hlt wl)
          clear hst2 hne
          go_wp2_with (go_at_call 89; refine (HTV.out _).mono ?_; rintro e w' ⟨rfl, rfl⟩)
          go_roundw
          case rel => exact ⟨k + 1, acc, wl ++ [s[k]], ab, by omega, by go_num, by rw [HEX.out], by simp; omega, by omega, HST2.out, hab, HW.out, HB.out⟩
          case measure => simp [intOf]; omega
        · have hnx : wsAt (bs s) (k + 1) = (addW acc wl, []) := by
            by_cases hlt : k < s.size
            · have h32 : s[k] = 32 := Decidable.of_not_not fun h => hch ⟨hlt, h⟩
              rw [wsAt_step (s := bs s) hlt, get_bs s k hlt, if_pos h32, hst.out]
            · have e : k = (bs s).length := by have := size_bs s; omega
              rw [e, HEND.out, ← e, hst.out]
          have hcs : k < s.size → ∃ h : k < s.size, s[k] = 32 := fun h => ⟨h, Decidable.of_not_not fun h2 => hch ⟨h, h2⟩⟩
          have HNX := Lib.hid hnx
          have hqs : (mk wl).size ≤ 16777216 := by rw [mk_size]; omega
          have hWV := fun w => sWordValid_any (mk wl) w hqs
          have hbq : bs (mk wl) = wl := rfl
          rw [hbq] at hWV
          have HWV := Lib.hid hWV
          have HHS := Lib.hid (show hasS ab (mk wl) = acc.contains wl by rw [hab.out, hasS_map])
          have HMB := Lib.hid hqs
          clear hch hnx hbq hWV hqs
          have hsp : (∃ h : k < s.size, ((s[k].toNat : Int) == 32) = true ∧ ((s[k].toNat : Int) != 32) = false) ∨ ¬ k < s.size := by
            by_cases h : k < s.size
            · obtain ⟨h, h32⟩ := hcs h
              exact .inl ⟨h, by rw [h32]; rfl, by rw [h32]; rfl⟩
            · exact .inr h
          obtain ⟨hlt, hcn, hcn2⟩ | hlt := hsp
          all_goals
            clear hcs
            go_wp2_with (first | (go_at_call 89; refine (HTV.out _).mono ?_; rintro e w' ⟨rfl, rfl⟩) | (go_at_call 97; refine (HWV.out _).mono ?_; rintro e w' ⟨rfl, rfl⟩))
            go_loop [6, 7] (fun v i => ∃ (j : Nat) (f : Bool), j ≤ ab.length ∧ i = .int .i64 j ∧ v = .bool f ∧ Hid (f = (!wordV wl || hasS (ab.take j) (mk wl)))) (fun _ i => ab.length - (intOf i).toNat)
            case atStart => exact ⟨0, _, Nat.zero_le _, rfl, rfl, by show _ = _; simp [hasS]⟩
            case round =>
              obtain ⟨j, f, hj, rfl, rfl, hf⟩ := hrel
              by_cases hjl : j < ab.length
              · obtain ⟨b, o, rfl, hc⟩ := HSX.out.getS hjl
                have hup := hasS_upto (x := mk wl) hjl
                cases f
                · have hq := eq_toList ab[j] (mk wl)
                  generalize ab[j] = y at *
                  have HUP := Lib.hid hup
                  have HQ := Lib.hid hq
                  clear hup hq
                  go_wp2
                  go_round
                  case rel => exact ⟨j + 1, _, by omega, by go_num, rfl, by
                    show _ = _
                    rw [HQ.out, HUP.out, ← Bool.or_assoc, ← hf.out, Bool.false_or]⟩
                  case measure => simp [intOf]; omega
                · have HUP := Lib.hid hup
                  clear hup hc
                  go_wp2
                  go_round
                  case rel => exact ⟨j + 1, true, by omega, by go_num, rfl, by
                    show _ = _
                    rw [HUP.out, ← Bool.or_assoc, ← hf.out, Bool.true_or]⟩
                  case measure => simp [intOf]; omega
              · have hff : f = (!wordV wl || acc.contains wl) := by
                  rw [hf.out, List.take_of_length_le (by omega), HHS.out]
                have HFF := Lib.hid hff
                clear hff hf
                cases f
                · have hyes : addW acc wl = acc ++ [wl] := by
                    have := HFF.out
                    rw [eq_comm, Bool.or_eq_false_iff, Bool.not_eq_false'] at this
                    exact addW_yes this.1 this.2
                  have HYES := Lib.hid hyes
                  have hl1 : ab.length ≤ 16777216 := by omega
                  clear hyes
                  go_wp2_with (at_builtin; refine app_str rfl rfl rfl rfl HW.out HB.out hl1 ?_; intro v1 w2 hown2 hb2; have HW2 := Lib.hid hown2; have HB2 := Lib.hid hb2; clear hown2 hb2)
                  go_roundw
                  case rel => exact ⟨k + 1, acc ++ [wl], [], ab ++ [mk wl], by omega, by go_num, rfl, by simp, by simp; omega, by show _ = _; rw [HNX.out, HYES.out], by show _ = _; rw [hab.out, List.map_append]; rfl, HW2.out, HB2.out⟩
                  case measure => simp [intOf]; omega
                · have hno : addW acc wl = acc := by
                    have := HFF.out
                    rw [eq_comm, Bool.or_eq_true, Bool.not_eq_true'] at this
                    exact addW_no this
                  have HNO := Lib.hid hno
                  clear hno
                  go_wp2
                  go_roundw
                  case rel => exact ⟨k + 1, acc, [], ab, by omega, by go_num, rfl, by simp, by omega, by show _ = _; rw [HNX.out, HNO.out], hab, HW.out, HB.out⟩
                  case measure => simp [intOf]; omega
      · go_wp2
        go_ret
        refine ⟨_, rfl, ?_, HB.out⟩
        have e : k = (bs s).length + 1 := by have := size_bs s; omega
        have h1 := hst.out
        rw [e, HALL.out] at h1
        injection h1 with h1 _
        unfold wordsB
        rw [h1, ← hab.out]; exact HW.out
end Go.Proofs.YtedcgbmdfmgcgaaGreatDoor
