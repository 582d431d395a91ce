/- Filters: FilterHas, FilterJoin, FilterWanted; drawn prints and filters. -/
import Derived.Test.YtbefbenihahdnaaFi
import Derived.Test.YtbefbenihahdnaaDr1
set_option linter.unusedVariables false
namespace Go.Proofs.Ytbefbenihahdnaa
open Go.RowKit

theorem has_nat {F : Nat} {p : Int} (hf : fv (F : Int) = true) (hp : pv p = true) : filterHas (F : Int) p = (((F &&& maskN p.toNat : Nat) : Int) == ((maskN p.toNat : Nat) : Int)) := by
  unfold filterHas; rw [hf, hp, Int.toNat_natCast]
  simp only [Bool.and_self, Bool.true_and]
  rw [Bool.eq_iff_iff]; simp only [beq_iff_eq]; omega
theorem has_badf {f p : Int} (hf : fv f = false) : filterHas f p = false := by unfold filterHas; simp [hf]
theorem has_badp {f p : Int} (hp : pv p = false) : filterHas f p = false := by unfold filterHas; simp [hp]

set_option maxHeartbeats 2000000 in
set_option maxRecDepth 100000 in
theorem iFilterHas_any (f p : Int) (w : World) :
    Calls Try.prog 50 #[.int .i64 f, .int .i64 p] w fun e w' => e = .returned (.bool (filterHas f p)) ∧ ∃ n, w' = w.drewN n := by
  cases hf : fv f
  · have E := Lib.hid (has_badf (p := p) hf)
    go_enter Try.func50, Try.ntmps50
    go_wp2_with (go_at_call 127; refine (ifilterValid_any _ _).mono ?_; rintro e w' ⟨rfl, rfl⟩)
    go_ret
    exact ⟨ret_bool E.out.symm, 0, rfl⟩
  · cases hp : pv p
    · have E := Lib.hid (has_badp (f := f) hp)
      go_enter Try.func50, Try.ntmps50
      go_wp2_with (first | (go_at_call 127; refine (ifilterValid_any _ _).mono ?_; rintro e w' ⟨rfl, rfl⟩) | (go_at_call 115; refine (iprintValid_any _ _).mono ?_; rintro e w' ⟨rfl, rfl⟩))
      go_ret
      exact ⟨ret_bool E.out.symm, 0, rfl⟩
    · have h1 := fv_iff.1 hf
      obtain ⟨F, rfl⟩ := Int.eq_ofNat_of_zero_le h1.1
      have hm := maskN_lt p.toNat
      have E := Lib.hid (has_nat hf hp)
      have hb := i_bitsOf_any p
      generalize maskN p.toNat = M at *
      have hand := i64_and_nat F M (by omega) (by omega)
      have HB := Lib.hid hb
      clear hb
      go_enter Try.func50, Try.ntmps50
      go_wp2_with (first | (go_at_call 127; refine (ifilterValid_any _ _).mono ?_; rintro e w' ⟨rfl, rfl⟩) | (go_at_call 115; refine (iprintValid_any _ _).mono ?_; rintro e w' ⟨rfl, rfl⟩) | (go_at_call 129; refine (HB.out _ hp).mono ?_; rintro e w1 ⟨rfl, n1, rfl⟩))
      go_ret
      exact ⟨ret_bool E.out.symm, _, rfl⟩
set_option maxHeartbeats 2000000 in
set_option maxRecDepth 100000 in
theorem sFilterHas_any (f p : Int) (w : World) :
    Calls Try.prog 51 #[.int .i64 f, .int .i64 p] w fun e w' => e = .returned (.bool (filterHas f p)) ∧ ∃ n, w' = w.drewN n := by
  cases hf : inI f 0 1073741823
  · have E := Lib.hid (has_badf (p := p) hf)
    go_enter Try.func51, Try.ntmps51
    go_wp2_with (go_at_call 113; refine (sl1In_any _ _ _ _).mono ?_; rintro e w' ⟨rfl, rfl⟩)
    go_ret
    exact ⟨ret_bool E.out.symm, 0, rfl⟩
  · cases hp : inI p 0 16777212
    · have E := Lib.hid (has_badp (f := f) hp)
      go_enter Try.func51, Try.ntmps51
      go_wp2_with (go_at_call 113; refine (sl1In_any _ _ _ _).mono ?_; rintro e w' ⟨rfl, rfl⟩)
      go_ret
      exact ⟨ret_bool E.out.symm, 0, rfl⟩
    · have h1 := fv_iff.1 hf
      obtain ⟨F, rfl⟩ := Int.eq_ofNat_of_zero_le h1.1
      have hm := maskN_lt p.toNat
      have E := Lib.hid (has_nat hf hp)
      have hb := s_l26Mask_any p
      generalize maskN p.toNat = M at *
      have hand := i64_and_nat F M (by omega) (by omega)
      have HB := Lib.hid hb
      clear hb
      go_enter Try.func51, Try.ntmps51
      go_wp2_with (first | (go_at_call 113; refine (sl1In_any _ _ _ _).mono ?_; rintro e w' ⟨rfl, rfl⟩) | (go_at_call 130; refine (HB.out _ hp).mono ?_; rintro e w1 ⟨rfl, n1, rfl⟩))
      go_ret
      exact ⟨ret_bool E.out.symm, _, rfl⟩

theorem join_bad {a b : Int} (h : fv a = false ∨ fv b = false) : filterJoin a b = -1 := by
  unfold filterJoin; rcases h with h | h <;> simp [h]
theorem join_nat {F G : Nat} (hf : fv (F : Int) = true) (hg : fv (G : Int) = true) : filterJoin F G = ((F ||| G : Nat) : Int) := by
  unfold filterJoin; rw [hf, hg]; rfl
set_option maxHeartbeats 2000000 in
set_option maxRecDepth 100000 in
theorem iFilterJoin_any (a b : Int) (w : World) :
    Calls Try.prog 44 #[.int .i64 a, .int .i64 b] w fun e w' => e = .returned (.int .i64 (filterJoin a b)) ∧ w = w' := by
  cases hf : fv a
  · have E := Lib.hid (join_bad (b := b) (.inl hf))
    go_enter Try.func44, Try.ntmps44
    go_wp2_with (go_at_call 127; refine (ifilterValid_any _ _).mono ?_; rintro e w' ⟨rfl, rfl⟩)
    go_ret
    exact ⟨ret_int E.out.symm, rfl⟩
  · cases hg : fv b
    · have E := Lib.hid (join_bad (a := a) (.inr hg))
      go_enter Try.func44, Try.ntmps44
      go_wp2_with (go_at_call 127; refine (ifilterValid_any _ _).mono ?_; rintro e w' ⟨rfl, rfl⟩)
      go_ret
      exact ⟨ret_int E.out.symm, rfl⟩
    · have h1 := fv_iff.1 hf
      have h2 := fv_iff.1 hg
      obtain ⟨F, rfl⟩ := Int.eq_ofNat_of_zero_le h1.1
      obtain ⟨G, rfl⟩ := Int.eq_ofNat_of_zero_le h2.1
      have hor := i64_or_nat F G (by omega) (by omega)
      have E := Lib.hid (join_nat hf hg)
      go_enter Try.func44, Try.ntmps44
      go_wp2_with (go_at_call 127; refine (ifilterValid_any _ _).mono ?_; rintro e w' ⟨rfl, rfl⟩)
      go_ret
      exact ⟨ret_int E.out.symm, rfl⟩
set_option maxHeartbeats 2000000 in
set_option maxRecDepth 100000 in
theorem sFilterJoin_any (a b : Int) (w : World) :
    Calls Try.prog 45 #[.int .i64 a, .int .i64 b] w fun e w' => e = .returned (.int .i64 (filterJoin a b)) ∧ w = w' := by
  cases hf : inI a 0 1073741823
  · have E := Lib.hid (join_bad (b := b) (.inl hf))
    go_enter Try.func45, Try.ntmps45
    go_wp2_with (go_at_call 113; refine (sl1In_any _ _ _ _).mono ?_; rintro e w' ⟨rfl, rfl⟩)
    go_ret
    exact ⟨ret_int E.out.symm, rfl⟩
  · cases hg : inI b 0 1073741823
    · have E := Lib.hid (join_bad (a := a) (.inr hg))
      go_enter Try.func45, Try.ntmps45
      go_wp2_with (go_at_call 113; refine (sl1In_any _ _ _ _).mono ?_; rintro e w' ⟨rfl, rfl⟩)
      go_ret
      exact ⟨ret_int E.out.symm, rfl⟩
    · have h1 := fv_iff.1 hf
      have h2 := fv_iff.1 hg
      obtain ⟨F, rfl⟩ := Int.eq_ofNat_of_zero_le h1.1
      obtain ⟨G, rfl⟩ := Int.eq_ofNat_of_zero_le h2.1
      have hor := i64_or_nat F G (by omega) (by omega)
      have E := Lib.hid (join_nat hf hg)
      go_enter Try.func45, Try.ntmps45
      go_wp2_with (go_at_call 113; refine (sl1In_any _ _ _ _).mono ?_; rintro e w' ⟨rfl, rfl⟩)
      go_ret
      exact ⟨ret_int E.out.symm, rfl⟩

theorem wanted_bad {f : Int} {l : List Int} (h : fv f = false ∨ l.all pv = false) : filterWanted f l = [] := by
  unfold filterWanted; rcases h with h | h <;> simp [h]
theorem wanted_ok {f : Int} {l : List Int} (hf : fv f = true) (hl : l.all pv = true) : filterWanted f l = l.filter (fun p => !filterHas f p) := by
  unfold filterWanted; simp [hf, hl]
theorem filter_take_yes {α : Type} {p : α → Bool} {l : List α} {k : Nat} (hk : k < l.length) (h : p l[k] = true) : (l.take (k + 1)).filter p = (l.take k).filter p ++ [l[k]] := by
  rw [List.take_succ_eq_append_getElem hk, List.filter_append]; simp [h]
theorem filter_take_no {α : Type} {p : α → Bool} {l : List α} {k : Nat} (hk : k < l.length) (h : p l[k] = false) : (l.take (k + 1)).filter p = (l.take k).filter p := by
  rw [List.take_succ_eq_append_getElem hk, List.filter_append]; simp [h]
/-- A result that is a slice in new memory. -/
def OwnRes {α : Type} (E : TypeId) (size : Nat) (enc : α → List Value) (l : List α) (w : World) (e : Ending) (w' : World) : Prop :=
  ∃ v, e = .returned v ∧ Own w' w.heap.size E size enc v l ∧ Below w.heap.size w w'

set_option maxHeartbeats 2000000 in
set_option maxRecDepth 100000 in
theorem iFilterWanted_any (f : Int) (A : Option Addr) (c : Nat) (l : List Int) (w : World) (hs : Sl w encI 1 A l) (hl : l.length ≤ 16777216) :
    Calls Try.prog 60 #[.int .i64 f, .slice A l.length c] w (OwnRes 3 1 encI (filterWanted f l) w) := by
  have HS := Lib.hid hs
  clear hs
  cases hf : fv f
  · go_enter Try.func60, Try.ntmps60
    go_wp2_with (go_at_call 127; refine (ifilterValid_any _ _).mono ?_; rintro e w' ⟨rfl, rfl⟩)
    go_ret
    exact ⟨_, rfl, by rw [wanted_bad (.inl hf)]; exact Own.nil, Below.refl _ _⟩
  · cases hv : l.all pv
    · go_enter Try.func60, Try.ntmps60
      go_wp2_with (first | (go_at_call 127; refine (ifilterValid_any _ _).mono ?_; rintro e w' ⟨rfl, rfl⟩) | (go_at_call 134; refine (iprintsValid_any _ _ _ _ HS.out hl).mono ?_; rintro e w' ⟨rfl, rfl⟩))
      go_ret
      exact ⟨_, rfl, by rw [wanted_bad (.inr hv)]; exact Own.nil, Below.refl _ _⟩
    · go_enter Try.func60, Try.ntmps60
      go_wp2_with (first | (go_at_call 127; refine (ifilterValid_any _ _).mono ?_; rintro e w' ⟨rfl, rfl⟩) | (go_at_call 134; refine (iprintsValid_any _ _ _ _ HS.out hl).mono ?_; rintro e w' ⟨rfl, rfl⟩))
      go_loopw [5, 18] (fun v i wr => ∃ (k : Nat) (acc : List Int), k ≤ l.length ∧ i = .int .i64 k ∧ acc.length ≤ k ∧ Hid (acc = (l.take k).filter (fun p => !filterHas f p)) ∧ Own wr w.heap.size 3 1 encI v acc ∧ Below w.heap.size w wr) (fun _ i _ => l.length - (intOf i).toNat)
      case atStart => exact ⟨0, [], Nat.zero_le _, rfl, Nat.le_refl _, rfl, Own.nil, Below.refl _ _⟩
      case round =>
        obtain ⟨k, acc, hk, rfl, hal, hh, hown, hb⟩ := hrel
        by_cases hlt : k < l.length
        · obtain ⟨b, o, rfl, hc⟩ := (HS.out.below hb).getI hlt
          cases hq : filterHas f l[k]
          · go_wp2_with (first
              | (go_at_call 50; refine (iFilterHas_any _ _ _).mono ?_; rintro e w1 ⟨rfl, n1, rfl⟩)
              | (at_builtin; refine app_int rfl rfl rfl rfl (hown.drewN _) (Below_drewN hb _) (by omega) ?_; intro v1 w2 hown2 hb2))
            go_roundw
            case rel => exact ⟨k + 1, _, by omega, by go_num, by simp; omega, by show _ = _; rw [filter_take_yes hlt (by simp [hq]), ← hh.out], hown2, hb2⟩
            case measure => simp [intOf]; omega
          · go_wp2_with (go_at_call 50; refine (iFilterHas_any _ _ _).mono ?_; rintro e w1 ⟨rfl, n1, rfl⟩)
            go_roundw
            case rel => exact ⟨k + 1, acc, by omega, by go_num, by omega, by show _ = _; rw [filter_take_no hlt (by simp [hq]), ← hh.out], hown.drewN _, Below_drewN hb _⟩
            case measure => simp [intOf]; omega
        · go_wp2
          go_ret
          refine ⟨_, rfl, ?_, hb⟩
          rw [wanted_ok hf hv, ← List.take_of_length_le (l := l) (i := k) (by omega), ← hh.out]; exact hown

set_option maxHeartbeats 2000000 in
set_option maxRecDepth 100000 in
theorem sFilterWanted_any (f : Int) (A : Option Addr) (c : Nat) (l : List Int) (w : World) (hs : Sl w encI 1 A l) (hl : l.length ≤ 16777216) :
    Calls Try.prog 76 #[.int .i64 f, .slice A l.length c] w (OwnRes 3 1 encI (filterWanted f l) w) := by
  have HS := Lib.hid hs
  clear hs
  go_enter Try.func76, Try.ntmps76
  go_wp2
  go_loopw [5, 6] (fun v i wr => ∃ (k : Nat) (acc : List Int), k ≤ l.length ∧ i = .int .i64 k ∧ acc.length ≤ k ∧ Hid (acc = (l.take k).filter (fun p => !filterHas f p)) ∧ Hid ((l.take k).all pv = true ∧ (0 < k → fv f = true)) ∧ Own wr w.heap.size 3 1 encI v acc ∧ Below w.heap.size w wr) (fun _ i _ => l.length - (intOf i).toNat)
  case atStart => exact ⟨0, [], Nat.zero_le _, rfl, Nat.le_refl _, rfl, ⟨rfl, fun h => absurd h (by omega)⟩, Own.made (Nat.le_refl _), (Below.refl _ _).alloc (Nat.le_refl _) _⟩
  case round =>
    obtain ⟨k, acc, hk, rfl, hal, hh, hall, hown, hb⟩ := hrel
    by_cases hlt : k < l.length
    · obtain ⟨b, o, rfl, hc⟩ := (HS.out.below hb).getI hlt
      cases hp : inI l[k] 0 16777212
      · go_wp2_with (go_at_call 113; refine (sl1In_any _ _ _ _).mono ?_; rintro e w' ⟨rfl, rfl⟩)
        go_ret
        exact ⟨_, rfl, by rw [wanted_bad (.inr (all_bad hlt hp))]; exact Own.made hb.size, hb.alloc hb.size _⟩
      · cases hf : inI f 0 1073741823
        · go_wp2_with (go_at_call 113; refine (sl1In_any _ _ _ _).mono ?_; rintro e w' ⟨rfl, rfl⟩)
          go_ret
          exact ⟨_, rfl, by rw [wanted_bad (.inl hf)]; exact Own.made hb.size, hb.alloc hb.size _⟩
        · cases hq : filterHas f l[k]
          · go_wp2_with (first
              | (go_at_call 113; refine (sl1In_any _ _ _ _).mono ?_; rintro e w' ⟨rfl, rfl⟩)
              | (go_at_call 51; refine (sFilterHas_any _ _ _).mono ?_; rintro e w1 ⟨rfl, n1, rfl⟩)
              | (at_builtin; refine app_int rfl rfl rfl rfl (hown.drewN _) (Below_drewN hb _) (by omega) ?_; intro v1 w2 hown2 hb2))
            go_roundw
            case rel => exact ⟨k + 1, _, by omega, by go_num, by simp; omega, by show _ = _; rw [filter_take_yes hlt (by simp [hq]), ← hh.out], ⟨all_take_succ hlt hall.out.1 hp, fun _ => hf⟩, hown2, hb2⟩
            case measure => simp [intOf]; omega
          · go_wp2_with (first | (go_at_call 113; refine (sl1In_any _ _ _ _).mono ?_; rintro e w' ⟨rfl, rfl⟩) | (go_at_call 51; refine (sFilterHas_any _ _ _).mono ?_; rintro e w1 ⟨rfl, n1, rfl⟩))
            go_roundw
            case rel => exact ⟨k + 1, acc, by omega, by go_num, by omega, by show _ = _; rw [filter_take_no hlt (by simp [hq]), ← hh.out], ⟨all_take_succ hlt hall.out.1 hp, fun _ => hf⟩, hown.drewN _, Below_drewN hb _⟩
            case measure => simp [intOf]; omega
    · go_wp2
      go_ret
      refine ⟨_, rfl, ?_, hb⟩
      have e : filterWanted f l = acc := by
        have h1 := all_of_take hlt hall.out.1
        by_cases h0 : 0 < k
        · rw [wanted_ok (hall.out.2 h0) h1, hh.out, List.take_of_length_le (by omega)]
        · have hl0 : l = [] := List.eq_nil_of_length_eq_zero (by omega)
          rw [hh.out, hl0]; unfold filterWanted; split <;> simp
      rw [e]; exact hown
end Go.Proofs.Ytbefbenihahdnaa
