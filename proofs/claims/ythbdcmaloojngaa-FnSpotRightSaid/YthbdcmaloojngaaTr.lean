/- Trees: levels, roots, proofs. -/
import Derived.Test.YthbdcmaloojngaaW1
import Derived.Test.YthbdcmaloojngaaFi2
import Derived.Test.YthbdcmaloojngaaHeap2
set_option linter.unusedVariables false
namespace Go.Proofs.Ythbdcmaloojngaa
open Go.RowKit
theorem new_cell1 (w : World) (u : Value) (E : TypeId) : (w.alloc (.cells #[u] E)).drew.cell? ⟨w.heap.size, 0, none⟩ = some u := by
  show (w.alloc (.cells #[u] E)).cell? ⟨w.heap.size, 0, none⟩ = some u
  rw [cell_of_row _ _ 0 _ E (0, 0) (heap_alloc_new w _)]; rfl
theorem lvlUp_two {l : List Int} {k : Nat} (h : k + 1 < l.length) : lvlUp (l.drop k) = prPair l[k] l[k + 1] :: lvlUp (l.drop (k + 2)) := by
  rw [List.drop_eq_getElem_cons (by omega), List.drop_eq_getElem_cons (by omega)]; rfl
theorem lvlUp_one {l : List Int} {k : Nat} (h : k < l.length) (h2 : ¬ k + 1 < l.length) : lvlUp (l.drop k) = [l[k]] := by
  rw [List.drop_eq_getElem_cons (by omega), List.drop_of_length_le (by omega)]; rfl
theorem lvlUp_none {l : List Int} {k : Nat} (h : ¬ k < l.length) : lvlUp (l.drop k) = [] := by
  rw [List.drop_of_length_le (by omega)]; rfl
theorem lvlUp_drop_end {l : List Int} {k : Nat} (h : k < l.length) (h2 : ¬ k + 1 < l.length) : lvlUp (l.drop (k + 2)) = [] := by
  rw [List.drop_of_length_le (by omega)]; rfl

set_option maxHeartbeats 4000000 in
set_option maxRecDepth 100000 in
theorem i_levelAbove_any (A : Option Addr) (c : Nat) (l : List Int) (w : World) (hs : Sl w encI 1 A l) (hl : l.length ≤ 16777216) :
    Calls Try.prog 56 #[.slice A l.length c] w (OwnRes 3 1 encI (lvlUp l) w) := by
  have HS := Lib.hid hs
  clear hs
  go_enter Try.func56, Try.ntmps56
  go_wp2
  go_loopw [3, 4] (fun v i wr => ∃ (k : Nat) (acc : List Int), k ≤ l.length + 1 ∧ i = .int .i64 (k : Int) ∧ acc.length ≤ k ∧ Hid (lvlUp l = acc ++ lvlUp (l.drop k)) ∧ Own wr w.heap.size 3 1 encI v acc ∧ Below w.heap.size w wr) (fun _ i _ => l.length + 1 - (intOf i).toNat)
  case atStart => first
    | exact ⟨0, [], by omega, rfl, Nat.le_refl _, by show _ = _; simp, Own.nil, Below.refl _ _⟩
    | exact ⟨0, [], by omega, rfl, Nat.le_refl _, by show _ = _; simp, Own.made (Nat.le_refl _), (Below.refl _ _).alloc (Nat.le_refl _) _⟩
  case round =>
    obtain ⟨k, acc, hk, rfl, hak, hh, hown, hb⟩ := hrel
    by_cases hlt : k + 1 < l.length
    · obtain ⟨b, o, rfl, hc⟩ := (HS.out.below hb).getI (k := k) (by omega)
      obtain ⟨b', o', e, hc'⟩ := (HS.out.below hb).getI hlt
      have hbb : b' = b ∧ o' = o := by injection e with e; injection e with e1 e3; exact ⟨e1.symm, e3.symm⟩
      obtain ⟨rfl, rfl⟩ := hbb
      clear e
      go_wp2
      have s1 : (0 : Int) ≤ (k : Int) + 1 := by omega
      have s2 : (k : Int) + 1 < (l.length : Int) := by omega
      have s3 : IntKind.i64.wrap ((k : Int) + 1) = (k : Int) + 1 := IntWalk.i64_in _ (by omega)
      have s4 : ((k : Int) + 1).toNat = k + 1 := by omega
      have hal : acc.length ≤ 16777216 := by omega
      go_region_law (first
        | (refine step_int rfl rfl rfl rfl ((hown.alloc _).drew) ((hb.alloc hb.size _).drew) hal (new_cell1 _ _ _) ?_; intro v1 w2 hown2 hb2)
        | (go_simp; go_at_call 40; refine (iPrintPair_any _ _ _).mono ?_; rintro e w' ⟨rfl, rfl⟩))
      all_goals
        clear s1 s2 s3 s4
        go_wp2
        go_roundw
        case rel => exact ⟨k + 2, _, by omega, by go_num, by simp; omega, by show _ = _; rw [hh.out, lvlUp_two hlt]; simp, hown2, hb2⟩
        case measure => simp [intOf]; omega
    · by_cases hlt2 : k < l.length
      · obtain ⟨b, o, rfl, hc⟩ := (HS.out.below hb).getI hlt2
        go_wp2_with (at_builtin; refine app_int rfl rfl rfl rfl hown hb (by omega) ?_; intro v1 w2 hown2 hb2)
        go_roundw
        case rel => exact ⟨k + 2, _, by omega, by go_num, by simp; omega, by show _ = _; rw [hh.out, lvlUp_one hlt2 hlt, lvlUp_drop_end hlt2 hlt]; simp, hown2, hb2⟩
        case measure => simp [intOf]; omega
      · go_wp2
        go_ret
        refine ⟨_, rfl, ?_, hb⟩
        rw [hh.out, lvlUp_none hlt2, List.append_nil]; exact hown
set_option maxHeartbeats 4000000 in
set_option maxRecDepth 100000 in
theorem s_l5Up_any (A : Option Addr) (c : Nat) (l : List Int) (w : World) (hs : Sl w encI 1 A l) (hl : l.length ≤ 16777216) :
    Calls Try.prog 59 #[.slice A l.length c] w (OwnRes 3 1 encI (lvlUp l) w) := by
  have HS := Lib.hid hs
  clear hs
  go_enter Try.func59, Try.ntmps59
  go_wp2
  go_loopw [3, 4] (fun v i wr => ∃ (k : Nat) (acc : List Int), k ≤ l.length + 1 ∧ i = .int .i64 (k : Int) ∧ acc.length ≤ k ∧ Hid (lvlUp l = acc ++ lvlUp (l.drop k)) ∧ Own wr w.heap.size 3 1 encI v acc ∧ Below w.heap.size w wr) (fun _ i _ => l.length + 1 - (intOf i).toNat)
  case atStart => first
    | exact ⟨0, [], by omega, rfl, Nat.le_refl _, by show _ = _; simp, Own.nil, Below.refl _ _⟩
    | exact ⟨0, [], by omega, rfl, Nat.le_refl _, by show _ = _; simp, Own.made (Nat.le_refl _), (Below.refl _ _).alloc (Nat.le_refl _) _⟩
  case round =>
    obtain ⟨k, acc, hk, rfl, hak, hh, hown, hb⟩ := hrel
    by_cases hlt : k + 1 < l.length
    · obtain ⟨b, o, rfl, hc⟩ := (HS.out.below hb).getI (k := k) (by omega)
      obtain ⟨b', o', e, hc'⟩ := (HS.out.below hb).getI hlt
      have hbb : b' = b ∧ o' = o := by injection e with e; injection e with e1 e3; exact ⟨e1.symm, e3.symm⟩
      obtain ⟨rfl, rfl⟩ := hbb
      clear e
      go_wp2
      have s1 : (0 : Int) ≤ (k : Int) + 1 := by omega
      have s2 : (k : Int) + 1 < (l.length : Int) := by omega
      have s3 : IntKind.i64.wrap ((k : Int) + 1) = (k : Int) + 1 := IntWalk.i64_in _ (by omega)
      have s4 : ((k : Int) + 1).toNat = k + 1 := by omega
      have hal : acc.length ≤ 16777216 := by omega
      go_region_law (first
        | (refine step_int rfl rfl rfl rfl ((hown.alloc _).drew) ((hb.alloc hb.size _).drew) hal (new_cell1 _ _ _) ?_; intro v1 w2 hown2 hb2)
        | (go_simp; go_at_call 60; refine (sPrintPair_any _ _ _).mono ?_; rintro e w' ⟨rfl, rfl⟩))
      all_goals
        clear s1 s2 s3 s4
        go_wp2
        go_roundw
        case rel => exact ⟨k + 2, _, by omega, by go_num, by simp; omega, by show _ = _; rw [hh.out, lvlUp_two hlt]; simp, hown2, hb2⟩
        case measure => simp [intOf]; omega
    · by_cases hlt2 : k < l.length
      · obtain ⟨b, o, rfl, hc⟩ := (HS.out.below hb).getI hlt2
        go_wp2_with (at_builtin; refine app_int rfl rfl rfl rfl hown hb (by omega) ?_; intro v1 w2 hown2 hb2)
        go_roundw
        case rel => exact ⟨k + 2, _, by omega, by go_num, by simp; omega, by show _ = _; rw [hh.out, lvlUp_one hlt2 hlt, lvlUp_drop_end hlt2 hlt]; simp, hown2, hb2⟩
        case measure => simp [intOf]; omega
      · go_wp2
        go_ret
        refine ⟨_, rfl, ?_, hb⟩
        rw [hh.out, lvlUp_none hlt2, List.append_nil]; exact hown
end Go.Proofs.Ythbdcmaloojngaa
