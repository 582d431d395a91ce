/- Tags, walked: right ones. -/
import Derived.Test.YtbefbenihahdnaaVe
import Derived.Test.YtbefbenihahdnaaDm
import Derived.Test.YtbefbenihahdnaaSTag
set_option linter.unusedVariables false
namespace Go.Proofs.Ytbefbenihahdnaa
open Go.RowKit

theorem bytes_ext {a b : ByteArray} (h : (a.toList == b.toList) = true) : a = b := by
  have h2 := beq_iff_eq.1 h
  rw [ByteArray.toList_eq, ByteArray.toList_eq] at h2
  obtain ⟨⟨x⟩⟩ := a
  obtain ⟨⟨y⟩⟩ := b
  simp at h2; subst h2; rfl
def eqT (a b : Tg) : Bool := (a.1.toList == b.1.toList) && ((a.2.1 == b.2.1) && ((a.2.2.1 == b.2.2.1) && (a.2.2.2 == b.2.2.2)))
theorem eqT_iff {a b : Tg} : eqT a b = true ↔ a = b := by
  unfold eqT
  constructor
  · intro h
    simp only [Bool.and_eq_true, beq_iff_eq] at h
    obtain ⟨h1, h2, h3, h4⟩ := h
    obtain ⟨a1, a2, a3, a4⟩ := a
    obtain ⟨b1, b2, b3, b4⟩ := b
    simp only at h1 h2 h3 h4
    have := bytes_ext (beq_iff_eq.2 h1)
    subst this h2 h3 h4; rfl
  · rintro rfl; simp
theorem tagR_ok {l : List Vr} {t : Tg} (h : mkOk l t.1 t.2.1 = true) : tagR l t = eqT (mkT l t.1 t.2.1) t := by
  unfold mkOk at h
  cases hm : makeTag l t.1 t.2.1 with
  | none => rw [hm] at h; cases h
  | some m =>
    have e : mkT l t.1 t.2.1 = m := by unfold mkT; rw [hm]; rfl
    rw [e, Bool.eq_iff_iff, eqT_iff, tagR_iff, hm]
    exact ⟨fun h => Option.some.inj h, fun h => congrArg some h⟩
theorem tagR_no {l : List Vr} {t : Tg} (h : mkOk l t.1 t.2.1 = false) : tagR l t = false := by
  unfold mkOk at h
  cases hm : makeTag l t.1 t.2.1 with
  | none =>
    cases ht : tagR l t
    · rfl
    · rw [tagR_iff.1 ht] at hm; cases hm
  | some m => rw [hm] at h; cases h
theorem eq_tgs (w : World) (a b : Tg) : (Op.equalIn 10000 77 (tgV a) (tgV b)).run Try.prog w = .ok (eqT a b) w := eq_tg w a.1 b.1 a.2.1 b.2.1 a.2.2.1 b.2.2.1 a.2.2.2 b.2.2.2

set_option maxHeartbeats 4000000 in
set_option maxRecDepth 100000 in
theorem iTagRight_any (A : Option Addr) (c : Nat) (l : List Vr) (t : Tg) (w : World) (hs : Sl w encV 3 A l) (hl : l.length ≤ 16777216) (hf : FitV l) (ht : t.1.size ≤ 16777216) :
    Calls Try.prog 89 #[.slice A l.length c, .agg #[.string t.1, .int .i64 t.2.1, .int .i64 t.2.2.1, .int .i64 t.2.2.2]] w fun e w' => e = .returned (.bool (tagR l t)) ∧ Below w.heap.size w w' := by
  have HS := Lib.hid hs
  have HF := Lib.hid hf
  clear hs hf
  have hM := fun W h => iMakeTag_any A c l t.1 t.2.1 W h hl HF.out ht
  unfold MkR at hM
  have h1 := @tagR_ok l t
  have h2 := @tagR_no l t
  generalize mkOk l t.1 t.2.1 = ok at *
  generalize mkT l t.1 t.2.1 = m at *
  generalize tagR l t = r at *
  have hgd := tg_guard
  cases ok
  · have e := h2 rfl
    subst e
    have HM := Lib.hid hM
    clear hM h1 h2
    go_enter Try.func89, Try.ntmps89
    go_wp2_with fail
    refine (HM.out _ (HS.out.alloc _)).mono ?_
    rintro e w1 ⟨rfl, hb1⟩
    have HB1 := Lib.hid (Below_of_alloc hb1)
    clear hb1
    go_wp2
    go_ret
    exact ⟨rfl, HB1.out.alloc HB1.out.size _⟩
  · have e := h1 rfl
    have heq := fun W => eq_tgs W m t
    rw [← e] at heq
    have HM := Lib.hid hM
    clear hM h1 h2 e
    go_enter Try.func89, Try.ntmps89
    go_wp2_with fail
    refine (HM.out _ (HS.out.alloc _)).mono ?_
    rintro e w1 ⟨rfl, hb1⟩
    have c0 : w1.cell? ⟨w.heap.size, 0, none⟩ = some (.string t.1) := box_cell hb1 0 rfl
    have c1 : w1.cell? ⟨w.heap.size, 1, none⟩ = some (.int .i64 t.2.1) := box_cell hb1 1 rfl
    have c2 : w1.cell? ⟨w.heap.size, 2, none⟩ = some (.int .i64 t.2.2.1) := box_cell hb1 2 rfl
    have c3 : w1.cell? ⟨w.heap.size, 3, none⟩ = some (.int .i64 t.2.2.2) := box_cell hb1 3 rfl
    have hz : w.heap.size < w1.heap.size := by have := hb1.size; simp at this; omega
    have ca0 := fun o => (World.cell?_alloc_lt w1 o ⟨w.heap.size, 0, none⟩ hz).trans c0
    have ca1 := fun o => (World.cell?_alloc_lt w1 o ⟨w.heap.size, 1, none⟩ hz).trans c1
    have ca2 := fun o => (World.cell?_alloc_lt w1 o ⟨w.heap.size, 2, none⟩ hz).trans c2
    have ca3 := fun o => (World.cell?_alloc_lt w1 o ⟨w.heap.size, 3, none⟩ hz).trans c3
    have HB1 := Lib.hid (Below_of_alloc hb1)
    clear hb1 c0 c1 c2 c3
    go_wp2
    go_ret
    exact ⟨rfl, HB1.out.alloc HB1.out.size _⟩
set_option maxHeartbeats 4000000 in
set_option maxRecDepth 100000 in
theorem sTagRight_any (A : Option Addr) (c : Nat) (l : List Vr) (t : Tg) (w : World) (hs : Sl w encV 3 A l) (hl : l.length ≤ 16777216) (hf : FitV l) (ht : t.1.size ≤ 16777216) :
    Calls Try.prog 95 #[.slice A l.length c, .agg #[.string t.1, .int .i64 t.2.1, .int .i64 t.2.2.1, .int .i64 t.2.2.2]] w fun e w' => e = .returned (.bool (tagR l t)) ∧ Below w.heap.size w w' := by
  have HS := Lib.hid hs
  have HF := Lib.hid hf
  clear hs hf
  have hM := fun W h => sMakeTag_any A c l t.1 t.2.1 W h hl HF.out ht
  unfold MkR at hM
  have h1 := @tagR_ok l t
  have h2 := @tagR_no l t
  generalize mkOk l t.1 t.2.1 = ok at *
  generalize mkT l t.1 t.2.1 = m at *
  generalize tagR l t = r at *
  have hgd := tg_guard
  cases ok
  · have e := h2 rfl
    subst e
    have HM := Lib.hid hM
    clear hM h1 h2
    go_enter Try.func95, Try.ntmps95
    go_wp2_with fail
    refine (HM.out _ (HS.out.alloc _)).mono ?_
    rintro e w1 ⟨rfl, hb1⟩
    have HB1 := Lib.hid (Below_of_alloc hb1)
    clear hb1
    go_wp2
    go_ret
    exact ⟨rfl, HB1.out.alloc HB1.out.size _⟩
  · have e := h1 rfl
    have heq := fun W => eq_tgs W m t
    rw [← e] at heq
    have HM := Lib.hid hM
    clear hM h1 h2 e
    go_enter Try.func95, Try.ntmps95
    go_wp2_with fail
    refine (HM.out _ (HS.out.alloc _)).mono ?_
    rintro e w1 ⟨rfl, hb1⟩
    have c0 : w1.cell? ⟨w.heap.size, 0, none⟩ = some (.string t.1) := box_cell hb1 0 rfl
    have c1 : w1.cell? ⟨w.heap.size, 1, none⟩ = some (.int .i64 t.2.1) := box_cell hb1 1 rfl
    have c2 : w1.cell? ⟨w.heap.size, 2, none⟩ = some (.int .i64 t.2.2.1) := box_cell hb1 2 rfl
    have c3 : w1.cell? ⟨w.heap.size, 3, none⟩ = some (.int .i64 t.2.2.2) := box_cell hb1 3 rfl
    have hz : w.heap.size < w1.heap.size := by have := hb1.size; simp at this; omega
    have ca0 := fun o => (World.cell?_alloc_lt w1 o ⟨w.heap.size, 0, none⟩ hz).trans c0
    have ca1 := fun o => (World.cell?_alloc_lt w1 o ⟨w.heap.size, 1, none⟩ hz).trans c1
    have ca2 := fun o => (World.cell?_alloc_lt w1 o ⟨w.heap.size, 2, none⟩ hz).trans c2
    have ca3 := fun o => (World.cell?_alloc_lt w1 o ⟨w.heap.size, 3, none⟩ hz).trans c3
    have HB1 := Lib.hid (Below_of_alloc hb1)
    clear hb1 c0 c1 c2 c3
    go_wp2
    go_ret
    exact ⟨rfl, HB1.out.alloc HB1.out.size _⟩
theorem rightTags_take_yes {l : List Vr} {ts : List Tg} {k : Nat} (h : k < ts.length) (hp : tagR l ts[k] = true) : rightTags l (ts.take (k + 1)) = rightTags l (ts.take k) ++ [ts[k]] := filter_take_yes h hp
theorem rightTags_take_no {l : List Vr} {ts : List Tg} {k : Nat} (h : k < ts.length) (hp : tagR l ts[k] = false) : rightTags l (ts.take (k + 1)) = rightTags l (ts.take k) := filter_take_no h hp
def FitT (l : List Tg) : Prop := ∀ t ∈ l, t.1.size ≤ 16777216
theorem FitT.at {l : List Tg} (h : FitT l) {k : Nat} (hk : k < l.length) : l[k].1.size ≤ 16777216 := h _ (by simp)
section
variable {ops : Array Oper} {rest : List Oper} {o : Oper} {a : Act} {Q : Exit → Act → World → Prop} {w0 wr : World} {v : Value}
theorem app_tg {l : List Tg} {y : Tg} {s x : Operand} (hgd : o.guard = none) (ho : o.op = .call { callee := .builtin .append, args := #[s, x], argTypes := #[98, 98] })
    (hs : a.eval s = v) (hx : a.eval x = .slice (some ⟨wr.heap.size, 0, none⟩) 1 1)
    (hown : Own wr w0.heap.size 77 4 encT v l) (hb : Below w0.heap.size w0 wr) (hn : l.length ≤ 16777216)
    (h : ∀ v' w', Own w' w0.heap.size 77 4 encT v' (l ++ [y]) → Below w0.heap.size w0 w' → wpList Try.prog ops Q rest (a.put o.dst v') w') :
    wpList Try.prog ops Q (o :: rest) a (wr.alloc (.cells #[.string y.1, .int .i64 y.2.1, .int .i64 y.2.2.1, .int .i64 y.2.2.2] 77)) := by
  obtain ⟨i0, hi0, hz0, hz1, hz2⟩ := info_parts encT_info
  exact wpList_app1 Try.underlying98 hi0 hz0 hz1 hz2 rfl (by decide) (by decide) hgd s x ho hs hx hown hb (Nat.le_refl _) hb.size hn y _ rfl rfl (oneT y) h
end
set_option maxHeartbeats 4000000 in
set_option maxRecDepth 100000 in
theorem iRightTags_any (A B : Option Addr) (c d : Nat) (l : List Vr) (ts : List Tg) (w : World) (hs : Sl w encV 3 A l) (hl : l.length ≤ 16777216) (hf : FitV l) (hs2 : Sl w encT 4 B ts) (hl2 : ts.length ≤ 16777216) (hf2 : FitT ts) :
    Calls Try.prog 102 #[.slice A l.length c, .slice B ts.length d] w (OwnRes 77 4 encT (rightTags l ts) w) := by
  have HS := Lib.hid hs
  have HF := Lib.hid hf
  have HS2 := Lib.hid hs2
  have HF2 := Lib.hid hf2
  clear hs hf hs2 hf2
  go_enter Try.func102, Try.ntmps102
  go_wp2
  go_loopw [5, 10] (fun v i wr => ∃ (k : Nat) (acc : List Tg), k ≤ ts.length ∧ i = .int .i64 k ∧ acc.length ≤ k ∧ Hid (acc = rightTags l (ts.take k)) ∧ Hid (Own wr w.heap.size 77 4 encT v acc) ∧ Hid (Below w.heap.size w wr)) (fun _ i _ => ts.length - (intOf i).toNat)
  case atStart => exact ⟨0, [], Nat.zero_le _, rfl, Nat.le_refl _, rfl, Own.nil, Below.refl _ _⟩
  case round =>
    obtain ⟨k, acc, hk, rfl, hak, hh, HW, HB⟩ := hrel
    by_cases hlt : k < ts.length
    · obtain ⟨b, o, rfl, hc0, hc1, hc2, hc3⟩ := (HS2.out.below HB.out).getT hlt
      have hfk := HF2.out.at hlt
      have hR := fun W h => iTagRight_any A c l ts[k] W h hl HF.out hfk
      have h1 := @rightTags_take_yes l ts k hlt
      have h2 := @rightTags_take_no l ts k hlt
      generalize ts[k] = t at *
      cases hp : tagR l t
      · rw [hp] at hR
        have HR := Lib.hid hR
        have HE := Lib.hid (h2 hp)
        clear hR h1 h2 hp
        go_wp2_with fail
        refine (HR.out _ ((HS.out.below HB.out).alloc _)).mono ?_
        rintro e w2 ⟨rfl, hb2⟩
        have HW2 := Lib.hid (HW.out.below (Below_of_alloc hb2))
        have HB2 := Lib.hid (Below_then HB.out (Below_of_alloc hb2) (Nat.le_refl _))
        clear hb2
        go_wp2
        go_roundw
        case rel => exact ⟨k + 1, acc, by omega, by go_num, by omega, by show _ = _; rw [HE.out]; exact hh.out, HW2.out, HB2.out⟩
        case measure => simp [intOf]; omega
      · rw [hp] at hR
        have HR := Lib.hid hR
        have HE := Lib.hid (h1 hp)
        clear hR h1 h2 hp
        go_wp2_with fail
        refine (HR.out _ ((HS.out.below HB.out).alloc _)).mono ?_
        rintro e w2 ⟨rfl, hb2⟩
        have c0 : w2.cell? ⟨wr.heap.size, 0, none⟩ = some (.string t.1) := box_cell hb2 0 rfl
        have c1 : w2.cell? ⟨wr.heap.size, 1, none⟩ = some (.int .i64 t.2.1) := box_cell hb2 1 rfl
        have c2 : w2.cell? ⟨wr.heap.size, 2, none⟩ = some (.int .i64 t.2.2.1) := box_cell hb2 2 rfl
        have c3 : w2.cell? ⟨wr.heap.size, 3, none⟩ = some (.int .i64 t.2.2.2) := box_cell hb2 3 rfl
        have HW2 := Lib.hid (HW.out.below (Below_of_alloc hb2))
        have HB2 := Lib.hid (Below_then HB.out (Below_of_alloc hb2) (Nat.le_refl _))
        clear hb2
        go_wp2_with (at_builtin; refine app_tg (y := t) rfl rfl rfl rfl HW2.out HB2.out (by omega) ?_; intro v1 w3 hown3 hb3)
        go_roundw
        case rel => exact ⟨k + 1, _, by omega, by go_num, by simp; omega, by show _ = _; rw [HE.out, ← hh.out], hown3, hb3⟩
        case measure => simp [intOf]; omega
    · go_wp2
      go_ret
      refine ⟨_, rfl, ?_, HB.out⟩
      rw [← List.take_of_length_le (l := ts) (i := k) (by omega), ← hh.out]; exact HW.out
set_option maxHeartbeats 4000000 in
set_option maxRecDepth 100000 in
theorem sRightTags_any (A B : Option Addr) (c d : Nat) (l : List Vr) (ts : List Tg) (w : World) (hs : Sl w encV 3 A l) (hl : l.length ≤ 16777216) (hf : FitV l) (hs2 : Sl w encT 4 B ts) (hl2 : ts.length ≤ 16777216) (hf2 : FitT ts) :
    Calls Try.prog 103 #[.slice A l.length c, .slice B ts.length d] w (OwnRes 77 4 encT (rightTags l ts) w) := by
  have HS := Lib.hid hs
  have HF := Lib.hid hf
  have HS2 := Lib.hid hs2
  have HF2 := Lib.hid hf2
  clear hs hf hs2 hf2
  go_enter Try.func103, Try.ntmps103
  go_wp2
  go_loopw [5, 6] (fun v i wr => ∃ (k : Nat) (acc : List Tg), k ≤ ts.length ∧ i = .int .i64 k ∧ acc.length ≤ k ∧ Hid (acc = rightTags l (ts.take k)) ∧ Hid (Own wr w.heap.size 77 4 encT v acc) ∧ Hid (Below w.heap.size w wr)) (fun _ i _ => ts.length - (intOf i).toNat)
  case atStart => exact ⟨0, [], Nat.zero_le _, rfl, Nat.le_refl _, rfl, Own.made (Nat.le_refl _), (Below.refl _ _).alloc (Nat.le_refl _) _⟩
  case round =>
    obtain ⟨k, acc, hk, rfl, hak, hh, HW, HB⟩ := hrel
    by_cases hlt : k < ts.length
    · obtain ⟨b, o, rfl, hc0, hc1, hc2, hc3⟩ := (HS2.out.below HB.out).getT hlt
      have hfk := HF2.out.at hlt
      have hR := fun W h => sTagRight_any A c l ts[k] W h hl HF.out hfk
      have h1 := @rightTags_take_yes l ts k hlt
      have h2 := @rightTags_take_no l ts k hlt
      generalize ts[k] = t at *
      cases hp : tagR l t
      · rw [hp] at hR
        have HR := Lib.hid hR
        have HE := Lib.hid (h2 hp)
        clear hR h1 h2 hp
        go_wp2_with fail
        refine (HR.out _ (HS.out.below HB.out)).mono ?_
        rintro e w2 ⟨rfl, hb2⟩
        have HW2 := Lib.hid (HW.out.below hb2)
        have HB2 := Lib.hid (Below_then HB.out hb2 (Nat.le_refl _))
        clear hb2
        go_wp2
        go_roundw
        case rel => exact ⟨k + 1, acc, by omega, by go_num, by omega, by show _ = _; rw [HE.out]; exact hh.out, HW2.out, HB2.out⟩
        case measure => simp [intOf]; omega
      · rw [hp] at hR
        have HR := Lib.hid hR
        have HE := Lib.hid (h1 hp)
        clear hR h1 h2 hp
        go_wp2_with fail
        refine (HR.out _ (HS.out.below HB.out)).mono ?_
        rintro e w2 ⟨rfl, hb2⟩
        have c0 := Below_cells hb2 _ _ _ hc0
        have c1 := Below_cells hb2 _ _ _ hc1
        have c2 := Below_cells hb2 _ _ _ hc2
        have c3 := Below_cells hb2 _ _ _ hc3
        have HW2 := Lib.hid (HW.out.below hb2)
        have HB2 := Lib.hid (Below_then HB.out hb2 (Nat.le_refl _))
        clear hb2 hc0 hc1 hc2 hc3
        go_wp2_with (at_builtin; refine app_tg (y := t) rfl rfl rfl rfl HW2.out HB2.out (by omega) ?_; intro v1 w3 hown3 hb3)
        go_roundw
        case rel => exact ⟨k + 1, _, by omega, by go_num, by simp; omega, by show _ = _; rw [HE.out, ← hh.out], hown3, hb3⟩
        case measure => simp [intOf]; omega
    · go_wp2
      go_ret
      refine ⟨_, rfl, ?_, HB.out⟩
      rw [← List.take_of_length_le (l := ts) (i := k) (by omega), ← hh.out]; exact HW.out
theorem rightTags_len (l : List Vr) (ts : List Tg) : (rightTags l ts).length ≤ ts.length := List.length_filter_le _ _
end Go.Proofs.Ytbefbenihahdnaa
