/- Drawn inputs: quotas. -/
import Derived.Test.YtedcgbmdfmgcgaaGreatDoorDq
import Derived.Test.YtedcgbmdfmgcgaaGreatDoorDr4
import Derived.Test.YtedcgbmdfmgcgaaGreatDoorGa1
import Derived.Test.YtedcgbmdfmgcgaaGreatDoorQv
import Derived.Test.YtedcgbmdfmgcgaaGreatDoorGa2
set_option linter.unusedVariables false
namespace Go.Proofs.YtedcgbmdfmgcgaaGreatDoor
open Go.RowKit
def FewQ (l : List Qt) : Prop := l.length ≤ 5 ∧ ∀ q ∈ l, q.1.size ≤ 9
theorem qt_info : (Tryz.prog.info? 52).map (fun i => (i.zero, i.size, i.bytes)) = some (some (.agg #[.string ⟨#[]⟩, .int .i64 0]), 2, 24) := by kernel_rfl
theorem oneQ : ∀ y, ∀ u ∈ encQ y, u.oneCell' = true := by intro y u hu; simp [encQ] at hu; rcases hu with rfl | rfl <;> rfl
/-! ### 'append(append([]Quota{}, l...), y)' in whatever order -/
abbrev rowQ (y : Qt) : Obj := .cells #[.string y.1, .int .i64 y.2] 52
abbrev madeQ : Obj := .cells #[] 52
def RowQ (w : World) (g : Nat) (y : Qt) : Prop := w.cell? ⟨g, 0, none⟩ = some (.string y.1) ∧ w.cell? ⟨g, 1, none⟩ = some (.int .i64 y.2)
theorem RowQ.new (w : World) (y : Qt) : RowQ (w.alloc (rowQ y)) w.heap.size y := ⟨new_cell rfl, new_cell rfl⟩
theorem RowQ.alloc {w : World} {g : Nat} {y : Qt} (h : RowQ w g y) (x : Obj) : RowQ (w.alloc x) g y := ⟨cell_alloc h.1, cell_alloc h.2⟩
theorem RowQ.grew {w w' : World} {g : Nat} {y : Qt} {v : Value} (h : RowQ w g y) (hg : Grew v w w') (hv : v.ownBlock ≠ some g) : RowQ w' g y := ⟨hg.cell hv h.1, hg.cell hv h.2⟩
theorem RowQ.below {w w' : World} {g : Nat} {y : Qt} (h : RowQ w g y) (hb : Below w.heap.size w w') : RowQ w' g y := ⟨Below_cells hb _ _ _ h.1, Below_cells hb _ _ _ h.2⟩
theorem RowQ.drew {w : World} {g : Nat} {y : Qt} (h : RowQ w g y) : RowQ w.drew g y := h
section
variable {ops : Array Oper} {rest : List Oper} {o : Oper} {a : Act} {K : Act → World → Prop} {Q : Exit → Act → World → Prop} {E' : Prop} {w0 w1 wr : World} {l m : List Qt} {A : Option Addr} {c : Nat} {y : Qt} {s x : Operand} {v : Value}
theorem step_qtN {l m : List Qt} (hgd : o.guard = none) (ho : o.op = .call { callee := .builtin .append, args := #[s, x], argTypes := #[45, 45] })
    (hown : Own wr w0.heap.size 52 2 encQ v l) (hb : Below w0.heap.size w0 wr) (hn : l.length + m.length ≤ 33554432) (hsl : Sl wr encQ 2 A m) (hcz : A = none → c = 0)
    (hs : a.eval s = v) (hx : a.eval x = .slice A m.length c)
    (h : ∀ v' w', Own w' w0.heap.size 52 2 encQ v' (l ++ m) → Below w0.heap.size w0 w' → Grew v wr w' → K (a.put o.dst v') w') : if Region.wanted o (yielded ops a.tmps) = true then Oper.wp Tryz.prog o a wr K Q else E' := by
  obtain ⟨i0, hi0, hz0, hz1, hz2⟩ := info_parts qt_info
  exact step_appN Tryz.underlying45 hi0 hz0 hz1 hz2 rfl (by decide) (by decide) hgd s x ho hown hb (Nat.le_refl _) hb.size hn hsl hcz (fun _ => rfl) oneQ hs hx h
theorem step_qt {g : Nat} (hgd : o.guard = none) (ho : o.op = .call { callee := .builtin .append, args := #[s, x], argTypes := #[45, 45] })
    (hown : Own wr w0.heap.size 52 2 encQ v l) (hb : Below w0.heap.size w0 wr) (hn : l.length ≤ 16777216) (hr : RowQ wr g y)
    (hs : a.eval s = v) (hx : a.eval x = .slice (some ⟨g, 0, none⟩) 1 1)
    (h : ∀ v' w', Own w' w0.heap.size 52 2 encQ v' (l ++ [y]) → Below w0.heap.size w0 w' → K (a.put o.dst v') w') : if Region.wanted o (yielded ops a.tmps) = true then Oper.wp Tryz.prog o a wr K Q else E' := by
  obtain ⟨i0, hi0, hz0, hz1, hz2⟩ := info_parts qt_info
  exact step_app1 Tryz.underlying45 hi0 hz0 hz1 hz2 rfl (by decide) (by decide) hgd s x ho hs hx hown hb (Nat.le_refl _) hb.size hn y (by
    intro j u hu
    have hj : j < 2 := by have := (List.getElem?_eq_some_iff.1 hu).1; simp [encQ] at this; omega
    match j, hj with
    | 0, _ => simp [encQ] at hu; rw [← hu]; exact hr.1
    | 1, _ => simp [encQ] at hu; rw [← hu]; exact hr.2) rfl (oneQ y) h
theorem step_qt_a (hsl : Sl w1 encQ 2 A l) (hcz : A = none → c = 0) (hl : l.length ≤ 16777216) (hgd : o.guard = none) (ho : o.op = .call { callee := .builtin .append, args := #[s, x], argTypes := #[45, 45] })
    (hs : a.eval s = .slice (some ⟨w1.heap.size, 0, none⟩) 0 0) (hx : a.eval x = .slice A l.length c)
    (h : ∀ v' w', Own w' w1.heap.size 52 2 encQ v' l → Below w1.heap.size w1 w' → K (a.put o.dst v') w') : if Region.wanted o (yielded ops a.tmps) = true then Oper.wp Tryz.prog o a (w1.alloc madeQ).drew K Q else E' :=
  step_qtN (w0 := w1) (l := []) hgd ho ((Own.made (w := w1) (Nat.le_refl _)).drew) (((Below.refl _ _).alloc (Nat.le_refl _) _).drew) (by simp; omega) ((hsl.alloc _).drew) hcz hs hx fun v' w' h1 h2 _ => h v' w' h1 h2
theorem step_qt_b (hsl : Sl w1 encQ 2 A l) (hcz : A = none → c = 0) (hl : l.length ≤ 16777216) (hgd : o.guard = none) (ho : o.op = .call { callee := .builtin .append, args := #[s, x], argTypes := #[45, 45] })
    (hs : a.eval s = .slice (some ⟨w1.heap.size, 0, none⟩) 0 0) (hx : a.eval x = .slice A l.length c)
    (h : ∀ v' w', Own w' w1.heap.size 52 2 encQ v' l → Below w1.heap.size w1 w' → RowQ w' (w1.heap.size + 1) y → K (a.put o.dst v') w') : if Region.wanted o (yielded ops a.tmps) = true then Oper.wp Tryz.prog o a ((w1.alloc madeQ).alloc (rowQ y)).drew K Q else E' := by
  have hz : w1.heap.size ≤ (w1.alloc madeQ).heap.size := by simp
  have hr := RowQ.new (w1.alloc madeQ) y
  have hzz : (w1.alloc madeQ).heap.size = w1.heap.size + 1 := by simp
  rw [hzz] at hr
  exact step_qtN (w0 := w1) (l := []) hgd ho (((Own.made (w := w1) (Nat.le_refl _)).alloc _).drew) ((((Below.refl _ _).alloc (Nat.le_refl _) _).alloc hz _).drew) (by simp; omega) (((hsl.alloc _).alloc _).drew) hcz hs hx fun v' w' h1 h2 h3 => h v' w' h1 h2 (RowQ.grew (w := ((w1.alloc madeQ).alloc (rowQ y)).drew) hr h3 (by simp [Value.ownBlock]))
theorem step_qt_c (hsl : Sl w1 encQ 2 A l) (hcz : A = none → c = 0) (hl : l.length ≤ 16777216) (hgd : o.guard = none) (ho : o.op = .call { callee := .builtin .append, args := #[s, x], argTypes := #[45, 45] })
    (hs : a.eval s = .slice (some ⟨w1.heap.size + 1, 0, none⟩) 0 0) (hx : a.eval x = .slice A l.length c)
    (h : ∀ v' w', Own w' w1.heap.size 52 2 encQ v' l → Below w1.heap.size w1 w' → RowQ w' w1.heap.size y → K (a.put o.dst v') w') : if Region.wanted o (yielded ops a.tmps) = true then Oper.wp Tryz.prog o a ((w1.alloc (rowQ y)).alloc madeQ).drew K Q else E' := by
  have hz : w1.heap.size ≤ (w1.alloc (rowQ y)).heap.size := by simp
  have hr := (RowQ.new w1 y).alloc madeQ
  have hm := (Own.made (enc := encQ) (E := 52) (size := 2) (w := w1.alloc (rowQ y)) hz).drew
  have hzz : (w1.alloc (rowQ y)).heap.size = w1.heap.size + 1 := by simp
  rw [hzz] at hm
  exact step_qtN (w0 := w1) (l := []) hgd ho hm ((((Below.refl _ _).alloc (Nat.le_refl _) _).alloc hz _).drew) (by simp; omega) (((hsl.alloc _).alloc _).drew) hcz hs hx fun v' w' h1 h2 h3 => h v' w' h1 h2 (RowQ.grew (w := ((w1.alloc (rowQ y)).alloc madeQ).drew) hr h3 (by simp [Value.ownBlock]))
theorem app_qt_only {g : Nat} (hgd : o.guard = none) (ho : o.op = .call { callee := .builtin .append, args := #[s, x], argTypes := #[45, 45] })
    (hs : a.eval s = v) (hx : a.eval x = .slice (some ⟨wr.heap.size, 0, none⟩) 1 1)
    (hown : Own wr w0.heap.size 52 2 encQ v l) (hb : Only g w0 wr) (hn : l.length ≤ 16777216)
    (h : ∀ v' w', Own w' w0.heap.size 52 2 encQ v' (l ++ [y]) → Below w0.heap.size wr w' → wpList Tryz.prog ops Q rest (a.put o.dst v') w') :
    wpList Tryz.prog ops Q (o :: rest) a (wr.alloc (rowQ y)) := by
  obtain ⟨i0, hi0, hz0, hz1, hz2⟩ := info_parts qt_info
  exact wpList_app1 Tryz.underlying45 hi0 hz0 hz1 hz2 rfl (by decide) (by decide) hgd s x ho hs hx hown (Below.refl w0.heap.size wr) (Nat.le_refl _) hb.size hn y _ rfl rfl (oneQ y) h
end
theorem fewQ_snoc {l : List Qt} {k : Nat} {y : Qt} (h : l.length + k ≤ 4) (ha : ∀ q ∈ l, q.1.size ≤ 9) (hy : y.1.size ≤ 9) : FewQ (l ++ [y]) := by
  refine ⟨by simp; omega, fun q hq => ?_⟩
  rw [List.mem_append, List.mem_singleton] at hq
  rcases hq with hq | rfl
  · exact ha q hq
  · exact hy
set_option maxHeartbeats 8000000 in
set_option maxRecDepth 100000 in
theorem l20Quotas_any (n : Int) (g p : Nat) (w : World) (hr : Rdr w g p) (hp : p ≤ 700000000) (hn : n ≤ 1000000000) :
    Calls Tryz.prog 58 #[.pointer (some ⟨g, 0, none⟩), .int .i64 n] w (DrewSl 52 2 encQ FewQ 60 w g p) := by
  have HR := Lib.hid hr
  clear hr
  go_enter Tryz.func58, Tryz.ntmps58
  go_wp2_with fail
  refine (pick_any _ _ _ _ (HR.out.alloc _) (by omega) (by omega)).mono ?_
  rintro e w2 ⟨a, rfl, ha, ho2, hr2⟩
  have ha' : a ≤ 4 := by omega
  have HR2 := Lib.hid hr2
  have HO2 := Lib.hid ((Only.of_below ((Below.refl w.heap.size w).alloc (Nat.le_refl _) _)).trans ho2)
  have HW := Lib.hid ((Own.made (enc := encQ) (E := 52) (size := 2) (Nat.le_refl w.heap.size)).only ho2 HR.out.lt)
  clear hr2 ho2 ha
  go_wp2_with fail
  go_loopw [5, 6, 7] (fun v i b wr => ∃ (k : Nat) (acc : List Qt) (p1 : Nat), k ≤ 4 ∧ i = .int .i64 k ∧ acc.length + k ≤ 4 ∧ Hid (∀ q ∈ acc, q.1.size ≤ 9) ∧ Own wr w.heap.size 52 2 encQ v acc ∧ Only g w wr ∧ Rdr wr g p1 ∧ p1 + 4 * k ≤ p + 40) (fun _ i _ _ => (intOf i).toNat)
  case atStart => exact ⟨a, [], p + 1, ha', rfl, by simp; omega, (by intro p hp; simp at hp), HW.out, HO2.out, HR2.out, by omega⟩
  case round =>
    obtain ⟨k, acc, p1, hk, rfl, hak, hall, hown, ho, hr1, hp1⟩ := hrel
    have HR1 := Lib.hid hr1
    have HO1 := Lib.hid ho
    have HW1 := Lib.hid hown
    clear hr1 ho hown
    by_cases hk0 : 0 < k
    · go_wp2_with fail
      refine (l20Path_any _ _ _ _ HR1.out (by omega) (by omega)).mono ?_
      rintro e w3 ⟨v3, p3, rfl, ⟨s, rfl, hs⟩, ho3, hr3, hp3⟩
      have HR3 := Lib.hid hr3
      have HO3 := Lib.hid (HO1.out.trans ho3)
      have HW3 := Lib.hid (HW1.out.only ho3 HR.out.lt)
      clear hr3 ho3
      go_wp2_with fail
      refine (pick_any 12 _ _ _ HR3.out (by omega) (by omega)).mono ?_
      rintro e w4 ⟨m, rfl, hm, ho4, hr4⟩
      have HR4 := Lib.hid hr4
      have HO4 := Lib.hid (HO3.out.trans ho4)
      have HW4 := Lib.hid (HW3.out.only ho4 HR.out.lt)
      clear hr4 ho4 hm
      generalize (m : Int) = M at *
      obtain ⟨y, rfl, rfl⟩ : ∃ y : Qt, s = y.1 ∧ M = y.2 := ⟨(s, M), rfl, rfl⟩
      have HK5 := Lib.hid (RowQ.new w4 y)
      have HO5 := Lib.hid (HO4.out.alloc (rowQ y))
      have HR5 := Lib.hid (HR4.out.alloc (rowQ y))
      have hW5 := HW4.out.alloc (rowQ y)
      obtain ⟨A, c, rfl, _, hsl, _⟩ := hW5.sl
      have HS1 := Lib.hid hsl
      have HC := Lib.hid hW5.cz
      have HW5 := Lib.hid hW5
      have HL := Lib.hid (show acc.length ≤ 16777216 by omega)
      have HLEN := Lib.hid (show (acc ++ [y]).length = acc.length + 1 by simp)
      have HFQ := Lib.hid (show FitQ (acc ++ [y]) from fun q hq => by
        rw [List.mem_append, List.mem_singleton] at hq
        rcases hq with hq | rfl
        · exact Nat.le_trans (hall.out q hq) (by omega)
        · exact Nat.le_trans hs (by omega))
      have hV2 : ∀ A c w, Sl w encQ 2 A (acc ++ [y]) → Calls Tryz.prog 59 #[.slice A (acc ++ [y]).length c] w fun e w' => e = .returned (.bool (quoV (acc ++ [y]))) ∧ Below w.heap.size w w' := fun A c w h => sQuotasValid_any A c _ w h (by simp; omega) HFQ.out
      rw [HLEN.out] at hV2
      generalize quoV (acc ++ [y]) = β at *
      have HV2 := Lib.hid hV2
      clear hV2 hsl hW5
      go_wp2_with fail
      revert HK5 HO5 HR5 HW5 HS1
      generalize hw5 : w4.alloc (rowQ y) = w5
      intro HK5 HO5 HR5 HS1 HW5
      clear hw5
      have HZ := Lib.hid (show w5.heap.size < (w5.alloc madeQ).heap.size by simp)
      have HZ2 := Lib.hid (show w5.heap.size < (w5.alloc (rowQ y)).heap.size by simp)
      have HKc := HK5.out
      unfold RowQ at HKc
      have HD := Lib.hid (Below.refl w5.heap.size w5).drew
      go_region_held3 (fun w' => w'.cell? ⟨w4.heap.size, 0, none⟩ = some (.string y.1) ∧ w'.cell? ⟨w4.heap.size, 1, none⟩ = some (.int .i64 y.2))
        (first | assumption | exact HK5.out.below HB6.out | exact HK5.out | exact HK5.out.below HD.out | exact HK5.out.below HB3.out | exact HK5.out.below HB2.out | exact HK5.out.below (HB2.out.alloc HB2.out.size _) | exact HK5.out.below ((Below.refl _ _).alloc (Nat.le_refl _) _).drew | exact HK5.out.below (((Below.refl _ _).alloc (Nat.le_refl _) _).alloc (Nat.le_of_lt HZ.out) _).drew | exact HK5.out.below (((Below.refl _ _).alloc (Nat.le_refl _) _).alloc (Nat.le_of_lt HZ2.out) _).drew)
        ((first
          | (refine step_qt_a HS1.out HC.out HL.out rfl rfl (by rfl) (by rfl) ?_; intro v2 w2 hown2 hb2; have HW2 := Lib.hid (hown2.alloc (rowQ y)); have HB2 := Lib.hid hb2; have HBR := Lib.hid (hb2.alloc hb2.size (rowQ y)); have HRR := Lib.hid (RowQ.new w2 y); clear hown2 hb2)
          | (refine step_qt_b (y := y) HS1.out HC.out HL.out rfl rfl (by rfl) (by rfl) ?_; intro v2 w2 hown2 hb2 hr2; have HW2 := Lib.hid hown2; have HB2 := Lib.hid hb2; have HBR := HB2; have HRR := Lib.hid hr2; clear hown2 hb2 hr2)
          | (refine step_qt_c (y := y) HS1.out HC.out HL.out rfl rfl (by rfl) (by rfl) ?_; intro v2 w2 hown2 hb2 hr2; have HW2 := Lib.hid hown2; have HB2 := Lib.hid hb2; have HBR := HB2; have HRR := Lib.hid hr2; clear hown2 hb2 hr2)
          | (refine step_qt rfl rfl HW2.out HBR.out HL.out HRR.out (by rfl) (by rfl) ?_; intro v3 w3 hown3 hb3; obtain ⟨X, d, ev, _, _, _⟩ := hown3.sl; rw [HLEN.out] at ev; subst ev; have HW3 := Lib.hid hown3.sl'; have HB3 := Lib.hid hb3; clear hown3 hb3)
          | (go_at_call 59; refine (HV2.out _ _ _ HW3.out).mono ?_; rintro e w6 ⟨rfl, hb6⟩; have HB6 := Lib.hid (Below_then HB3.out hb6 (Nat.le_refl _)); clear hb6)))
      all_goals
        have HW6 := Lib.hid (HW5.out.below HB6.out)
        have HO6 := Lib.hid (HO5.out.trans (Only.of_below HB6.out))
        have HR6 := Lib.hid (HR5.out.below HB6.out)
        have hk6 := HK5.out.below HB6.out
        have hc0 := hk6.1
        have hc1 := hk6.2
        clear hk6
        cases β
        · go_wp2
          go_roundw
          case rel => exact ⟨k - 1, acc, p3 + 1, by omega, by go_num, by omega, hall.out, HW6.out, HO6.out, HR6.out, by omega⟩
          case measure => simp [intOf]; omega
        · go_wp2_with (at_builtin; refine app_qt_only (y := y) rfl rfl rfl rfl HW6.out HO6.out HL.out ?_; intro v7 w7 hown7 hb7)
          go_roundw
          case rel => exact ⟨k - 1, _, p3 + 1, by omega, by go_num, by simp; omega, (by
            intro q hq
            rw [List.mem_append, List.mem_singleton] at hq
            rcases hq with hq | rfl
            · exact hall.out q hq
            · exact hs), hown7, HO6.out.and_below hb7, HR6.out.under HR.out.lt hb7, by omega⟩
          case measure => simp [intOf]; omega
    · have hk00 : k = 0 := by omega
      subst hk00
      go_wp2_with fail
      refine (odd_any _ _ _ _ HR1.out (by omega) hn).mono ?_
      rintro e w4 ⟨b, p4, rfl, ho4, hr4, hp4⟩
      have HR4 := Lib.hid hr4
      have HO4 := Lib.hid (HO1.out.trans ho4)
      have HW4 := Lib.hid (HW1.out.only ho4 HR.out.lt)
      clear hr4 ho4
      cases b
      · go_wp2_with fail
        go_ret
        exact ⟨_, _, _, rfl, HW4.out, ⟨by omega, hall.out⟩, HO4.out, HR4.out, by omega⟩
      · go_wp2_with fail
        refine (pick_any 4 _ _ _ (HR4.out.alloc _) (by omega) (by omega)).mono ?_
        rintro e w5 ⟨x, rfl, hx, ho5, hr5⟩
        have hx4 : x = 0 ∨ x = 1 ∨ x = 2 ∨ x = 3 := by omega
        have hlt4 := HR4.out.lt
        have HR5 := Lib.hid hr5
        have HO5 := Lib.hid ((HO4.out.alloc _).trans ho5)
        have HW5 := Lib.hid ((HW4.out.alloc _).only ho5 HR.out.lt)
        rcases hx4 with rfl | rfl | rfl | rfl
        · have hc0 := lit_cell ho5 hlt4 (k := 0) rfl
          have hc1 := lit_cell ho5 hlt4 (k := 1) rfl
          clear hr5 ho5
          go_wp2_with (at_builtin; refine app_qt_only (y := (⟨#[]⟩, 0)) rfl rfl rfl rfl HW5.out HO5.out (by omega) ?_; intro v7 w7 hown7 hb7)
          go_ret
          exact ⟨_, _, _, rfl, hown7, fewQ_snoc hak hall.out (by decide), HO5.out.and_below hb7, HR5.out.under HR.out.lt hb7, by omega⟩
        · have hc0 := lit_cell ho5 hlt4 (k := 2) rfl
          have hc1 := lit_cell ho5 hlt4 (k := 3) rfl
          clear hr5 ho5
          go_wp2_with (at_builtin; refine app_qt_only (y := (⟨#[97]⟩, 0)) rfl rfl rfl rfl HW5.out HO5.out (by omega) ?_; intro v7 w7 hown7 hb7)
          go_ret
          exact ⟨_, _, _, rfl, hown7, fewQ_snoc hak hall.out (by decide), HO5.out.and_below hb7, HR5.out.under HR.out.lt hb7, by omega⟩
        · have hc0 := lit_cell ho5 hlt4 (k := 4) rfl
          have hc1 := lit_cell ho5 hlt4 (k := 5) rfl
          clear hr5 ho5
          go_wp2_with (at_builtin; refine app_qt_only (y := (⟨#[47, 122]⟩, -1)) rfl rfl rfl rfl HW5.out HO5.out (by omega) ?_; intro v7 w7 hown7 hb7)
          go_ret
          exact ⟨_, _, _, rfl, hown7, fewQ_snoc hak hall.out (by decide), HO5.out.and_below hb7, HR5.out.under HR.out.lt hb7, by omega⟩
        · have hc0 := lit_cell ho5 hlt4 (k := 6) rfl
          have hc1 := lit_cell ho5 hlt4 (k := 7) rfl
          clear hr5 ho5
          go_wp2_with (at_builtin; refine app_qt_only (y := (⟨#[47, 122]⟩, 1001)) rfl rfl rfl rfl HW5.out HO5.out (by omega) ?_; intro v7 w7 hown7 hb7)
          go_ret
          exact ⟨_, _, _, rfl, hown7, fewQ_snoc hak hall.out (by decide), HO5.out.and_below hb7, HR5.out.under HR.out.lt hb7, by omega⟩
def DrawnQts (w : World) (e : Ending) (w' : World) : Prop :=
  ∃ (v : Value) (l : List Qt), e = .returned v ∧ Own w' w.heap.size 52 2 encQ v l ∧ FewQ l ∧ Below w.heap.size w w'
end Go.Proofs.YtedcgbmdfmgcgaaGreatDoor
