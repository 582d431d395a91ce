/- Drawn inputs: words, versions, tags. -/
import Derived.Test.YtbefbenihahdnaaAv
import Derived.Test.YtbefbenihahdnaaDr4
set_option linter.unusedVariables false
namespace Go.Proofs.Ytbefbenihahdnaa
open Go.RowKit

set_option maxHeartbeats 2000000 in
set_option maxRecDepth 100000 in
theorem l20Word_any (n : Int) (g p : Nat) (w : World) (hr : Rdr w g p) (hp : p ≤ 900000000) (hn : n ≤ 1000000000) :
    Calls Try.prog 149 #[.pointer (some ⟨g, 0, none⟩), .int .i64 n] w (Drew (ShortStr 9) 2 w g p) := by
  have HR := Lib.hid hr
  clear hr
  go_enter Try.func149, Try.ntmps149
  go_wp2_with fail
  refine (odd_any _ _ _ _ HR.out (by omega) hn).mono ?_
  rintro e w1 ⟨x, p1, rfl, ho1, hr1, hp1⟩
  have HR1 := Lib.hid hr1
  have HO1 := Lib.hid ho1
  clear hr1 ho1
  cases x
  · go_wp2_with fail
    refine (pick_str 5 9 HR1.out (by omega) rfl (by omega) (by omega) (by decide)).mono ?_
    rintro e w2 ⟨x, s, rfl, hx, hc, hs, ho2, hr2⟩
    have HR2 := Lib.hid hr2
    have HO2 := Lib.hid ho2
    clear hr2 ho2
    go_wp2_with fail
    go_ret
    exact ⟨_, _, rfl, ⟨_, rfl, hs⟩, HO1.out.trans HO2.out, HR2.out, by omega⟩
  · go_wp2_with fail
    refine (pick_str 5 9 HR1.out (by omega) rfl (by omega) (by omega) (by decide)).mono ?_
    rintro e w2 ⟨x, s, rfl, hx, hc, hs, ho2, hr2⟩
    have HR2 := Lib.hid hr2
    have HO2 := Lib.hid ho2
    clear hr2 ho2
    go_wp2_with fail
    go_ret
    exact ⟨_, _, rfl, ⟨_, rfl, hs⟩, HO1.out.trans HO2.out, HR2.out, by omega⟩

theorem flatV {a0 a1 a2 a3 b0 b1 b2 b3 : Int} {t0 t1 t2 t3 : ByteArray} (x : Nat) (hx : x < 4) (P : Vr → Prop) (h0 : P (a0, b0, t0)) (h1 : P (a1, b1, t1)) (h2 : P (a2, b2, t2)) (h3 : P (a3, b3, t3)) : ∃ y : Vr, P y ∧
    (#[Value.int .i64 a0, .int .i64 b0, .string t0, .int .i64 a1, .int .i64 b1, .string t1, .int .i64 a2, .int .i64 b2, .string t2, .int .i64 a3, .int .i64 b3, .string t3] : Array Value)[x * 3]? = some (.int .i64 y.1) ∧
    (#[Value.int .i64 a0, .int .i64 b0, .string t0, .int .i64 a1, .int .i64 b1, .string t1, .int .i64 a2, .int .i64 b2, .string t2, .int .i64 a3, .int .i64 b3, .string t3] : Array Value)[x * 3 + 1]? = some (.int .i64 y.2.1) ∧
    (#[Value.int .i64 a0, .int .i64 b0, .string t0, .int .i64 a1, .int .i64 b1, .string t1, .int .i64 a2, .int .i64 b2, .string t2, .int .i64 a3, .int .i64 b3, .string t3] : Array Value)[x * 3 + 2]? = some (.string y.2.2) := by
  match x, hx with
  | 0, _ => exact ⟨_, h0, rfl, rfl, rfl⟩
  | 1, _ => exact ⟨_, h1, rfl, rfl, rfl⟩
  | 2, _ => exact ⟨_, h2, rfl, rfl, rfl⟩
  | 3, _ => exact ⟨_, h3, rfl, rfl, rfl⟩
section
variable {ops : Array Oper} {rest : List Oper} {o : Oper} {a : Act} {Q : Exit → Act → World → Prop} {w0 wr : World} {v : Value} {g : Nat}
theorem two_sl {y z : Vr} : Sl (wr.alloc (.cells #[.int .i64 y.1, .int .i64 y.2.1, .string y.2.2, .int .i64 z.1, .int .i64 z.2.1, .string z.2.2] 82)) encV 3 (some ⟨wr.heap.size, 0, none⟩) [y, z] := by
  intro _
  refine ⟨wr.heap.size, 0, rfl, fun j u hu => ?_⟩
  rw [cell_of_row _ _ _ _ _ (0, 0) (heap_alloc_new wr _)]
  simpa [flat, encV] using hu
theorem app_vr2_only {l : List Vr} {y z : Vr} {s x : Operand} (hgd : o.guard = none) (ho : o.op = .call { callee := .builtin .append, args := #[s, x], argTypes := #[73, 73] })
    (hs : a.eval s = v) (hx : a.eval x = .slice (some ⟨wr.heap.size, 0, none⟩) 2 2)
    (hown : Own wr w0.heap.size 82 3 encV v l) (hb : Only g w0 wr) (hn : l.length ≤ 16777216)
    (h : ∀ v' w', Own w' w0.heap.size 82 3 encV v' (l ++ [y, z]) → Below w0.heap.size wr w' → wpList Try.prog ops Q rest (a.put o.dst v') w') :
    wpList Try.prog ops Q (o :: rest) a (wr.alloc (.cells #[.int .i64 y.1, .int .i64 y.2.1, .string y.2.2, .int .i64 z.1, .int .i64 z.2.1, .string z.2.2] 82)) := by
  obtain ⟨i0, hi0, hz0, hz1, hz2⟩ := info_parts encV_info
  exact wpList_appN (w0 := wr) (B := w0.heap.size) (m := [y, z]) Try.underlying73 hi0 hz0 hz1 hz2 rfl (by decide) (by decide) hgd s x ho (hown.alloc _) ((Below.refl _ _).alloc hb.size _) (Nat.le_refl _) (Nat.le_trans hb.size (by simp)) (by simp; omega) two_sl (by intro h; cases h) (fun _ => rfl) oneV hs hx fun v' w' h1 h2 _ => h v' w' h1 h2
end
def FewV (m : Nat) (l : List Vr) : Prop := l.length ≤ m ∧ ∀ p ∈ l, p.2.2.size ≤ 60
theorem FewV.fit {m : Nat} {l : List Vr} (h : FewV m l) : FitV l := fun p hp => Nat.le_trans (h.2 p hp) (by omega)
set_option maxHeartbeats 4000000 in
set_option maxRecDepth 100000 in
theorem l20Versions_any (n : Int) (g p : Nat) (w : World) (hr : Rdr w g p) (hp : p ≤ 700000000) (hn : n ≤ 1000000000) :
    Calls Try.prog 148 #[.pointer (some ⟨g, 0, none⟩), .int .i64 n] w (DrewSl 82 3 encV (FewV 9) 100 w g p) := by
  have HR := Lib.hid hr
  clear hr
  go_enter Try.func148, Try.ntmps148
  go_wp2_with fail
  refine (pick_any _ _ _ _ (HR.out.alloc _) (by omega) (by omega)).mono ?_
  rintro e w2 ⟨a, rfl, ha, ho2, hr2⟩
  have ha' : a ≤ 7 := by omega
  have HR2 := Lib.hid hr2
  have HO2 := Lib.hid ((Only.of_below ((Below.refl w.heap.size w).alloc (Nat.le_refl _) _)).trans ho2)
  have HW := Lib.hid ((Own.made (enc := encV) (E := 82) (size := 3) (Nat.le_refl w.heap.size)).only ho2 HR.out.lt)
  clear hr2 ho2 ha
  go_wp2_with fail
  go_loopw [5, 6] (fun v i wr => ∃ (k : Nat) (acc : List Vr) (p1 : Nat), k ≤ 7 ∧ i = .int .i64 k ∧ acc.length + k ≤ 7 ∧ Hid (∀ q ∈ acc, q.2.2.size ≤ 60) ∧ Own wr w.heap.size 82 3 encV v acc ∧ Only g w wr ∧ Rdr wr g p1 ∧ p1 + 10 * k ≤ p + 80) (fun _ i _ => (intOf i).toNat)
  case atStart => exact ⟨a, [], p + 1, ha', rfl, by simp; omega, (by intro p hp; simp at hp), HW.out, HO2.out, HR2.out, by omega⟩
  case round =>
    obtain ⟨k, acc, p1, hk, rfl, hak, hall, hown, ho, hr1, hp1⟩ := hrel
    obtain ⟨X, d, rfl, _, _, _⟩ := hown.sl
    have HR1 := Lib.hid hr1
    have HO1 := Lib.hid ho
    have HW1 := Lib.hid hown
    clear hr1 ho hown
    have hwr : IntKind.i64.wrap ((acc.length : Int) + 1) = (acc.length : Int) + 1 := IntWalk.i64_in _ (by omega)
    by_cases hk0 : 0 < k
    · go_wp2_with fail
      refine (l20Print_zero _ _ _ HR1.out (by omega)).mono ?_
      rintro e w3 ⟨v3, p3, rfl, ⟨y, rfl, hy0, hy1⟩, ho3, hr3, hp3⟩
      have HR3 := Lib.hid hr3
      have HO3 := Lib.hid (HO1.out.trans ho3)
      have HW3 := Lib.hid (HW1.out.only ho3 HR.out.lt)
      clear hr3 ho3
      go_wp2_with fail
      refine (pick_any ((acc.length : Int) + 1) _ _ _ HR3.out (by omega) (by omega)).mono ?_
      rintro e w4 ⟨b, rfl, hb, ho4, hr4⟩
      have hb' : b ≤ 8 := by omega
      have hwb : IntKind.i64.wrap ((b : Int) - 1) = (b : Int) - 1 := IntWalk.i64_in _ (by omega)
      have HR4 := Lib.hid hr4
      have HO4 := Lib.hid (HO3.out.trans ho4)
      have HW4 := Lib.hid (HW3.out.only ho4 HR.out.lt)
      clear hr4 ho4 hb
      go_wp2_with fail
      refine (l20Word_any 0 _ _ _ HR4.out (by omega) (by omega)).mono ?_
      rintro e w5 ⟨v5, p5, rfl, ⟨t, rfl, ht⟩, ho5, hr5, hp5⟩
      have HR5 := Lib.hid hr5
      have HO5 := Lib.hid (HO4.out.trans ho5)
      have HW5 := Lib.hid (HW4.out.only ho5 HR.out.lt)
      clear hr5 ho5
      go_wp2_with fail
      refine (sAddVersion_any X d acc (y, (b : Int) - 1, t) _ HW5.out.sl' HW5.out.cz (by omega) (fun q hq => Nat.le_trans (hall.out q hq) (by omega)) (by show t.size ≤ _; omega)).mono ?_
      rintro e w6 ⟨v6, l6, ok, rfl, hown6, hl6, _, hb6⟩
      have hl6a : l6.length ≤ acc.length + 1 := by rcases hl6 with rfl | rfl | rfl <;> simp
      have hl6b : ∀ q ∈ l6, q.2.2.size ≤ 60 := by
        intro q hq
        rcases hl6 with rfl | rfl | rfl
        · cases hq
        · exact hall.out q hq
        · rw [List.mem_append, List.mem_singleton] at hq
          rcases hq with hq | rfl
          · exact hall.out q hq
          · show t.size ≤ 60; omega
      have HW6 := Lib.hid (hown6.mono HO5.out.size)
      have HR6 := Lib.hid (HR5.out.under HR5.out.lt hb6)
      have HO6 := Lib.hid (HO5.out.and_below (hb6.mono HO5.out.size))
      have HN6 := Lib.hid hl6b
      clear hown6 hb6 hl6 hl6b
      go_wp2_with fail
      go_roundw
      case rel => exact ⟨k - 1, l6, p5, by omega, by go_num, by omega, HN6.out, HW6.out, HO6.out, HR6.out, by omega⟩
      case measure => simp [intOf]; omega
    · have hk00 : k = 0 := by omega
      subst hk00
      go_wp2_with fail
      refine (odd_any _ _ _ _ HR1.out (by omega) hn).mono ?_
      rintro e w3 ⟨x, p3, rfl, ho3, hr3, hp3⟩
      have HR3 := Lib.hid hr3
      have HO3 := Lib.hid (HO1.out.trans ho3)
      have HW3 := Lib.hid (HW1.out.only ho3 HR.out.lt)
      clear hr3 ho3
      cases x
      · go_wp2
        go_ret
        exact ⟨_, _, _, rfl, HW3.out, ⟨by omega, hall.out⟩, HO3.out, HR3.out, by omega⟩
      · go_wp2_with fail
        refine (pick_any _ _ _ _ (HR3.out.alloc _) (by omega) (by omega)).mono ?_
        rintro e w4 ⟨x, rfl, hx, ho4, hr4⟩
        have hx4 : x < 4 := by omega
        obtain ⟨q, hq, hc0, hc1, hc2⟩ := flatV (a0 := 0) (b0 := -1) (t0 := ⟨#[]⟩) (a1 := 0) (b1 := (acc.length : Int)) (t1 := ⟨#[97]⟩) (a2 := -1) (b2 := 0) (t2 := ⟨#[97]⟩) (a3 := 0) (b3 := -2) (t3 := ⟨#[97]⟩) x hx4 (fun q => q.2.2.size ≤ 60) (by simp [ByteArray.size]) (by simp [ByteArray.size]) (by simp [ByteArray.size]) (by simp [ByteArray.size])
        have hl0 := lit_cell ho4 HR3.out.lt hc0
        have hl1 := lit_cell ho4 HR3.out.lt hc1
        have hl2 := lit_cell ho4 HR3.out.lt hc2
        have ho4' := (Only.of_below ((Below.refl _ _).alloc (Nat.le_refl w3.heap.size) _)).trans ho4
        have HR4 := Lib.hid hr4
        have HO4 := Lib.hid (HO3.out.trans ho4')
        have HW4 := Lib.hid (HW3.out.only ho4' HR.out.lt)
        have HQ := Lib.hid hq
        clear hr4 ho4 ho4' hc0 hc1 hc2 hx hq
        go_wp2_with (at_builtin; refine app_vr2_only (y := q) (z := (0, 0, ⟨#[65]⟩)) rfl rfl rfl rfl HW4.out HO4.out (by omega) ?_; intro v5 w5 hown5 hb5)
        go_ret
        exact ⟨_, _, _, rfl, hown5, ⟨by simp; omega, by
          intro z hz
          rw [List.mem_append] at hz
          rcases hz with hz | hz
          · exact hall.out z hz
          · simp only [List.mem_cons, List.not_mem_nil, or_false] at hz
            rcases hz with rfl | rfl
            · exact HQ.out
            · simp [ByteArray.size]⟩, HO4.out.and_below hb5, HR4.out.under HR.out.lt hb5, by omega⟩
/-! ### tags -/
def DrawnMk (w : World) (e : Ending) (w' : World) : Prop :=
  ∃ (v : Value) (l : List Vr) (s : ByteArray) (n : Int), e = .returned (.tuple #[v, .string s, .int .i64 n]) ∧ Own w' w.heap.size 82 3 encV v l ∧ FewV 9 l ∧ s.size ≤ 60 ∧ Below w.heap.size w w'
set_option maxHeartbeats 2000000 in
set_option maxRecDepth 100000 in
theorem DrawMakeTag_any (A : Option Addr) (n c : Nat) (w : World) (hb : BytesIn w A n c) :
    Calls Try.prog 86 #[.slice A n c] w (DrawnMk w) := by
  go_enter Try.func86, Try.ntmps86
  go_wp2_with fail
  refine (l20Open_any _ _ _ _ hb).mono ?_
  rintro e w1 ⟨rfl, hb1, hr1, hz1⟩
  have HR1 := Lib.hid hr1
  have HB1 := Lib.hid hb1
  have HZ1 := Lib.hid hz1
  clear hr1 hb1 hz1
  go_wp2_with fail
  refine (l20Versions_any _ _ _ _ HR1.out (by omega) (by omega)).mono ?_
  rintro e w2 ⟨v1, l1, p2, rfl, hown, hf1, ho2, hr2, hp2⟩
  obtain ⟨X, d, rfl, _, _, _⟩ := hown.sl
  have hl9 := hf1.1
  have HR2 := Lib.hid hr2
  have HO2 := Lib.hid ho2
  have HW2 := Lib.hid hown
  have HF1 := Lib.hid hf1
  clear hr2 ho2 hown hf1
  go_wp2_with fail
  refine (l20Word_any _ _ _ _ HR2.out (by omega) (by omega)).mono ?_
  rintro e w3 ⟨v3, p3, rfl, ⟨t, rfl, ht⟩, ho3, hr3, hp3⟩
  have HR3 := Lib.hid hr3
  have HO3 := Lib.hid (HO2.out.trans ho3)
  have HW3 := Lib.hid (HW2.out.only ho3 (by have := HZ1.out; omega))
  clear hr3 ho3
  have hwr : IntKind.i64.wrap ((l1.length : Int) + 1) = (l1.length : Int) + 1 := IntWalk.i64_in _ (by omega)
  go_wp2_with fail
  refine (pick_any ((l1.length : Int) + 1) _ _ _ HR3.out (by omega) (by omega)).mono ?_
  rintro e w4 ⟨a, rfl, ha, ho4, hr4⟩
  have ha' : a ≤ 9 := by omega
  have HR4 := Lib.hid hr4
  have HO4 := Lib.hid (HO3.out.trans ho4)
  have HW4 := Lib.hid (HW3.out.only ho4 (by have := HZ1.out; omega))
  clear hr4 ho4 ha
  go_wp2_with fail
  refine (pick_any _ _ _ _ HR4.out (by omega) (by omega)).mono ?_
  rintro e w5 ⟨b, rfl, hb5, ho5, hr5⟩
  have hb' : b ≤ 13 := by omega
  have HO5 := Lib.hid (HO4.out.trans ho5)
  have HW5 := Lib.hid (HW4.out.only ho5 (by have := HZ1.out; omega))
  clear hr5 ho5 hb5
  go_wp2
  go_ret3
  exact ⟨_, l1, t, _, rfl, HW5.out.mono HB1.out.size, HF1.out, by omega, HB1.out.trans (HO5.out.below (Nat.le_refl _) HB1.out.size)⟩
end Go.Proofs.Ytbefbenihahdnaa
