/- Drawn inputs: prints, filters. -/
import Derived.Test.YthbdcmaloojngaaFi2
set_option linter.unusedVariables false
namespace Go.Proofs.Ythbdcmaloojngaa
open Go.RowKit

def IntIn (lo hi : Int) (v : Value) : Prop := ∃ n : Int, v = .int .i64 n ∧ lo ≤ n ∧ n ≤ hi
theorem three_cells {a b c : Int} (ha : 0 ≤ a ∧ a ≤ 16777212) (hb : 0 ≤ b ∧ b ≤ 16777212) (hc : 0 ≤ c ∧ c ≤ 16777212) (m : Nat) (hm : m < 3) :
    ∃ u : Int, (#[Value.int .i64 a, .int .i64 b, .int .i64 c] : Array Value)[m]? = some (.int .i64 u) ∧ 0 ≤ u ∧ u ≤ 16777212 := by
  match m, hm with
  | 0, _ => exact ⟨a, rfl, ha⟩
  | 1, _ => exact ⟨b, rfl, hb⟩
  | 2, _ => exact ⟨c, rfl, hc⟩

/-- What 'odd(n)' may answer. -/
def OddQ (Q : Bool → Prop) (n : Int) (g p : Nat) : Prop :=
  ∀ W, Rdr W g p → Calls Try.prog 55 #[.pointer (some ⟨g, 0, none⟩), .int .i64 n] W fun e w' => ∃ (x : Bool) (p1 : Nat), e = .returned (.bool x) ∧ Q x ∧ Only g W w' ∧ Rdr w' g p1 ∧ p1 ≤ p + 1
theorem oddq_any (n : Int) (g p : Nat) (hp : p ≤ 1000000000) (hn : n ≤ 1000000000) : OddQ (fun _ => True) n g p := fun W hr =>
  (odd_any n g p W hr hp hn).mono fun e w' ⟨x, p', h1, h2, h3, h4⟩ => ⟨x, p', h1, trivial, h2, h3, h4⟩
theorem oddq_zero (g p : Nat) (hp : p ≤ 1000000000) : OddQ (fun x => x = false) 0 g p := fun W hr =>
  (odd0_any g p W hr hp).mono fun e w' ⟨h1, h2⟩ => ⟨false, p, h1, rfl, by rw [← h2]; exact Only.refl _ _, by rw [← h2]; exact hr, by omega⟩

set_option maxHeartbeats 2000000 in
set_option maxRecDepth 100000 in
theorem l20Print_q (Q : Bool → Prop) (n : Int) (g p : Nat) (w : World) (hr : Rdr w g p) (hp : p ≤ 900000000) (hodd : OddQ Q n g p) :
    Calls Try.prog 44 #[.pointer (some ⟨g, 0, none⟩), .int .i64 n] w (Drew (fun v => ∃ x, Q x ∧ if x then IntIn (-1) 16777213 v else IntIn 0 16777212 v) 4 w g p) := by
  have HR := Lib.hid hr
  have HO := Lib.hid hodd
  clear hr hodd
  go_enter Try.func44, Try.ntmps44
  go_wp2_with fail
  refine (HO.out _ HR.out).mono ?_
  rintro e w1 ⟨x, p1, rfl, hq, ho1, hr1, hp1⟩
  have HQ := Lib.hid hq
  clear hq
  have HR1 := Lib.hid hr1
  have HO1 := Lib.hid ho1
  clear hr1 ho1
  cases x
  · go_wp2_with fail
    refine (pick_any _ _ _ _ HR1.out (by omega) (by omega)).mono ?_
    rintro e w2 ⟨a, rfl, ha, ho2, hr2⟩
    have HR2 := Lib.hid hr2
    have HO2 := Lib.hid ho2
    have ha' : (a : Int) ≤ 99 := by omega
    clear hr2 ho2 ha
    go_wp2_with fail
    refine (pick_any _ _ _ _ HR2.out (by omega) (by omega)).mono ?_
    rintro e w3 ⟨b, rfl, hb, ho3, hr3⟩
    have HR3 := Lib.hid hr3
    have HO3 := Lib.hid ho3
    have hb' : (b : Int) ≤ 255 := by omega
    clear hr3 ho3 hb
    go_wp2_with fail
    refine (pick_int 7 0 2 (HR3.out.alloc _) (by omega) rfl (by omega) (by omega) (by decide)).mono ?_
    rintro e w4 ⟨y, m, rfl, hy, hc, hm0, hm1, ho4, hr4⟩
    obtain ⟨m, rfl⟩ := Int.eq_ofNat_of_zero_le hm0
    have hg3 := HR3.out.lt
    obtain ⟨u, hu, hu0, hu1⟩ := three_cells (a := (a : Int)) (b := (b : Int) * 65000) (c := 16777212) (by omega) (by omega) (by omega) m (by omega)
    have hcu := lit_cell ho4 hg3 hu
    have hc2 : w4.cell? ⟨w3.heap.size + 1, y, none⟩ = some (.int .i64 (m : Int)) := by simpa using hc
    have HR4 := Lib.hid hr4
    have HO4 := Lib.hid (((Only.of_below ((Below.refl _ _).alloc (Nat.le_refl w3.heap.size) _)).trans ho4))
    clear hr4 ho4 hc hu
    go_wp2_with fail
    go_ret
    exact ⟨_, _, rfl, ⟨_, HQ.out, _, rfl, hu0, hu1⟩, HO1.out.trans (HO2.out.trans (HO3.out.trans HO4.out)), HR4.out, by omega⟩
  · go_wp2_with fail
    refine (pick_int 2 (-1) 16777213 HR1.out (by omega) rfl (by omega) (by omega) (by decide)).mono ?_
    rintro e w2 ⟨y, m, rfl, hy, hc, hm0, hm1, ho2, hr2⟩
    have HR2 := Lib.hid hr2
    have HO2 := Lib.hid ho2
    clear hr2 ho2
    go_wp2_with fail
    go_ret
    exact ⟨_, _, rfl, ⟨_, HQ.out, _, rfl, hm0, hm1⟩, HO1.out.trans HO2.out, HR2.out, by omega⟩

theorem IntIn.mono {a b c d : Int} {v : Value} (h : IntIn a b v) (h1 : c ≤ a) (h2 : b ≤ d) : IntIn c d v := by
  obtain ⟨n, e, x, y⟩ := h; exact ⟨n, e, by omega, by omega⟩
theorem Drew.imp {P P' : Value → Prop} {C g p : Nat} {w w' : World} {e : Ending} (h : Drew P C w g p e w') (hP : ∀ v, P v → P' v) : Drew P' C w g p e w' := by
  obtain ⟨v, p', h1, h2, h3⟩ := h; exact ⟨v, p', h1, hP v h2, h3⟩
theorem l20Print_any (n : Int) (g p : Nat) (w : World) (hr : Rdr w g p) (hp : p ≤ 900000000) (hn : n ≤ 1000000000) :
    Calls Try.prog 44 #[.pointer (some ⟨g, 0, none⟩), .int .i64 n] w (Drew (IntIn (-1) 16777213) 4 w g p) :=
  (l20Print_q _ n g p w hr hp (oddq_any n g p (by omega) hn)).mono fun e w' h => h.imp fun v ⟨x, _, hv⟩ => by
    cases x
    · exact IntIn.mono hv (by omega) (by omega)
    · exact hv
theorem l20Print_zero (g p : Nat) (w : World) (hr : Rdr w g p) (hp : p ≤ 900000000) :
    Calls Try.prog 44 #[.pointer (some ⟨g, 0, none⟩), .int .i64 0] w (Drew (IntIn 0 16777212) 4 w g p) :=
  (l20Print_q _ 0 g p w hr hp (oddq_zero g p (by omega))).mono fun e w' h => h.imp fun v ⟨x, hx, hv⟩ => by
    subst hx; exact hv

/-- A drawn slice in new memory: its elements, at most M of them, meet P. -/
def DrewSl {α : Type} (E : TypeId) (size : Nat) (enc : α → List Value) (P : List α → Prop) (C : Nat) (w : World) (g p : Nat) (e : Ending) (w' : World) : Prop :=
  ∃ (v : Value) (l : List α) (p' : Nat), e = .returned v ∧ Own w' w.heap.size E size enc v l ∧ P l ∧ Only g w w' ∧ Rdr w' g p' ∧ p' ≤ p + C

/-- 'append' of one element onto a row, where the reader's block may have turned as well. -/
theorem app_int_only {ops : Array Oper} {rest : List Oper} {o : Oper} {a : Act} {Q : Exit → Act → World → Prop} {w0 wr : World} {v : Value} {g : Nat} {l : List Int} {y : Int} {s x : Operand} (hgd : o.guard = none) (ho : o.op = .call { callee := .builtin .append, args := #[s, x], argTypes := #[29, 29] })
    (hs : a.eval s = v) (hx : a.eval x = .slice (some ⟨wr.heap.size, 0, none⟩) 1 1)
    (hown : Own wr w0.heap.size 3 1 encI v l) (hb : Only g w0 wr) (hn : l.length ≤ 16777216)
    (h : ∀ v' w', Own w' w0.heap.size 3 1 encI v' (l ++ [y]) → Below w0.heap.size wr w' → wpList Try.prog ops Q rest (a.put o.dst v') w') :
    wpList Try.prog ops Q (o :: rest) a (wr.alloc (.cells #[.int .i64 y] 3)) := by
  obtain ⟨i0, hi0, hz0, hz1, hz2⟩ := info_parts int_info
  exact wpList_app1 Try.underlying29 hi0 hz0 hz1 hz2 rfl (by decide) (by decide) hgd s x ho hs hx hown (Below.refl w0.heap.size wr) (Nat.le_refl _) hb.size hn y _ rfl rfl (by intro u hu; simp [encI] at hu; subst hu; rfl) h
theorem Only.and_below {g : Nat} {w0 wr w' : World} (h : Only g w0 wr) (hb : Below w0.heap.size wr w') : Only g w0 w' :=
  ⟨hb.os.trans h.os, hb.tape.trans h.tape, hb.output.trans h.output, Nat.le_trans h.size hb.size, fun k hk hne => (hb.block k hk).trans (h.block k hk hne)⟩

/-! ### drawn prints -/
end Go.Proofs.Ythbdcmaloojngaa
