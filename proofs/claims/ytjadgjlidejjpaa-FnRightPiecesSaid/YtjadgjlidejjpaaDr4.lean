/- Drawn inputs: lists of pieces, lists of names. -/
import Derived.Test.YtjadgjlidejjpaaDr2
import Derived.Test.YtjadgjlidejjpaaDr3
import Derived.Test.YtjadgjlidejjpaaDm
set_option linter.unusedVariables false
namespace Go.Proofs.Ytjadgjlidejjpaa
open Go.RowKit

section
variable {ops : Array Oper} {rest : List Oper} {o : Oper} {a : Act} {Q : Exit → Act → World → Prop} {w0 wr : World} {v : Value} {g : Nat}
theorem app_pc_only {l : List Pc} {y : Pc} {s x : Operand} (hgd : o.guard = none) (ho : o.op = .call { callee := .builtin .append, args := #[s, x], argTypes := #[25, 25] })
    (hs : a.eval s = v) (hx : a.eval x = .slice (some ⟨wr.heap.size, 0, none⟩) 1 1)
    (hown : Own wr w0.heap.size 38 2 encP v l) (hb : Only g w0 wr) (hn : l.length ≤ 16777216)
    (h : ∀ v' w', Own w' w0.heap.size 38 2 encP v' (l ++ [y]) → Below w0.heap.size wr w' → wpList Try.prog ops Q rest (a.put o.dst v') w') :
    wpList Try.prog ops Q (o :: rest) a (wr.alloc (.cells #[.int .i64 y.1, .string y.2] 38)) := by
  obtain ⟨i0, hi0, hz0, hz1, hz2⟩ := info_parts pc_info
  exact wpList_app1 Try.underlying25 hi0 hz0 hz1 hz2 rfl (by decide) (by decide) hgd s x ho hs hx hown (Below.refl w0.heap.size wr) (Nat.le_refl _) hb.size hn y _ rfl rfl (by intro u hu; simp [encP] at hu; rcases hu with rfl | rfl <;> rfl) h
theorem app_str_only {l : List ByteArray} {y : ByteArray} {s x : Operand} (hgd : o.guard = none) (ho : o.op = .call { callee := .builtin .append, args := #[s, x], argTypes := #[83, 83] })
    (hs : a.eval s = v) (hx : a.eval x = .slice (some ⟨wr.heap.size, 0, none⟩) 1 1)
    (hown : Own wr w0.heap.size 9 1 encS v l) (hb : Only g w0 wr) (hn : l.length ≤ 16777216)
    (h : ∀ v' w', Own w' w0.heap.size 9 1 encS v' (l ++ [y]) → Below w0.heap.size wr w' → wpList Try.prog ops Q rest (a.put o.dst v') w') :
    wpList Try.prog ops Q (o :: rest) a (wr.alloc (.cells #[.string y] 9)) := by
  obtain ⟨i0, hi0, hz0, hz1, hz2⟩ := info_parts str_info
  exact wpList_app1 Try.underlying83 hi0 hz0 hz1 hz2 rfl (by decide) (by decide) hgd s x ho hs hx hown (Below.refl w0.heap.size wr) (Nat.le_refl _) hb.size hn y _ rfl rfl (by intro u hu; simp [encS] at hu; subst hu; rfl) h
end
def FewP (l : List Pc) : Prop := l.length ≤ 8 ∧ ∀ p ∈ l, -1 ≤ p.1 ∧ p.1 ≤ 16777212 ∧ p.2.size ≤ 60
theorem FewP.fit {l : List Pc} (h : FewP l) : FitP l := fun p hp => Nat.le_trans (h.2 p hp).2.2 (by omega)
set_option maxHeartbeats 2000000 in
set_option maxRecDepth 100000 in
theorem l20Pieces_any (n : Int) (g p : Nat) (w : World) (hr : Rdr w g p) (hp : p ≤ 700000000) (hn : n ≤ 1000000000) :
    Calls Try.prog 38 #[.pointer (some ⟨g, 0, none⟩), .int .i64 n] w (DrewSl 38 2 encP FewP 60 w g p) := by
  have HR := Lib.hid hr
  clear hr
  go_enter Try.func38, Try.ntmps38
  go_wp2_with fail
  refine (pick_any _ _ _ _ (HR.out.alloc _) (by omega) (by omega)).mono ?_
  rintro e w2 ⟨a, rfl, ha, ho2, hr2⟩
  have ha' : a ≤ 6 := by omega
  have HR2 := Lib.hid hr2
  have HO2 := Lib.hid ((Only.of_below ((Below.refl w.heap.size w).alloc (Nat.le_refl _) _)).trans ho2)
  have HW := Lib.hid ((Own.made (enc := encP) (E := 38) (size := 2) (Nat.le_refl w.heap.size)).only ho2 HR.out.lt)
  clear hr2 ho2 ha
  go_wp2_with fail
  go_loopw [5, 6] (fun v i wr => ∃ (k : Nat) (acc : List Pc) (p1 : Nat), k ≤ 6 ∧ i = .int .i64 k ∧ acc.length + k ≤ 6 ∧ Hid (∀ p ∈ acc, -1 ≤ p.1 ∧ p.1 ≤ 16777212 ∧ p.2.size ≤ 60) ∧ Own wr w.heap.size 38 2 encP v acc ∧ Only g w wr ∧ Rdr wr g p1 ∧ p1 + 4 * k ≤ p + 40) (fun _ i _ => (intOf i).toNat)
  case atStart => exact ⟨a, [], p + 1, ha', rfl, by simp; omega, (by intro p hp; simp at hp), HW.out, HO2.out, HR2.out, by omega⟩
  case round =>
    obtain ⟨k, acc, p1, hk, rfl, hak, hall, hown, ho, hr1, hp1⟩ := hrel
    have HR1 := Lib.hid hr1
    have HO1 := Lib.hid ho
    have HW1 := Lib.hid hown
    clear hr1 ho hown
    by_cases hk0 : 0 < k
    · go_wp2_with (first
        | (go_at_call 53; refine (l20Piece_any _ _ _ _ HR1.out (by omega) (by omega)).mono ?_; rintro e w3 ⟨v3, p3, rfl, ⟨y, t, rfl, hy0, hy1, ht⟩, ho3, hr3, hp3⟩; have HR3 := Lib.hid hr3; have HO3 := Lib.hid (HO1.out.trans ho3); have HW3 := Lib.hid (HW1.out.only ho3 HR.out.lt); have HY := Lib.hid (And.intro hy0 (And.intro hy1 ht)); clear hr3 ho3 hy0 hy1 ht)
        | (at_builtin; refine app_pc_only (y := (y, t)) rfl rfl rfl rfl HW3.out HO3.out (by omega) ?_; intro v4 w4 hown4 hb4))
      go_roundw
      case rel => exact ⟨k - 1, _, p3, by omega, by go_num, by simp; omega, (by
        intro q hq
        rw [List.mem_append, List.mem_singleton] at hq
        rcases hq with hq | rfl
        · exact hall.out q hq
        · exact HY.out), hown4, HO3.out.and_below hb4, HR3.out.under HR.out.lt hb4, by omega⟩
      case measure => simp [intOf]; omega
    · have hk00 : k = 0 := by omega
      subst hk00
      go_wp2
      go_ret
      exact ⟨_, _, _, rfl, HW1.out, ⟨by omega, hall.out⟩, HO1.out, HR1.out, by omega⟩
def DrawnPcs2 (w : World) (e : Ending) (w' : World) : Prop :=
  ∃ (v1 v2 : Value) (l1 l2 : List Pc), e = .returned (.tuple #[v1, v2]) ∧ Own w' w.heap.size 38 2 encP v1 l1 ∧ Own w' w.heap.size 38 2 encP v2 l2 ∧ FewP l1 ∧ FewP l2 ∧ Below w.heap.size w w'
/-! ### names -/
def FewN (m : Nat) (l : List ByteArray) : Prop := l.length ≤ m ∧ ∀ s ∈ l, s.size ≤ 60
def DrawnStrs (m : Nat) (w : World) (e : Ending) (w' : World) : Prop :=
  ∃ (v : Value) (l : List ByteArray), e = .returned v ∧ Own w' w.heap.size 9 1 encS v l ∧ FewN m l ∧ Below w.heap.size w w'
end Go.Proofs.Ytjadgjlidejjpaa
