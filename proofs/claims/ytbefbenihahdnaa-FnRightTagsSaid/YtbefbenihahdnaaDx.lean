/- Drawn inputs: lists of tags. -/
import Derived.Test.YtbefbenihahdnaaDw
set_option linter.unusedVariables false
namespace Go.Proofs.Ytbefbenihahdnaa
open Go.RowKit

section
variable {ops : Array Oper} {rest : List Oper} {o : Oper} {a : Act} {Q : Exit → Act → World → Prop} {w0 wr : World} {v : Value} {g : Nat}
theorem app_tg_only {l : List Tg} {y : Tg} {s x : Operand} (hgd : o.guard = none) (ho : o.op = .call { callee := .builtin .append, args := #[s, x], argTypes := #[98, 98] })
    (hs : a.eval s = v) (hx : a.eval x = .slice (some ⟨wr.heap.size, 0, none⟩) 1 1)
    (hown : Own wr w0.heap.size 77 4 encT v l) (hb : Only g w0 wr) (hn : l.length ≤ 16777216)
    (h : ∀ v' w', Own w' w0.heap.size 77 4 encT v' (l ++ [y]) → Below w0.heap.size wr w' → wpList Try.prog ops Q rest (a.put o.dst v') w') :
    wpList Try.prog ops Q (o :: rest) a (wr.alloc (.cells #[.string y.1, .int .i64 y.2.1, .int .i64 y.2.2.1, .int .i64 y.2.2.2] 77)) := by
  obtain ⟨i0, hi0, hz0, hz1, hz2⟩ := info_parts encT_info
  exact wpList_app1 Try.underlying98 hi0 hz0 hz1 hz2 rfl (by decide) (by decide) hgd s x ho hs hx hown (Below.refl w0.heap.size wr) (Nat.le_refl _) hb.size hn y _ rfl rfl (oneT y) h
end
def DrawnRt (w : World) (e : Ending) (w' : World) : Prop :=
  ∃ (v1 v2 : Value) (l : List Vr) (ts : List Tg), e = .returned (.tuple #[v1, v2]) ∧ Own w' w.heap.size 82 3 encV v1 l ∧ Own w' w.heap.size 77 4 encT v2 ts ∧ FewV 9 l ∧ ts.length ≤ 6 ∧ (∀ t ∈ ts, t.1.size ≤ 60) ∧ Below w.heap.size w w'
set_option maxHeartbeats 4000000 in
set_option maxRecDepth 100000 in
theorem DrawRightTags_any (A : Option Addr) (n c : Nat) (w : World) (hb : BytesIn w A n c) :
    Calls Try.prog 101 #[.slice A n c] w (DrawnRt w) := by
  go_enter Try.func101, Try.ntmps101
  go_wp2_with fail
  refine (l20Open_any _ _ _ _ hb).mono ?_
  rintro e w1 ⟨rfl, hb1, hr1, hz1⟩
  have HR1 := Lib.hid hr1
  have HB1 := Lib.hid hb1
  have hz0 : w.heap.size < w1.heap.size := hr1.lt
  clear hr1 hb1 hz1
  go_wp2_with fail
  refine (l20Versions_any _ _ _ _ HR1.out (by omega) (by omega)).mono ?_
  rintro e w2 ⟨v1, l, p2, rfl, hown, hf1, ho2, hr2, hp2⟩
  obtain ⟨X, d, rfl, _, hs2, hX⟩ := hown.sl
  have hg2 : ∀ b o, X = some ⟨b, o, none⟩ → b ≠ w.heap.size := by
    rintro b o rfl
    rcases hX with ⟨_, hX⟩ | ⟨g', hX, hX2, _⟩
    · cases hX
    · injection hX with hX; injection hX with hX; omega
  have hz2 : w.heap.size < w2.heap.size := hr2.lt
  have HR2 := Lib.hid hr2
  have HB2 := Lib.hid (HB1.out.trans (ho2.below (Nat.le_refl _) HB1.out.size))
  have HL2 := Lib.hid hown
  have HS2 := Lib.hid hs2
  have HF1 := Lib.hid hf1
  have HG2 := Lib.hid hg2
  clear hr2 ho2 hown hf1 hX hs2 hg2
  go_wp2_with fail
  refine (pick_any _ _ _ _ (HR2.out.alloc _) (by omega) (by omega)).mono ?_
  rintro e w3 ⟨a, rfl, ha, ho3, hr3⟩
  have ha' : a ≤ 5 := by omega
  have HR3 := Lib.hid hr3
  have HO3 := Lib.hid ((Only.of_below ((Below.refl w2.heap.size w2).alloc (Nat.le_refl _) _)).trans ho3)
  have HW := Lib.hid ((Own.made (enc := encT) (E := 77) (size := 4) (Nat.le_refl w2.heap.size)).only ho3 hz2)
  clear hr3 ho3 ha
  go_wp2_with fail
  go_loopw [6, 7] (fun v i wr => ∃ (k : Nat) (acc : List Tg) (p1 : Nat), k ≤ 5 ∧ i = .int .i64 k ∧ acc.length + k ≤ 5 ∧ Hid (∀ t ∈ acc, t.1.size ≤ 60) ∧ Own wr w2.heap.size 77 4 encT v acc ∧ Only w.heap.size w2 wr ∧ Rdr wr w.heap.size p1 ∧ p1 + 10 * k ≤ 1000) (fun _ i _ => (intOf i).toNat)
  case atStart => exact ⟨a, [], _, ha', rfl, by simp; omega, (by intro p hp; simp at hp), HW.out, HO3.out, HR3.out, by omega⟩
  case round =>
    obtain ⟨k, acc, p1, hk, rfl, hak, hall, hown, ho, hr1, hp1⟩ := hrel
    have HRr := Lib.hid hr1
    have HOr := Lib.hid ho
    have HWr := Lib.hid hown
    clear hr1 ho hown
    by_cases hk0 : 0 < k
    · go_wp2_with fail
      refine (l20Tag_any _ _ _ _ _ _ HRr.out (by omega) (HS2.out.only HOr.out (fun _ => HG2.out)) HF1.out HG2.out).mono ?_
      rintro e w4 ⟨v4, p4, rfl, ⟨T, rfl, hT⟩, ho4, hr4, hp4⟩
      have HR4 := Lib.hid hr4
      have HO4 := Lib.hid (HOr.out.trans ho4)
      have HW4 := Lib.hid (HWr.out.only ho4 hz2)
      have HT := Lib.hid hT
      clear hr4 ho4 hT
      go_wp2_with (at_builtin; refine app_tg_only (y := T) rfl rfl rfl rfl HW4.out HO4.out (by omega) ?_; intro v5 w5 hown5 hb5)
      go_roundw
      case rel => exact ⟨k - 1, _, p4, by omega, by go_num, by simp; omega, (by
        intro q hq
        rw [List.mem_append, List.mem_singleton] at hq
        rcases hq with hq | rfl
        · exact hall.out q hq
        · exact HT.out), hown5, HO4.out.and_below hb5, HR4.out.under hz2 hb5, by omega⟩
      case measure => simp [intOf]; omega
    · have hk00 : k = 0 := by omega
      subst hk00
      go_wp2
      go_ret2
      exact ⟨_, _, l, acc, rfl, (HL2.out.only HOr.out hz0).mono HB1.out.size, HWr.out.mono (Nat.le_of_lt hz2), HF1.out, by omega, hall.out, HB2.out.trans (HOr.out.below (Nat.le_refl _) HB2.out.size)⟩
end Go.Proofs.Ytbefbenihahdnaa
