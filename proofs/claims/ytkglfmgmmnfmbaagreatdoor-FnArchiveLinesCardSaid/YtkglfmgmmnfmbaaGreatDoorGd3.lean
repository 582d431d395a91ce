/- Texts in one: Mf, Mg. -/
import Derived.Test.YtkglfmgmmnfmbaaGreatDoorGd0
import Derived.Test.YtkglfmgmmnfmbaaGreatDoorGc2
import Derived.Test.YtkglfmgmmnfmbaaGreatDoorGd1
import Derived.Test.YtkglfmgmmnfmbaaGreatDoorGa3
import Derived.Test.YtkglfmgmmnfmbaaGreatDoorGa7
/- DrawArchiveLines: an archive and lines that are drawn. -/
set_option linter.unusedVariables false
namespace Go.Proofs.YtkglfmgmmnfmbaaGreatDoor
open Go.RowKit
theorem Only.andB {g : Nat} {w0 wr w' : World} (h : Only g w0 wr) (hb : Below w0.heap.size wr w') : Only g w0 w' :=
  ⟨hb.os.trans h.os, hb.tape.trans h.tape, hb.output.trans h.output, Nat.le_trans h.size hb.size, fun k hk hne => (hb.block k hk).trans (h.block k hk hne)⟩
def ArLsGot (w : World) (e : Ending) (w' : World) : Prop :=
  ∃ (v u : Value) (a : Ar) (ls : List ByteArray), e = .returned (.tuple #[v, u]) ∧ ArV w' w.heap.size a v ∧ ArOk a ∧ Own w' w.heap.size 9 1 encS u ls ∧ ls.length ≤ 13 ∧ (∀ s ∈ ls, s.size ≤ 40) ∧ Below w.heap.size w w'
theorem make13 (w : World) : (Instr.makeSlice 37 (.int .i64 13) (.int .i64 13)).run Tryz.prog w = .ok (.slice (some ⟨w.heap.size, 0, none⟩) 13 13) (w.alloc (.cells (Array.replicate 13 (.string ⟨#[]⟩)) 9)) := by kernel_rfl
theorem own13 {base : Nat} {W : World} (h : base ≤ W.heap.size) : Own (W.alloc (.cells (Array.replicate 13 (.string ⟨#[]⟩)) 9)) base 9 1 encS (.slice (some ⟨W.heap.size, 0, none⟩) 13 13) (List.replicate 13 ⟨#[]⟩) := by
  have e : (flat encS (List.replicate 13 (⟨#[]⟩ : ByteArray))).toArray = Array.replicate 13 (.string ⟨#[]⟩) := by kernel_rfl
  refine Filled.own (l := List.replicate 13 (⟨#[]⟩ : ByteArray)) ⟨Array.replicate 13 (.string ⟨#[]⟩), heap_alloc_new W _, ?_, ?_, ?_⟩ (fun _ => rfl) h (by unfold maxLen; simp)
  · simp
  · simp [flat_length (enc := encS) (size := 1) (fun _ => rfl)]
  · rw [← e]; simp
set_option maxHeartbeats 4000000 in
set_option maxRecDepth 100000 in
theorem DrawArchiveLines_any (A : Option Addr) (n c : Nat) (w : World) (hb : BytesIn w A n c) : Calls Tryz.prog 31 #[.slice A n c] w (ArLsGot w) := by
  have HBI := Lib.hid (BytesIn.al hb (.cells #[.slice none 0 0, .int .i64 0, .slice none 0 0] 30))
  clear hb
  go_enter Tryz.func31, Tryz.ntmps31
  go_wp2_with fail
  refine (l20Open_any _ _ _ _ HBI.out).mono ?_
  rintro e w1 ⟨rfl, hb1, hr1, hz1⟩
  rw [World.alloc_size_] at hr1 hz1
  have HR1 := Lib.hid hr1
  have hr0 := Row3.new.below (w' := w1) hb1
  have HR0 := Lib.hid hr0
  have HB1 := Lib.hid (Below_of_alloc hb1)
  have hz2 : w.heap.size + 1 < w1.heap.size := by omega
  clear hr1 hb1 hr0
  go_wp2_with fail
  refine (l20Archive_any _ _ _ _ HR1.out (by omega) (by omega)).mono ?_
  rintro e w2 ⟨v2, ⟨l, x, m⟩, p2, rfl, ⟨P, Q, rfl, hp2, hq2, hap2⟩, hok2, ho2, hr2, hle2⟩
  obtain ⟨X, kx, e1, _⟩ := hp2.sl
  obtain ⟨Y, ky, e2, _⟩ := hq2.sl
  subst e1 e2
  simp only at *
  have hz3 : w1.heap.size ≤ w2.heap.size := ho2.size
  have HB2 := Lib.hid (HB1.out.trans (ho2.below (show w.heap.size ≤ w.heap.size + 1 by omega) (show w.heap.size ≤ w1.heap.size by omega)))
  have HP0 := Lib.hid (hp2.alloc (.cells #[.slice X l.length kx, .int .i64 x, .slice Y m.length ky] 30))
  have HQ0 := Lib.hid (hq2.alloc (.cells #[.slice X l.length kx, .int .i64 x, .slice Y m.length ky] 30))
  have HAP := Lib.hid hap2
  have HOK := Lib.hid hok2
  have HRB := Lib.hid (Row3.new (w := w2) (v0 := .slice X l.length kx) (v1 := .int .i64 x) (v2 := .slice Y m.length ky) (E := 30))
  have HRY := Lib.hid ((HR0.out.only ho2 (by simp)).below ((Below.refl _ _).alloc (Nat.le_refl _) (.cells #[.slice X l.length kx, .int .i64 x, .slice Y m.length ky] 30)))
  have HRD := Lib.hid (hr2.alloc (.cells #[.slice X l.length kx, .int .i64 x, .slice Y m.length ky] 30))
  have HB0 := Lib.hid (HB2.out.alloc HB2.out.size (.cells #[.slice X l.length kx, .int .i64 x, .slice Y m.length ky] 30))
  have hzW : (w2.alloc (.cells #[.slice X l.length kx, .int .i64 x, .slice Y m.length ky] 30)).heap.size = w2.heap.size + 1 := World.alloc_size_ _ _
  clear hp2 hq2 hap2 hr2 ho2 hok2 HR1
  go_wp2_with fail
  refine (pick_any 6 _ _ _ (HRD.out.alloc _) (by omega) (by omega)).mono ?_
  rintro e w3 ⟨k0, rfl, hk0, ho3, hr3⟩
  have HW3 := Lib.hid ((Own.made (w := w2.alloc (.cells #[.slice X l.length kx, .int .i64 x, .slice Y m.length ky] 30)) (base := w2.heap.size + 1) (enc := encS) (size := 1) (E := 9) (by rw [hzW]; exact Nat.le_refl _)).only ho3 (by omega))
  have HO3 := Lib.hid (Only.unalloc ho3)
  have HR3 := Lib.hid hr3
  have hg0 : w.heap.size + 1 < w2.heap.size + 1 := by omega
  generalize hW0 : w2.alloc (.cells #[.slice X l.length kx, .int .i64 x, .slice Y m.length ky] 30) = W0 at *
  replace HW3 : Hid (Own w3 W0.heap.size 9 1 encS (.slice (some ⟨w2.heap.size + 1, 0, none⟩) 0 0) []) := Lib.hid (by have h := HW3.out; rw [hzW] at h ⊢; exact h)
  have hgW : w.heap.size + 1 < W0.heap.size := by omega
  have hgb : w2.heap.size ≠ w.heap.size + 1 := by omega
  clear ho3 hr3 hW0
  go_wp2_with fail
  go_loopw [6, 7] (fun vo vk wr => ∃ (k : Nat) (ls : List ByteArray) (p1 : Nat), k + ls.length ≤ 5 ∧ vk = .int .i64 k ∧ p1 + 10 * k ≤ p2 + 60 ∧ Hid (∀ s ∈ ls, s.size ≤ 40) ∧ Hid (Own wr W0.heap.size 9 1 encS vo ls) ∧ Hid (Only (w.heap.size + 1) W0 wr) ∧ Hid (Rdr wr (w.heap.size + 1) p1)) (fun _ vk _ => (intOf vk).toNat)
  case atStart => exact ⟨k0, [], p2 + 1, by simp; omega, rfl, by omega, (fun s hs => by cases hs), HW3.out, HO3.out, HR3.out⟩
  case round =>
    obtain ⟨k, ls, p1, hk, rfl, hp1, HALL, HW, HO, HR⟩ := hrel
    by_cases hk0 : 0 < k
    · have hkp : (k : Int) > 0 := by omega
      have hln : ls.length ≤ 5 := by omega
      go_wp2_with (first
        | (go_at_call 64; refine (l20Line_any _ _ _ HR.out (by omega)).mono ?_; rintro e w4 ⟨v4, p4, rfl, ⟨ln, rfl, hln4⟩, ho4, hr4, hp4⟩; have HR4 := Lib.hid hr4; have HO4 := Lib.hid (HO.out.trans ho4); have HW4 := Lib.hid (HW.out.only ho4 hgW); have HL4 := Lib.hid hln4; clear hr4 ho4 hln4)
        | (at_builtin; refine app_str_only (y := ln) rfl rfl rfl rfl HW4.out HO4.out (by omega) ?_; intro v5 w5 hown5 hb5))
      go_roundw
      case rel => exact ⟨k - 1, ls ++ [ln], p4, by rw [List.length_append, List.length_singleton]; omega, by go_num, by omega, (by
        intro q hq
        rw [List.mem_append, List.mem_singleton] at hq
        rcases hq with hq | rfl
        · exact HALL.out q hq
        · exact HL4.out), hown5, HO4.out.andB hb5, HR4.out.under hgW hb5⟩
      case measure => simp [intOf]; omega
    · have hk00 : k = 0 := by omega
      subst hk00
      have hkn : ¬ ((0 : Nat) : Int) > 0 := by omega
      go_wp2_with fail
      refine (odd_any _ _ _ _ HR.out (by omega) (by omega)).mono ?_
      rintro e w4 ⟨b4, p4, rfl, ho4, hr4, hp4⟩
      have HO4 := Lib.hid (HO.out.trans ho4)
      have HW4 := Lib.hid (HW.out.only ho4 hgW)
      clear hr4 ho4
      obtain ⟨V4, cv, e4, _⟩ := HW4.out.sl
      subst e4
      have hbW : w.heap.size ≤ w4.heap.size := by have h1 := HO4.out.size; omega
      have hW4 : W0.heap.size ≤ w4.heap.size := HO4.out.size
      have HB4 := Lib.hid (HB0.out.trans (HO4.out.below (show w.heap.size ≤ w.heap.size + 1 by omega) (by omega)))
      have HP4 := Lib.hid (HP0.out.only HO4.out (by omega))
      have HQ4 := Lib.hid (HQ0.out.only HO4.out (by omega))
      have HRB4 := Lib.hid (HRB.out.only HO4.out hgb)
      have HRY4 := Lib.hid (HRY.out.only HO4.out (by simp))
      have hzl : w.heap.size < w1.heap.size := by omega
      have hzl2 : w.heap.size < W0.heap.size := by omega
      cases b4
      · obtain ⟨⟨b0, b1, b2⟩, _, _⟩ := HRB4.out
        obtain ⟨⟨y0, y1, y2⟩, yf, _⟩ := HRY4.out
        go_wp2_with fail
        exact bodyPost_ret (v := .tuple #[.agg #[.slice X l.length kx, .int .i64 x, .slice Y m.length ky], .slice V4 ls.length cv]) (by simp [results, Tryz.results31, go_sem, y0, y1, y2]) rfl
          ⟨_, _, ⟨l, x, m⟩, ls, rfl, ⟨_, _, rfl, (((HP4.out.setBelow hzl _).setBelow hzl _).setBelow hzl _).mono (by omega), (((HQ4.out.setBelow hzl _).setBelow hzl _).setBelow hzl _).mono (by omega), HAP.out⟩, HOK.out, (((HW4.out.setBelow hzl2 _).setBelow hzl2 _).setBelow hzl2 _).mono (by omega), by omega, HALL.out, ((HB4.out.setCell (Nat.le_refl _) _).setCell (Nat.le_refl _) _).setCell (Nat.le_refl _) _⟩
      · have hmk := make13
        have HW5 := Lib.hid (own13 (W := w4) (base := W0.heap.size) hW4)
        have HP5 := Lib.hid (HP4.out.alloc (.cells (Array.replicate 13 (.string ⟨#[]⟩)) 9))
        have HQ5 := Lib.hid (HQ4.out.alloc (.cells (Array.replicate 13 (.string ⟨#[]⟩)) 9))
        have HB5 := Lib.hid (HB4.out.alloc hbW (.cells (Array.replicate 13 (.string ⟨#[]⟩)) 9))
        obtain ⟨⟨b0, b1, b2⟩, _, _⟩ := HRB4.out.below ((Below.refl _ _).alloc (Nat.le_refl _) (.cells (Array.replicate 13 (.string ⟨#[]⟩)) 9))
        obtain ⟨⟨y0, y1, y2⟩, yf, _⟩ := HRY4.out.below ((Below.refl _ _).alloc (Nat.le_refl _) (.cells (Array.replicate 13 (.string ⟨#[]⟩)) 9))
        go_wp2_with fail
        exact bodyPost_ret (v := .tuple #[.agg #[.slice X l.length kx, .int .i64 x, .slice Y m.length ky], .slice (some ⟨w4.heap.size, 0, none⟩) 13 13]) (by simp [results, Tryz.results31, go_sem, y0, y1, y2]) rfl
          ⟨_, _, ⟨l, x, m⟩, List.replicate 13 ⟨#[]⟩, rfl, ⟨_, _, rfl, (((HP5.out.setBelow hzl _).setBelow hzl _).setBelow hzl _).mono (by omega), (((HQ5.out.setBelow hzl _).setBelow hzl _).setBelow hzl _).mono (by omega), HAP.out⟩, HOK.out, (((HW5.out.setBelow hzl2 _).setBelow hzl2 _).setBelow hzl2 _).mono (by omega), by simp, by intro s hs; rw [List.mem_replicate] at hs; rw [hs.2]; decide, ((HB5.out.setCell (Nat.le_refl _) _).setCell (Nat.le_refl _) _).setCell (Nat.le_refl _) _⟩
end Go.Proofs.YtkglfmgmmnfmbaaGreatDoor

/- FnArchiveLines, walked: lines follow each other. -/
set_option linter.unusedVariables false
namespace Go.Proofs.YtkglfmgmmnfmbaaGreatDoor
open Go.RowKit
section
variable {ops : Array Oper} {rest : List Oper} {o : Oper} {a : Act} {Q : Exit → Act → World → Prop} {w0 wr : World} {v : Value}
theorem app_strH {l m : List ByteArray} {A : Option Addr} {c : Nat} {s x : Operand} (hw : Region.wanted o (yielded ops a.tmps) = true) (ho : o.op = .call { callee := .builtin .append, args := #[s, x], argTypes := #[37, 37] })
    (hown : Own wr w0.heap.size 9 1 encS v l) (hb : Below w0.heap.size w0 wr) (hn : l.length + m.length ≤ 33554432) (hsl : Sl wr encS 1 A m) (hcz : A = none → c = 0)
    (hs : a.eval s = v) (hx : a.eval x = .slice A m.length c)
    (h : ∀ v' w', Own w' w0.heap.size 9 1 encS v' (l ++ m) → Below w0.heap.size w0 w' → Grew v wr w' → wpList Tryz.prog ops Q rest (a.put o.dst v') w') : wpList Tryz.prog ops Q (o :: rest) a wr :=
  wpList_step fun K hK => step_strN hw ho hown hb hn hsl hcz hs hx fun v' w' h1 h2 h3 => hK _ _ (h v' w' h1 h2 h3)
end
/-! ### plain -/
theorem Sl.tailT {α : Type} {enc : α → List Value} {w : World} {size b o : Nat} {x : α} {r : List α} (he : ∀ x, (enc x).length = size) (h : Sl w enc size (some ⟨b, o, none⟩) (x :: r)) : Sl w enc size (some ⟨b, o + size, none⟩) r := by
  intro hn
  obtain ⟨b', o', e, hc⟩ := h (by simp)
  injection e with e; injection e with e1 e2
  subst e1 e2
  refine ⟨_, _, rfl, fun j u hu => ?_⟩
  have := hc (size + j) u (by
    unfold flat at hu ⊢
    rw [List.flatMap_cons, List.getElem?_append_right (by rw [he]; omega), he, Nat.add_sub_cancel_left]; exact hu)
  rw [Nat.add_assoc]; exact this
theorem Sl.dropT {w : World} {b o : Nat} {l : List ByteArray} {k : Nat} (h : Sl w encS 1 (some ⟨b, o, none⟩) l) (hk : k ≤ l.length) : Sl w encS 1 (some ⟨b, o + k, none⟩) (l.drop k) := by
  induction k generalizing o l with
  | zero => exact h
  | succ k ih =>
    cases l with
    | nil => simp at hk
    | cons x r =>
      have h2 := ih (h.tailT (fun _ => rfl)) (by simpa using hk)
      rw [List.drop_succ_cons, show o + (k + 1) = o + 1 + k by omega]; exact h2
/-- What the program makes of lines, for a law. -/
theorem lines_law {X Y LA : Option Addr} {k j lc n : Nat} {l : List Pc} {m : List Vr} {x : Int} {ls : List ByteArray} (hcz : X = none → k = 0) (hl : l.length ≤ 16777216) (hf : FitP l) (hcz2 : Y = none → j = 0) (hl2 : m.length ≤ 16777216) (hf2 : FitV m) (hln : ls.length = n) (hll : ls.length ≤ 16777216) (hsz : ∀ s ∈ ls, s.size ≤ 1048576) {l2 : List Pc} {x2 : Int} {m2 : List Vr} {ansB : List Bs} {ans : List ByteArray} (hR : archM ⟨l, x, m⟩ (ls.map bs) = (⟨l2, x2, m2⟩, ansB)) (hA : ansB.map mk = ans) (W : World) (h1 : Sl W encP 2 X l) (h2 : Sl W encV 3 Y m) (h3 : Sl W encS 1 LA ls) (htz : TzL W) (hmx : MaxL W) :
    Calls Tryz.prog 19 #[.agg #[.slice X l.length k, .int .i64 x, .slice Y m.length j], .slice LA n lc] W fun e w' => ∃ (X2 : Option Addr) (k2 : Nat) (Y2 : Option Addr) (j2 : Nat) (U2 : Option Addr) (u2 : Nat), e = .returned (.tuple #[.agg #[.slice X2 l2.length k2, .int .i64 x2, .slice Y2 m2.length j2], .slice U2 ans.length u2]) ∧ Own w' W.heap.size 107 2 encP (.slice X2 l2.length k2) l2 ∧ Own w' W.heap.size 63 3 encV (.slice Y2 m2.length j2) m2 ∧ Own w' W.heap.size 9 1 encS (.slice U2 ans.length u2) ans ∧ ApartV (.slice X2 l2.length k2) (.slice Y2 m2.length j2) ∧ Below W.heap.size W w' := by
  have h := iArchiveLines_any X Y LA k j lc l m x ls W h1 hcz hl hf h2 hcz2 hl2 hf2 h3 hll hsz htz hmx
  rw [hR, hln] at h
  refine h.mono fun e w' ⟨p, q, u, he, hp, hq, hu, hap, _, _, hb⟩ => ?_
  have hu : Own w' W.heap.size 9 1 encS u (ansB.map mk) := hu
  rw [hA] at hu
  obtain ⟨X2, k2, e1, _⟩ := hp.sl
  obtain ⟨Y2, j2, e2, _⟩ := hq.sl
  obtain ⟨U2, u2, e3, _⟩ := hu.sl
  subst e1 e2 e3
  exact ⟨X2, k2, Y2, j2, U2, u2, he, hp, hq, hu, hap, hb⟩
/-- What the reference makes of lines, for a law. -/
theorem slines_law {X Y LA : Option Addr} {k j lc n : Nat} {l : List Pc} {m : List Vr} {x : Int} {ls : List ByteArray} (hcz : X = none → k = 0) (hl : l.length ≤ 16777216) (hf : FitP l) (hcz2 : Y = none → j = 0) (hl2 : m.length ≤ 16777216) (hf2 : FitV m) (hln : ls.length = n) (hll : ls.length ≤ 16777216) (hsz : ∀ s ∈ ls, s.size ≤ 1048576) {l2 : List Pc} {x2 : Int} {m2 : List Vr} {ansB : List Bs} {ans : List ByteArray} (hR : archM ⟨l, x, m⟩ (ls.map bs) = (⟨l2, x2, m2⟩, ansB)) (hA : ansB.map mk = ans) (W : World) (h1 : Sl W encP 2 X l) (h2 : Sl W encV 3 Y m) (h3 : Sl W encS 1 LA ls) :
    Calls Tryz.prog 17 #[.agg #[.slice X l.length k, .int .i64 x, .slice Y m.length j], .slice LA n lc] W fun e w' => ∃ (X2 : Option Addr) (k2 : Nat) (Y2 : Option Addr) (j2 : Nat) (U2 : Option Addr) (u2 : Nat), e = .returned (.tuple #[.agg #[.slice X2 l2.length k2, .int .i64 x2, .slice Y2 m2.length j2], .slice U2 ans.length u2]) ∧ Own w' W.heap.size 107 2 encP (.slice X2 l2.length k2) l2 ∧ Own w' W.heap.size 63 3 encV (.slice Y2 m2.length j2) m2 ∧ Own w' W.heap.size 9 1 encS (.slice U2 ans.length u2) ans ∧ Below W.heap.size W w' := by
  have h := sArchiveLines_any X Y LA k j lc l m x ls W h1 hcz hl hf h2 hcz2 hl2 hf2 h3 hll hsz
  rw [hR, hln] at h
  refine h.mono fun e w' ⟨p, q, u, he, hp, hq, hu, hap, _, _, hb⟩ => ?_
  have hu : Own w' W.heap.size 9 1 encS u (ansB.map mk) := hu
  rw [hA] at hu
  obtain ⟨X2, k2, e1, _⟩ := hp.sl
  obtain ⟨Y2, j2, e2, _⟩ := hq.sl
  obtain ⟨U2, u2, e3, _⟩ := hu.sl
  subst e1 e2 e3
  exact ⟨X2, k2, Y2, j2, U2, u2, he, hp, hq, hu, hb⟩
set_option maxHeartbeats 8000000 in
set_option maxRecDepth 100000 in
theorem wFnArchiveLines (A : Option Addr) (n c : Nat) (w : World) (hb : BytesIn w A n c) (hm : MaxL w) (ht : TzL w) : Calls Tryz.prog 8 #[.slice A n c] w (LawOk w) := by
  by_cases h : n ≤ 1048576
  case neg =>
    go_enter Tryz.func8, Tryz.ntmps8
    go_wp2
    go_ret
    exact ⟨rfl, Below.refl _ _⟩
  have HBI := Lib.hid hb
  have HM := Lib.hid hm
  have HT := Lib.hid ht
  clear hb hm ht
  go_enter Tryz.func8, Tryz.ntmps8
  go_wp2_with fail
  refine (DrawArchiveLines_any _ _ _ _ HBI.out).mono ?_
  rintro e w1 ⟨v1, u1, ⟨l, x, m⟩, ls, rfl, ⟨P, Q, rfl, hp1, hq1, hap1⟩, hok1, hown1, hls13, hsz40, hb1⟩
  simp only at *
  obtain ⟨X, k, e1, hlk, hs1, _⟩ := hp1.sl
  obtain ⟨Y, j, e2, hmj, hs2, _⟩ := hq1.sl
  obtain ⟨LA, lc, e3, hlc, hs3, hla⟩ := hown1.sl
  subst e1 e2 e3
  have hla2 : LA = none ∧ ls.length = 0 ∧ lc = 0 ∨ ∃ b o, LA = some ⟨b, o, none⟩ := by
    rcases hla with ⟨h1, h2⟩ | ⟨g, h1, _⟩
    · exact .inl ⟨h2, by rw [h1]; rfl, hown1.cz h2⟩
    · exact .inr ⟨g, 0, h1⟩
  have HLA := Lib.hid hla2
  have HS1 := Lib.hid hs1
  have HQ1 := Lib.hid hs2
  have HL1 := Lib.hid hs3
  have HB1 := Lib.hid hb1
  have HM1 := Lib.hid (HM.out.below hb1)
  have HT1 := Lib.hid (HT.out.below hb1)
  have hl40 : l.length ≤ 40 := hok1.lp
  have hm13 : m.length ≤ 13 := hok1.lv
  have HFP := Lib.hid (show FitP l from hok1.fit)
  have HFV := Lib.hid (show FitV m from hok1.fitV)
  have HCX := Lib.hid (fun h => hp1.cz h)
  have HCY := Lib.hid (fun h => hq1.cz h)
  have HSZ := Lib.hid (show ∀ s ∈ ls, s.size ≤ 1048576 from fun s hs => Nat.le_trans (hsz40 s hs) (by omega))
  have hlen := archM_len ⟨l, x, m⟩ (ls.map bs)
  have HBAD := Lib.hid (fun h => archM_bad (a := ⟨l, x, m⟩) (ls := ls.map bs) h)
  have HPT := Lib.hid (fun h1 h2 => archM_parts (a := ⟨l, x, m⟩) (ls := ls.map bs) h1 h2 (ls.length / 2))
  have HAV := Lib.hid (fun W h h2 h3 h4 => iArchiveValid_any X Y k j l m x W h (by omega) hok1.fit h2 (by omega) hok1.fitV h3 h4)
  cases hR : archM ⟨l, x, m⟩ (ls.map bs) with
  | mk a2 ansB =>
  obtain ⟨l2, x2, m2⟩ := a2
  rw [hR] at hlen HBAD HPT
  simp only at hlen
  have hl2 : l2.length ≤ 40 := hlen.1
  have hm2 : m2.length ≤ 12 := hlen.2.1
  have han : (ansB.map mk).length ≤ 12 := by rw [List.length_map]; exact hlen.2.2
  generalize hAN : ansB.map mk = ans at han
  have HI := Lib.hid (fun W h1 h2 h3 h4 h5 => lines_law (LA := LA) (l := l) (x := x) (m := m) (ls := ls) (k := k) (j := j) (lc := lc) (n := ls.length) HCX.out (by omega) HFP.out HCY.out (by omega) HFV.out rfl (by omega) HSZ.out hR hAN W h1 h2 h3 h4 h5)
  have HSL := Lib.hid (fun W h1 h2 h3 => slines_law (LA := LA) (l := l) (x := x) (m := m) (ls := ls) (k := k) (j := j) (lc := lc) (n := ls.length) HCX.out (by omega) HFP.out HCY.out (by omega) HFV.out rfl (by omega) HSZ.out hR hAN W h1 h2 h3)
  have HSA := Lib.hid (fun A B A' B' c d c' d' w h1 h2 h3 h4 => sameArchive_same A B A' B' c d c' d' l2 m2 x2 w h1 h2 (by omega) h3 h4 (by omega))
  have HST := Lib.hid (fun A B c d w h1 h2 => l_sameTexts_same A B c d ans w h1 h2 (by omega))
  have HAN := Lib.hid hAN
  clear hp1 hq1 hown1 hs1 hs2 hs3 hb1 hok1 hap1 hlen hla hla2 hsz40 hR hAN
  go_wp2_with fail
  refine (HI.out _ (HS1.out.alloc _) (HQ1.out.alloc _) (HL1.out.alloc _) (HT1.out.below ((Below.refl _ _).alloc (Nat.le_refl _) _)) (HM1.out.below ((Below.refl _ _).alloc (Nat.le_refl _) _))).mono ?_
  rintro e w2 ⟨X2, k2, Y2, j2, U2, u2, rfl, hp2, hq2, hu2, _, hb2⟩
  have HRA := Lib.hid (Row3.new.below hb2)
  have HB2 := Lib.hid (Below_then HB1.out (Below_of_alloc hb2) (Nat.le_refl _))
  have HM2 := Lib.hid (HM1.out.below (Below_of_alloc hb2))
  have HT2 := Lib.hid (HT1.out.below (Below_of_alloc hb2))
  have HS2 := Lib.hid (HS1.out.below (Below_of_alloc hb2))
  have HQ2 := Lib.hid (HQ1.out.below (Below_of_alloc hb2))
  have HL2 := Lib.hid (HL1.out.below (Below_of_alloc hb2))
  have HP2 := Lib.hid hp2.sl'
  have HV2 := Lib.hid hq2.sl'
  have HU2 := Lib.hid hu2.sl'
  clear hp2 hq2 hu2 hb2
  obtain ⟨⟨a0, a1, a2⟩, _, _⟩ := HRA.out
  have za0 := fun o => cell_alloc (x := o) a0
  have za1 := fun o => cell_alloc (x := o) a1
  have za2 := fun o => cell_alloc (x := o) a2
  clear a0 a1 a2
  go_wp2_with fail
  refine (HSL.out _ (HS2.out.alloc _) (HQ2.out.alloc _) (HL2.out.alloc _)).mono ?_
  rintro e w3 ⟨X3, k3, Y3, j3, U3, u3, rfl, hp3, hq3, hu3, hb3⟩
  have HRX := Lib.hid (Row3.new.below hb3)
  replace HRA := Lib.hid (HRA.out.below (Below_of_alloc hb3))
  have HB3 := Lib.hid (Below_then HB2.out (Below_of_alloc hb3) (Nat.le_refl _))
  have HM3 := Lib.hid (HM2.out.below (Below_of_alloc hb3))
  have HT3 := Lib.hid (HT2.out.below (Below_of_alloc hb3))
  have HS3 := Lib.hid (HS2.out.below (Below_of_alloc hb3))
  have HQ3 := Lib.hid (HQ2.out.below (Below_of_alloc hb3))
  have HL3 := Lib.hid (HL2.out.below (Below_of_alloc hb3))
  have HP3 := Lib.hid (HP2.out.below (Below_of_alloc hb3))
  have HV3 := Lib.hid (HV2.out.below (Below_of_alloc hb3))
  have HU3 := Lib.hid (HU2.out.below (Below_of_alloc hb3))
  have HP3' := Lib.hid hp3.sl'
  have HV3' := Lib.hid hq3.sl'
  have HU3' := Lib.hid hu3.sl'
  clear hp3 hq3 hu3 hb3 za0 za1 za2
  obtain ⟨⟨x0, x1, x2'⟩, _, _⟩ := HRX.out
  have zx0 := fun o => cell_alloc (x := o) x0
  have zx1 := fun o => cell_alloc (x := o) x1
  have zx2 := fun o => cell_alloc (x := o) x2'
  clear x0 x1 x2'
  go_wp2_with fail
  refine (HSA.out X2 Y2 X3 Y3 k2 j2 k3 j3 _ (HP3.out.alloc _) (HP3'.out.alloc _) (HV3.out.alloc _) (HV3'.out.alloc _)).mono ?_
  rintro e w4 ⟨rfl, hb4⟩
  replace HRA := Lib.hid (HRA.out.below (Below_of_alloc hb4))
  replace HRX := Lib.hid (HRX.out.below (Below_of_alloc hb4))
  have HB4 := Lib.hid (Below_then HB3.out (Below_of_alloc hb4) (Nat.le_refl _))
  have HM4 := Lib.hid (HM3.out.below (Below_of_alloc hb4))
  have HT4 := Lib.hid (HT3.out.below (Below_of_alloc hb4))
  have HS4 := Lib.hid (HS3.out.below (Below_of_alloc hb4))
  have HQ4 := Lib.hid (HQ3.out.below (Below_of_alloc hb4))
  have HL4 := Lib.hid (HL3.out.below (Below_of_alloc hb4))
  have HP4 := Lib.hid (HP3.out.below (Below_of_alloc hb4))
  have HV4 := Lib.hid (HV3.out.below (Below_of_alloc hb4))
  have HU4 := Lib.hid (HU3.out.below (Below_of_alloc hb4))
  have HU4' := Lib.hid (HU3'.out.below (Below_of_alloc hb4))
  clear hb4 zx0 zx1 zx2 HP3' HV3' HU3' HSL HI
  have hav := HAV.out
  by_cases hgood : archV ⟨l, x, m⟩ = true ∧ ls.length ≤ 12
  case neg =>
    have hbd : archV ⟨l, x, m⟩ = false ∨ ¬ (ls.map bs).length ≤ 12 := by
      cases hv : archV ⟨l, x, m⟩
      · exact .inl rfl
      · exact .inr fun h2 => hgood ⟨hv, by rwa [List.length_map] at h2⟩
    have hz := HBAD.out hbd
    injection hz with hz1 hz2
    injection hz1 with hz3 hz4 hz5
    subst hz3 hz4 hz5
    have hans := HAN.out
    rw [hz2] at hans
    have hans : ans = [] := hans.symm
    subst hans
    have HST0 := Lib.hid (fun A B c d w h1 h2 => show Calls Tryz.prog 26 #[.slice A 0 c, .slice B 0 d] w fun e w' => e = .returned (.bool true) ∧ Drawn_ w w' from HST.out A B c d w h1 h2)
    cases hv : archV ⟨l, x, m⟩
    · rw [hv] at hav
      have HAV2 := Lib.hid hav
      clear hav hv hz2 hbd hgood HBAD HAV HPT
      go_wp2_with (go_at_call 26; refine (HST0.out U2 U3 u2 u3 _ HU4.out HU4'.out).mono ?_; rintro e w5 ⟨rfl, hd5⟩; have hb5 := hd5.below; replace HRA := Lib.hid (HRA.out.below hb5); replace HRX := Lib.hid (HRX.out.below hb5); have HB5 := Lib.hid (Below_then HB4.out hb5 (Nat.le_refl _)); have HM5 := Lib.hid (HM4.out.below hb5); have HT5 := Lib.hid (HT4.out.below hb5); have HS5 := Lib.hid (HS4.out.below hb5); have HQ5 := Lib.hid (HQ4.out.below hb5); have HL5 := Lib.hid (HL4.out.below hb5); have HP5 := Lib.hid (HP4.out.below hb5); have HV5 := Lib.hid (HV4.out.below hb5); have HU5 := Lib.hid (HU4.out.below hb5); clear hd5 hb5; obtain ⟨⟨a0, a1, a2⟩, _, _⟩ := HRA.out)
      refine (HAV2.out _ HS5.out HQ5.out HT5.out HM5.out).mono ?_
      rintro e w6 ⟨rfl, hb6⟩
      replace HRA := Lib.hid (HRA.out.below hb6)
      replace HRX := Lib.hid (HRX.out.below hb6)
      have HB6 := Lib.hid (Below_then HB5.out hb6 (Nat.le_refl _))
      have HM6 := Lib.hid (HM5.out.below hb6)
      have HT6 := Lib.hid (HT5.out.below hb6)
      have HS6 := Lib.hid (HS5.out.below hb6)
      have HQ6 := Lib.hid (HQ5.out.below hb6)
      have HL6 := Lib.hid (HL5.out.below hb6)
      have HP6 := Lib.hid (HP5.out.below hb6)
      have HV6 := Lib.hid (HV5.out.below hb6)
      have HU6 := Lib.hid (HU5.out.below hb6)
      clear hb6 a0 a1 a2
      obtain ⟨⟨x0, x1, x2'⟩, _, _⟩ := HRX.out
      simp only [List.length_nil] at x0 x2'
      go_wp2_with fail
      refine (sameArchive_empty _ _ _ _ _).mono ?_
      rintro e w7 ⟨rfl, hb7⟩
      have HB7 := Lib.hid (Below_then HB6.out hb7 (Nat.le_refl _))
      clear hb7
      go_wp2_with (go_at_call 24; refine (alive_any _).mono ?_; rintro e w' ⟨rfl, rfl⟩)
      go_ret
      exact ⟨rfl, HB7.out⟩
    · have hgt : (ls.length : Int) > 12 := by
        have : ¬ ls.length ≤ 12 := fun h => hgood ⟨hv, h⟩
        omega
      rw [hv] at hav
      have HAV2 := Lib.hid hav
      clear hav hv hz2 hbd hgood HBAD HAV HPT
      go_wp2_with (go_at_call 26; refine (HST0.out U2 U3 u2 u3 _ HU4.out HU4'.out).mono ?_; rintro e w5 ⟨rfl, hd5⟩; have hb5 := hd5.below; replace HRA := Lib.hid (HRA.out.below hb5); replace HRX := Lib.hid (HRX.out.below hb5); have HB5 := Lib.hid (Below_then HB4.out hb5 (Nat.le_refl _)); have HM5 := Lib.hid (HM4.out.below hb5); have HT5 := Lib.hid (HT4.out.below hb5); have HS5 := Lib.hid (HS4.out.below hb5); have HQ5 := Lib.hid (HQ4.out.below hb5); have HL5 := Lib.hid (HL4.out.below hb5); have HP5 := Lib.hid (HP4.out.below hb5); have HV5 := Lib.hid (HV4.out.below hb5); have HU5 := Lib.hid (HU4.out.below hb5); clear hd5 hb5; obtain ⟨⟨a0, a1, a2⟩, _, _⟩ := HRA.out)
      refine (HAV2.out _ HS5.out HQ5.out HT5.out HM5.out).mono ?_
      rintro e w6 ⟨rfl, hb6⟩
      replace HRA := Lib.hid (HRA.out.below hb6)
      replace HRX := Lib.hid (HRX.out.below hb6)
      have HB6 := Lib.hid (Below_then HB5.out hb6 (Nat.le_refl _))
      have HM6 := Lib.hid (HM5.out.below hb6)
      have HT6 := Lib.hid (HT5.out.below hb6)
      have HS6 := Lib.hid (HS5.out.below hb6)
      have HQ6 := Lib.hid (HQ5.out.below hb6)
      have HL6 := Lib.hid (HL5.out.below hb6)
      have HP6 := Lib.hid (HP5.out.below hb6)
      have HV6 := Lib.hid (HV5.out.below hb6)
      have HU6 := Lib.hid (HU5.out.below hb6)
      clear hb6 a0 a1 a2
      obtain ⟨⟨x0, x1, x2'⟩, _, _⟩ := HRX.out
      simp only [List.length_nil] at x0 x2'
      go_wp2_with fail
      refine (sameArchive_empty _ _ _ _ _).mono ?_
      rintro e w7 ⟨rfl, hb7⟩
      have HB7 := Lib.hid (Below_then HB6.out hb7 (Nat.le_refl _))
      clear hb7
      go_wp2_with (go_at_call 24; refine (alive_any _).mono ?_; rintro e w' ⟨rfl, rfl⟩)
      go_ret
      exact ⟨rfl, HB7.out⟩
  case pos =>
    obtain ⟨hv, h12⟩ := hgood
    have hgt : ¬ (ls.length : Int) > 12 := by omega
    rw [hv] at hav
    have HAV2 := Lib.hid hav
    have hpt := HPT.out hv (by rw [List.length_map]; exact h12)
    have hh : ls.length / 2 ≤ ls.length := Nat.div_le_self _ _
    rw [← List.map_take, ← List.map_drop] at hpt
    have hlen1 := archM_len ⟨l, x, m⟩ ((ls.take (ls.length / 2)).map bs)
    have hva1 := archM_valid hv (ls := (ls.take (ls.length / 2)).map bs) (by rw [List.length_map, List.length_take]; omega)
    cases hR1 : archM ⟨l, x, m⟩ ((ls.take (ls.length / 2)).map bs) with
    | mk b2 f1B =>
    obtain ⟨l5, x5, m5⟩ := b2
    rw [hR1] at hpt hlen1 hva1
    simp only at hpt hlen1 hva1
    have hlen2 := archM_len ⟨l5, x5, m5⟩ ((ls.drop (ls.length / 2)).map bs)
    cases hR2 : archM ⟨l5, x5, m5⟩ ((ls.drop (ls.length / 2)).map bs) with
    | mk b3 f2B =>
    obtain ⟨l6, x6, m6⟩ := b3
    rw [hR2] at hpt hlen2
    simp only at hpt hlen2
    obtain ⟨hpa, hpb⟩ := hpt
    injection hpa with e1 e2 e3
    subst e1 e2 e3
    have hl5 : l5.length ≤ 40 := hlen1.1
    have hm5 : m5.length ≤ 12 := hlen1.2.1
    have hf1 : (f1B.map mk).length ≤ 12 := by rw [List.length_map]; exact hlen1.2.2
    have hf2 : (f2B.map mk).length ≤ 12 := by rw [List.length_map]; exact hlen2.2.2
    have hjoin : f1B.map mk ++ f2B.map mk = ans := by rw [← List.map_append, hpb]; exact HAN.out
    have hfp5 : FitP l5 := fitP_of_store (archV_iff.1 hva1).1
    have hfv5 : FitV m5 := fitV_valid (archV_iff.1 hva1).2.1
    have hz1 : ∀ s ∈ ls.take (ls.length / 2), s.size ≤ 1048576 := fun s hs => HSZ.out s (List.mem_of_mem_take hs)
    have hz2 : ∀ s ∈ ls.drop (ls.length / 2), s.size ≤ 1048576 := fun s hs => HSZ.out s (List.mem_of_mem_drop hs)
    have hq2 : (ls.length : Int).tdiv 2 = ((ls.length / 2 : Nat) : Int) := (Int.ofNat_tdiv ls.length 2).symm
    have htk : (ls.take (ls.length / 2)).length = ls.length / 2 := by rw [List.length_take]; omega
    have hdr : (ls.drop (ls.length / 2)).length = ls.length - ls.length / 2 := List.length_drop
    have hla2 : ∃ LA2 : Option Addr, (LA = none ∧ LA2 = none ∧ ls.length = 0 ∧ lc = 0) ∨ ∃ b o, LA = some ⟨b, o, none⟩ ∧ LA2 = if lc = ls.length / 2 then some ⟨b, o, none⟩ else some ⟨b, o + ls.length / 2, none⟩ := by
      rcases HLA.out with ⟨h1, h2, h3⟩ | ⟨b, o, h1⟩
      · exact ⟨none, .inl ⟨h1, rfl, h2, h3⟩⟩
      · exact ⟨_, .inr ⟨b, o, h1, rfl⟩⟩
    obtain ⟨LA2, hla2⟩ := hla2
    have HLA2 := Lib.hid hla2
    have HSD := Lib.hid (fun W (hs : Sl W encS 1 LA ls) => show Sl W encS 1 LA2 (ls.drop (ls.length / 2)) from by
      rcases HLA2.out with ⟨_, h1, h2, _⟩ | ⟨b, o, h1, h2⟩
      · exact Sl.gone (by rw [hdr]; omega)
      · subst h1 h2
        split
        · exact Sl.gone (by rw [hdr]; omega)
        · exact hs.dropT hh)
    have HI1 := Lib.hid (fun W h1 h2 (h3 : Sl W encS 1 LA ls) h4 h5 => lines_law (LA := LA) (l := l) (x := x) (m := m) (ls := ls.take (ls.length / 2)) (k := k) (j := j) (lc := lc) (n := ls.length / 2) HCX.out (by omega) HFP.out HCY.out (by omega) HFV.out htk (by omega) hz1 hR1 rfl W h1 h2 (h3.take _) h4 h5)
    have HI2 := Lib.hid (fun (k j : Nat) (Xa Ya : Option Addr) W ha hb h1 h2 (h3 : Sl W encS 1 LA ls) h4 h5 => lines_law (X := Xa) (Y := Ya) (LA := LA2) (l := l5) (x := x5) (m := m5) (ls := ls.drop (ls.length / 2)) (k := k) (j := j) (lc := lc - ls.length / 2) (n := ls.length - ls.length / 2) ha (by omega) hfp5 hb (by omega) hfv5 hdr (by omega) hz2 hR2 rfl W h1 h2 (HSD.out W h3) h4 h5)
    have hhc : ls.length / 2 ≤ lc := by omega
    have h0 : 0 ≤ ls.length / 2 := Nat.zero_le _
    generalize f1B.map mk = f1 at *
    generalize f2B.map mk = f2 at *
    generalize hH : ls.length / 2 = hh2 at *
    have HJOIN := Lib.hid hjoin
    clear hav hv HBAD HAV HPT hpb hlen1 hlen2 hva1 hfp5 hfv5 hz1 hz2 htk hdr hla2 hjoin hR1 hR2 hH
    go_wp2_with (go_at_call 26; refine (HST.out U2 U3 u2 u3 _ HU4.out HU4'.out).mono ?_; rintro e w5 ⟨rfl, hd5⟩; have hb5 := hd5.below; replace HRA := Lib.hid (HRA.out.below hb5); replace HRX := Lib.hid (HRX.out.below hb5); have HB5 := Lib.hid (Below_then HB4.out hb5 (Nat.le_refl _)); have HM5 := Lib.hid (HM4.out.below hb5); have HT5 := Lib.hid (HT4.out.below hb5); have HS5 := Lib.hid (HS4.out.below hb5); have HQ5 := Lib.hid (HQ4.out.below hb5); have HL5 := Lib.hid (HL4.out.below hb5); have HP5 := Lib.hid (HP4.out.below hb5); have HV5 := Lib.hid (HV4.out.below hb5); have HU5 := Lib.hid (HU4.out.below hb5); clear hd5 hb5; obtain ⟨⟨a0, a1, a2⟩, _, _⟩ := HRA.out)
    refine (HAV2.out _ HS5.out HQ5.out HT5.out HM5.out).mono ?_
    rintro e w6 ⟨rfl, hb6⟩
    replace HRA := Lib.hid (HRA.out.below hb6)
    replace HRX := Lib.hid (HRX.out.below hb6)
    have HB6 := Lib.hid (Below_then HB5.out hb6 (Nat.le_refl _))
    have HM6 := Lib.hid (HM5.out.below hb6)
    have HT6 := Lib.hid (HT5.out.below hb6)
    have HS6 := Lib.hid (HS5.out.below hb6)
    have HQ6 := Lib.hid (HQ5.out.below hb6)
    have HL6 := Lib.hid (HL5.out.below hb6)
    have HP6 := Lib.hid (HP5.out.below hb6)
    have HV6 := Lib.hid (HV5.out.below hb6)
    have HU6 := Lib.hid (HU5.out.below hb6)
    clear hb6 a0 a1 a2
    obtain ⟨⟨a0, a1, a2⟩, _, _⟩ := HRA.out
    go_wp2_with fail
    refine wp_region_inv (by kernel_rfl) (by kernel_rfl) (fun a0 d a W => ∃ (v10 v11 v66 v67 v68 v69 v70 v71 v72 v73 P3 Q3 V3 : Value) (b8 : Nat), a = ⟨#[.slice A n c, undef, .bool false, .pointer (some ⟨w1.heap.size, 0, none⟩), .slice LA ls.length lc, .pointer (some ⟨w2.heap.size, 0, none⟩), .slice U2 ans.length u2, .pointer (some ⟨w3.heap.size, 0, none⟩), .slice U3 ans.length u3, .int .i64 (hh2 : Int), v10, v11, undef, undef, .slice A n c, .int .i64 (n : Int), .bool (decide (1048576 < (n : Int))), .tuple #[.agg #[.slice X l.length k, .int .i64 x, .slice Y m.length j], .slice LA ls.length lc], .slice A n c, .tuple #[.agg #[.slice X l.length k, .int .i64 x, .slice Y m.length j], .slice LA ls.length lc], .agg #[.slice X l.length k, .int .i64 x, .slice Y m.length j], .slice LA ls.length lc, .tuple #[.agg #[.slice X2 l6.length k2, .int .i64 x6, .slice Y2 m6.length j2], .slice U2 ans.length u2], .agg #[.slice X l.length k, .int .i64 x, .slice Y m.length j], .slice LA ls.length lc, .tuple #[.agg #[.slice X2 l6.length k2, .int .i64 x6, .slice Y2 m6.length j2], .slice U2 ans.length u2], .agg #[.slice X2 l6.length k2, .int .i64 x6, .slice Y2 m6.length j2], .slice U2 ans.length u2, .tuple #[.agg #[.slice X3 l6.length k3, .int .i64 x6, .slice Y3 m6.length j3], .slice U3 ans.length u3], .agg #[.slice X l.length k, .int .i64 x, .slice Y m.length j], .slice LA ls.length lc, .tuple #[.agg #[.slice X3 l6.length k3, .int .i64 x6, .slice Y3 m6.length j3], .slice U3 ans.length u3], .agg #[.slice X3 l6.length k3, .int .i64 x6, .slice Y3 m6.length j3], .slice U3 ans.length u3, .agg #[.slice X2 l6.length k2, .int .i64 x6, .slice Y2 m6.length j2], .agg #[.slice X3 l6.length k3, .int .i64 x6, .slice Y3 m6.length j3], .bool true, .bool false, .bool false, .slice U2 ans.length u2, .slice U3 ans.length u3, .bool true, .bool false, .bool false, .agg #[.slice X l.length k, .int .i64 x, .slice Y m.length j], .bool true, .bool false, .bool false, .slice LA ls.length lc, .int .i64 (ls.length : Int), .bool (decide (12 < (ls.length : Int))), .bool (decide (12 < (ls.length : Int))), undef, undef, undef, undef, undef, undef, undef, undef, undef, undef, undef, .slice LA ls.length lc, .int .i64 (ls.length : Int), .int .i64 (hh2 : Int), v66, v67, v68, v69, v70, v71, v72, v73, undef, undef, undef, undef, undef, undef, undef, undef, undef, undef, undef, undef, undef, undef, undef, undef, undef, undef, undef, undef], []⟩ ∧ ((d 0 = true → v67 = .agg #[.slice X l.length k, .int .i64 x, .slice Y m.length j]) ∧ (d 1 = true → v68 = .slice LA ls.length lc) ∧ (d 2 = true → v69 = .int .i64 (hh2 : Int)) ∧ (d 3 = true → v70 = .slice LA hh2 lc) ∧ (d 10 = true → v11 = V3 ∧ d 7 = true)) ∧ BxC w6 l5 x5 m5 (.inr f1) (d 4) (d 5) (d 6) (d 7) (d 8) (d 9) v71 v66 v72 v73 v10 P3 Q3 V3 b8 W) ?_ ?_ ?_
    · exact ⟨_, _, _, _, _, _, _, _, _, _, .slice none 0 0, .slice none 0 0, .slice none 0 0, 0, rfl, ⟨nofun, nofun, nofun, nofun, nofun⟩, BxC.start⟩
    · refine ⟨?_, ?_, ?_, ?_, ?_, ?_, ?_, ?_, ?_, ?_, ?_, trivial⟩
      all_goals
        intro d a W K hd hdep hJ hK
        obtain ⟨v10, v11, v66, v67, v68, v69, v70, v71, v72, v73, P3, Q3, V3, b8, rfl, hp, hx⟩ := hJ
        have HP := Lib.hid hp
        have HX := Lib.hid hx
        have HK := Lib.hid hK
        have HD := Lib.hid hd
        have HDEP := Lib.hid hdep
        clear hp hx hK hd hdep
      · obtain ⟨⟨a0, a1, a2⟩, _, _⟩ := HRA.out.below HX.out.bel
        go_simp
        exact HK.out _ _ ⟨_, _, _, _, _, _, _, _, _, _, _, _, _, _, rfl, ⟨fun _ => rfl, HP.out.2⟩, HX.out⟩
      · go_simp
        exact HK.out _ _ ⟨_, _, _, _, _, _, _, _, _, _, _, _, _, _, rfl, ⟨HP.out.1, fun _ => rfl, HP.out.2.2⟩, HX.out⟩
      · go_simp
        exact HK.out _ _ ⟨_, _, _, _, _, _, _, _, _, _, _, _, _, _, rfl, ⟨HP.out.1, HP.out.2.1, fun _ => rfl, HP.out.2.2.2⟩, HX.out⟩
      · obtain rfl := HP.out.2.1 (HDEP.out { on := 1, ground := Ground.data } (by simp) rfl)
        obtain rfl := HP.out.2.2.1 (HDEP.out { on := 2, ground := Ground.data } (by simp) rfl)
        rcases HLA2.out with ⟨e1, e2, -, -⟩ | ⟨b, o, e1, e2⟩
        · subst e1 e2
          go_simp
          exact HK.out _ _ ⟨_, _, _, _, _, _, _, _, _, _, _, _, _, _, rfl, ⟨HP.out.1, HP.out.2.1, HP.out.2.2.1, fun _ => rfl, HP.out.2.2.2.2⟩, HX.out⟩
        · subst e1 e2
          go_simp
          exact HK.out _ _ ⟨_, _, _, _, _, _, _, _, _, _, _, _, _, _, rfl, ⟨HP.out.1, HP.out.2.1, HP.out.2.2.1, fun _ => rfl, HP.out.2.2.2.2⟩, HX.out⟩
      · obtain rfl := HP.out.1 (HDEP.out { on := 0, ground := Ground.data } (by simp) rfl)
        obtain rfl := HP.out.2.2.2.1 (HDEP.out { on := 3, ground := Ground.data } (by simp) rfl)
        have hls := HL6.out.below HX.out.bel
        have HLS := Lib.hid hls
        clear hls
        go_simp
        refine (HI1.out _ (HS6.out.below HX.out.bel) (HQ6.out.below HX.out.bel) HLS.out (HT6.out.below HX.out.bel) (HM6.out.below HX.out.bel)).mono ?_
        rintro e w9 ⟨X9, k9, Y9, j9, U9, u9, rfl, hp9, hq9, hu9, hap9, hb9⟩
        go_simp
        exact HK.out _ _ ⟨_, _, _, _, _, _, _, _, _, _, _, _, _, _, rfl, ⟨HP.out.1, HP.out.2.1, HP.out.2.2.1, HP.out.2.2.2.1, fun e => absurd (HX.out.c1 (HP.out.2.2.2.2 e).2).2 (by rw [HD.out]; simp)⟩, HX.out.call HD.out hb9 hp9 hq9 hap9 (show AnsV W.heap.size w9 (.inr f1) (.slice U9 f1.length u9) from hu9)⟩
      · have h5 := (HDEP.out { on := 4, ground := Ground.data } (by simp) rfl)
        obtain rfl := HX.out.cC h5
        go_simp
        exact HK.out _ _ ⟨_, _, _, _, _, _, _, _, _, _, _, _, _, _, rfl, HP.out, HX.out.move h5⟩
      · obtain ⟨rfl, h5⟩ := HX.out.cM (HDEP.out { on := 5, ground := Ground.data } (by simp) rfl)
        go_simp
        exact HK.out _ _ ⟨_, _, _, _, _, _, _, _, _, _, _, _, _, _, rfl, HP.out, HX.out.ext0 h5⟩
      · obtain ⟨rfl, h5⟩ := HX.out.cM (HDEP.out { on := 5, ground := Ground.data } (by simp) rfl)
        go_simp
        exact HK.out _ _ ⟨_, _, _, _, _, _, _, _, _, _, _, _, _, _, rfl, ⟨HP.out.1, HP.out.2.1, HP.out.2.2.1, HP.out.2.2.2.1, fun e => ⟨(HP.out.2.2.2.2 e).1, rfl⟩⟩, HX.out.ext1 h5⟩
      · go_simp
        exact HK.out _ _ ⟨_, _, _, _, _, _, _, _, _, _, _, _, _, _, rfl, HP.out, HX.out.box HD.out⟩
      · obtain ⟨rfl, h5⟩ := HX.out.c0 (HDEP.out { on := 6, ground := Ground.data } (by simp) rfl)
        have h9 := (HDEP.out { on := 8, ground := Ground.data } (by simp) rfl)
        obtain ⟨rfl, _⟩ := HX.out.cA h9
        obtain ⟨X3, k3, e3, _⟩ := (HX.out.pC h5).sl
        obtain ⟨Y3, j3, e4, _⟩ := (HX.out.qC h5).sl
        subst e3 e4
        obtain ⟨⟨x0, x1, x2⟩, xf, _⟩ := HX.out.bx h9 HD.out
        go_simp
        exact HK.out _ _ ⟨_, _, _, _, _, _, _, _, _, _, _, _, _, _, rfl, HP.out, HX.out.store HD.out h5 h9⟩
      · obtain ⟨rfl, h5⟩ := HX.out.c1 (HDEP.out { on := 7, ground := Ground.data } (by simp) rfl)
        go_simp
        exact HK.out _ _ ⟨_, _, _, _, _, _, _, _, _, _, _, _, _, _, rfl, ⟨HP.out.1, HP.out.2.1, HP.out.2.2.1, HP.out.2.2.2.1, fun _ => ⟨rfl, (HDEP.out { on := 7, ground := Ground.data } (by simp) rfl)⟩⟩, HX.out⟩
    · intro d a w7 hd hJ
      obtain ⟨v10, v11, v66, v67, v68, v69, v70, v71, v72, v73, P3, Q3, V3, bP, rfl, hp, hx⟩ := hJ
      have h5 := hd 4 (by decide)
      obtain ⟨rfl, _⟩ := hp.2.2.2.2 (hd 10 (by decide))
      obtain ⟨rfl, hb8⟩ := hx.cA (hd 8 (by decide))
      have hbs := hx.bs (hd 9 (by decide))
      have hp3 := hx.pC h5
      have hq3 := hx.qC h5
      have hap3 := hx.ap h5
      have hvo3 := hx.vO h5
      have hbel3 := hx.bel
      clear hp hx
      have hvo : Own w7 w6.heap.size 9 1 encS v11 f1 := hvo3
      obtain ⟨X5, k5, e3, _⟩ := hp3.sl
      obtain ⟨Y5, j5, e4, _⟩ := hq3.sl
      obtain ⟨F1, c1, e5, _⟩ := hvo.sl
      subst e3 e4 e5
      have HRP := Lib.hid hbs
      have HRX7 := Lib.hid (HRX.out.below hbel3)
      have HP7 := Lib.hid hp3
      have HQ7 := Lib.hid hq3
      have HF7 := Lib.hid hvo
      have HT7 := Lib.hid (HT6.out.below hbel3)
      have HM7 := Lib.hid (HM6.out.below hbel3)
      have HP6b := Lib.hid (HP6.out.below hbel3)
      have HV6b := Lib.hid (HV6.out.below hbel3)
      have HU6b := Lib.hid (HU6.out.below hbel3)
      have HB67 := Lib.hid hbel3
      have HB7 := Lib.hid (Below_then HB6.out hbel3 (Nat.le_refl _))
      clear hp3 hq3 hap3 hvo3 hvo hbel3 hbs hd a0 a1 a2
      go_wp2_with fail
      refine wp_region_inv (by kernel_rfl) (by kernel_rfl) (fun a0 d a W => ∃ (v12 v13 v74 v75 v76 v77 v78 v79 v80 v81 P3 Q3 V3 : Value) (b8 : Nat), a = ⟨#[.slice A n c, undef, .bool false, .pointer (some ⟨w1.heap.size, 0, none⟩), .slice LA ls.length lc, .pointer (some ⟨w2.heap.size, 0, none⟩), .slice U2 ans.length u2, .pointer (some ⟨w3.heap.size, 0, none⟩), .slice U3 ans.length u3, .int .i64 (hh2 : Int), .pointer (some ⟨bP, 0, none⟩), .slice F1 f1.length c1, v12, v13, .slice A n c, .int .i64 (n : Int), .bool (decide (1048576 < (n : Int))), .tuple #[.agg #[.slice X l.length k, .int .i64 x, .slice Y m.length j], .slice LA ls.length lc], .slice A n c, .tuple #[.agg #[.slice X l.length k, .int .i64 x, .slice Y m.length j], .slice LA ls.length lc], .agg #[.slice X l.length k, .int .i64 x, .slice Y m.length j], .slice LA ls.length lc, .tuple #[.agg #[.slice X2 l6.length k2, .int .i64 x6, .slice Y2 m6.length j2], .slice U2 ans.length u2], .agg #[.slice X l.length k, .int .i64 x, .slice Y m.length j], .slice LA ls.length lc, .tuple #[.agg #[.slice X2 l6.length k2, .int .i64 x6, .slice Y2 m6.length j2], .slice U2 ans.length u2], .agg #[.slice X2 l6.length k2, .int .i64 x6, .slice Y2 m6.length j2], .slice U2 ans.length u2, .tuple #[.agg #[.slice X3 l6.length k3, .int .i64 x6, .slice Y3 m6.length j3], .slice U3 ans.length u3], .agg #[.slice X l.length k, .int .i64 x, .slice Y m.length j], .slice LA ls.length lc, .tuple #[.agg #[.slice X3 l6.length k3, .int .i64 x6, .slice Y3 m6.length j3], .slice U3 ans.length u3], .agg #[.slice X3 l6.length k3, .int .i64 x6, .slice Y3 m6.length j3], .slice U3 ans.length u3, .agg #[.slice X2 l6.length k2, .int .i64 x6, .slice Y2 m6.length j2], .agg #[.slice X3 l6.length k3, .int .i64 x6, .slice Y3 m6.length j3], .bool true, .bool false, .bool false, .slice U2 ans.length u2, .slice U3 ans.length u3, .bool true, .bool false, .bool false, .agg #[.slice X l.length k, .int .i64 x, .slice Y m.length j], .bool true, .bool false, .bool false, .slice LA ls.length lc, .int .i64 (ls.length : Int), .bool (decide (12 < (ls.length : Int))), .bool (decide (12 < (ls.length : Int))), undef, undef, undef, undef, undef, undef, undef, undef, undef, undef, undef, .slice LA ls.length lc, .int .i64 (ls.length : Int), .int .i64 (hh2 : Int), v66, v67, v68, v69, v70, v71, v72, v73, v74, v75, v76, v77, v78, v79, v80, v81, undef, undef, undef, undef, undef, undef, undef, undef, undef, undef, undef, undef], []⟩ ∧ ((d 0 = true → v75 = .agg #[.slice X5 l5.length k5, .int .i64 x5, .slice Y5 m5.length j5]) ∧ (d 1 = true → v76 = .slice LA ls.length lc) ∧ (d 2 = true → v77 = .int .i64 (hh2 : Int)) ∧ (d 3 = true → v78 = .slice LA2 (ls.length - hh2) (lc - hh2)) ∧ (d 10 = true → v13 = V3 ∧ d 7 = true)) ∧ BxC w7 l6 x6 m6 (.inr f2) (d 4) (d 5) (d 6) (d 7) (d 8) (d 9) v79 v74 v80 v81 v12 P3 Q3 V3 b8 W) ?_ ?_ ?_
      · exact ⟨_, _, _, _, _, _, _, _, _, _, .slice none 0 0, .slice none 0 0, .slice none 0 0, 0, rfl, ⟨nofun, nofun, nofun, nofun, nofun⟩, BxC.start⟩
      · refine ⟨?_, ?_, ?_, ?_, ?_, ?_, ?_, ?_, ?_, ?_, ?_, trivial⟩
        all_goals
          intro d a W K hd hdep hJ hK
          obtain ⟨v12, v13, v74, v75, v76, v77, v78, v79, v80, v81, P3, Q3, V3, b8, rfl, hp, hx⟩ := hJ
          have HP := Lib.hid hp
          have HX := Lib.hid hx
          have HK := Lib.hid hK
          have HD := Lib.hid hd
          have HDEP := Lib.hid hdep
          clear hp hx hK hd hdep
        · obtain ⟨⟨a0, a1, a2⟩, _, _⟩ := HRP.out.below HX.out.bel
          go_simp
          exact HK.out _ _ ⟨_, _, _, _, _, _, _, _, _, _, _, _, _, _, rfl, ⟨fun _ => rfl, HP.out.2⟩, HX.out⟩
        · go_simp
          exact HK.out _ _ ⟨_, _, _, _, _, _, _, _, _, _, _, _, _, _, rfl, ⟨HP.out.1, fun _ => rfl, HP.out.2.2⟩, HX.out⟩
        · go_simp
          exact HK.out _ _ ⟨_, _, _, _, _, _, _, _, _, _, _, _, _, _, rfl, ⟨HP.out.1, HP.out.2.1, fun _ => rfl, HP.out.2.2.2⟩, HX.out⟩
        · obtain rfl := HP.out.2.1 (HDEP.out { on := 1, ground := Ground.data } (by simp) rfl)
          obtain rfl := HP.out.2.2.1 (HDEP.out { on := 2, ground := Ground.data } (by simp) rfl)
          rcases HLA2.out with ⟨e1, e2, -, -⟩ | ⟨b, o, e1, e2⟩
          · subst e1 e2
            go_simp
            exact HK.out _ _ ⟨_, _, _, _, _, _, _, _, _, _, _, _, _, _, rfl, ⟨HP.out.1, HP.out.2.1, HP.out.2.2.1, fun _ => rfl, HP.out.2.2.2.2⟩, HX.out⟩
          · subst e1 e2
            go_simp
            exact HK.out _ _ ⟨_, _, _, _, _, _, _, _, _, _, _, _, _, _, rfl, ⟨HP.out.1, HP.out.2.1, HP.out.2.2.1, fun _ => rfl, HP.out.2.2.2.2⟩, HX.out⟩
        · obtain rfl := HP.out.1 (HDEP.out { on := 0, ground := Ground.data } (by simp) rfl)
          obtain rfl := HP.out.2.2.2.1 (HDEP.out { on := 3, ground := Ground.data } (by simp) rfl)
          have hls := HL6.out.below (Below_then HB67.out HX.out.bel (Nat.le_refl _))
          have HLS := Lib.hid hls
          clear hls
          go_simp
          refine (HI2.out _ _ _ _ _ HP7.out.cz HQ7.out.cz (HP7.out.sl'.below HX.out.bel) (HQ7.out.sl'.below HX.out.bel) HLS.out (HT7.out.below HX.out.bel) (HM7.out.below HX.out.bel)).mono ?_
          rintro e w9 ⟨X9, k9, Y9, j9, U9, u9, rfl, hp9, hq9, hu9, hap9, hb9⟩
          go_simp
          exact HK.out _ _ ⟨_, _, _, _, _, _, _, _, _, _, _, _, _, _, rfl, ⟨HP.out.1, HP.out.2.1, HP.out.2.2.1, HP.out.2.2.2.1, fun e => absurd (HX.out.c1 (HP.out.2.2.2.2 e).2).2 (by rw [HD.out]; simp)⟩, HX.out.call HD.out hb9 hp9 hq9 hap9 (show AnsV W.heap.size w9 (.inr f2) (.slice U9 f2.length u9) from hu9)⟩
        · have h5 := (HDEP.out { on := 4, ground := Ground.data } (by simp) rfl)
          obtain rfl := HX.out.cC h5
          go_simp
          exact HK.out _ _ ⟨_, _, _, _, _, _, _, _, _, _, _, _, _, _, rfl, HP.out, HX.out.move h5⟩
        · obtain ⟨rfl, h5⟩ := HX.out.cM (HDEP.out { on := 5, ground := Ground.data } (by simp) rfl)
          go_simp
          exact HK.out _ _ ⟨_, _, _, _, _, _, _, _, _, _, _, _, _, _, rfl, HP.out, HX.out.ext0 h5⟩
        · obtain ⟨rfl, h5⟩ := HX.out.cM (HDEP.out { on := 5, ground := Ground.data } (by simp) rfl)
          go_simp
          exact HK.out _ _ ⟨_, _, _, _, _, _, _, _, _, _, _, _, _, _, rfl, ⟨HP.out.1, HP.out.2.1, HP.out.2.2.1, HP.out.2.2.2.1, fun e => ⟨(HP.out.2.2.2.2 e).1, rfl⟩⟩, HX.out.ext1 h5⟩
        · go_simp
          exact HK.out _ _ ⟨_, _, _, _, _, _, _, _, _, _, _, _, _, _, rfl, HP.out, HX.out.box HD.out⟩
        · obtain ⟨rfl, h5⟩ := HX.out.c0 (HDEP.out { on := 6, ground := Ground.data } (by simp) rfl)
          have h9 := (HDEP.out { on := 8, ground := Ground.data } (by simp) rfl)
          obtain ⟨rfl, _⟩ := HX.out.cA h9
          obtain ⟨X3, k3, e3, _⟩ := (HX.out.pC h5).sl
          obtain ⟨Y3, j3, e4, _⟩ := (HX.out.qC h5).sl
          subst e3 e4
          obtain ⟨⟨x0, x1, x2⟩, xf, _⟩ := HX.out.bx h9 HD.out
          go_simp
          exact HK.out _ _ ⟨_, _, _, _, _, _, _, _, _, _, _, _, _, _, rfl, HP.out, HX.out.store HD.out h5 h9⟩
        · obtain ⟨rfl, h5⟩ := HX.out.c1 (HDEP.out { on := 7, ground := Ground.data } (by simp) rfl)
          go_simp
          exact HK.out _ _ ⟨_, _, _, _, _, _, _, _, _, _, _, _, _, _, rfl, ⟨HP.out.1, HP.out.2.1, HP.out.2.2.1, HP.out.2.2.2.1, fun _ => ⟨rfl, (HDEP.out { on := 7, ground := Ground.data } (by simp) rfl)⟩⟩, HX.out⟩
      · intro d a w8 hd hJ
        obtain ⟨v12, v13, v74, v75, v76, v77, v78, v79, v80, v81, P3, Q3, V3, bQ, rfl, hp, hx⟩ := hJ
        have h5 := hd 4 (by decide)
        obtain ⟨rfl, _⟩ := hp.2.2.2.2 (hd 10 (by decide))
        obtain ⟨rfl, hb8⟩ := hx.cA (hd 8 (by decide))
        have hbs := hx.bs (hd 9 (by decide))
        have hp3 := hx.pC h5
        have hq3 := hx.qC h5
        have hap3 := hx.ap h5
        have hvo3 := hx.vO h5
        have hbel3 := hx.bel
        clear hp hx
        have hvo : Own w8 w7.heap.size 9 1 encS v13 f2 := hvo3
        obtain ⟨X6, k6, e3, _⟩ := hp3.sl
        obtain ⟨Y6, j6, e4, _⟩ := hq3.sl
        obtain ⟨F2, c2, e5, _⟩ := hvo.sl
        subst e3 e4 e5
        have HRX8 := Lib.hid (HRX7.out.below hbel3)
        have HP8 := Lib.hid (HP6b.out.below hbel3)
        have HV8 := Lib.hid (HV6b.out.below hbel3)
        have HU8 := Lib.hid (HU6b.out.below hbel3)
        have HF1 := Lib.hid (HF7.out.below hbel3)
        have HF2 := Lib.hid hvo
        have HQP := Lib.hid hp3.sl'
        have HQV := Lib.hid hq3.sl'
        have HB8 := Lib.hid (Below_then HB7.out hbel3 (Nat.le_refl _))
        obtain ⟨⟨z0, z1, z2⟩, _, _⟩ := hbs
        obtain ⟨⟨x0, x1, x2'⟩, _, _⟩ := HRX8.out
        clear hp3 hq3 hap3 hvo3 hvo hbel3 hd
        go_wp2_with fail
        refine (HSA.out X6 Y6 X2 Y2 k6 j6 k2 j2 _ HQP.out HP8.out HQV.out HV8.out).mono ?_
        rintro e w9 ⟨rfl, hb9⟩
        have HB9 := Lib.hid (Below_then HB8.out hb9 (Nat.le_refl _))
        have HF19 := Lib.hid ((HF1.out.below hb9).alloc (.cells #[] 9))
        have HF29 := Lib.hid ((HF2.out.below hb9).alloc (.cells #[] 9))
        have HU9 := Lib.hid (HU8.out.below hb9)
        have HF2b := Lib.hid (HF2.out.below hb9)
        have HN9 := Lib.hid (Own.made (w := w9) (base := w9.heap.size) (enc := encS) (size := 1) (E := 9) (Nat.le_refl _))
        have HBA := Lib.hid ((Below.refl w9.heap.size w9).alloc (Nat.le_refl _) (.cells #[] 9))
        clear hb9
        go_wp2_with (first
          | (at_builtin; refine app_strH (w0 := w9) (l := f1) (m := f2) rfl rfl HW10.out HB10.out (by omega) (HF210.out.sl') HF210.out.cz rfl rfl ?_; intro v11 w11 hown11 hb11 hg11; rw [HJOIN.out] at hown11; obtain ⟨V11, c11, e11, _⟩ := hown11.sl; subst e11; have HW11 := Lib.hid hown11; have HB11 := Lib.hid hb11; have HU11 := Lib.hid (HU9.out.below hb11); clear hown11 hb11 hg11)
          | (at_builtin; refine app_strH (w0 := w9) (l := []) (m := f1) rfl rfl HN9.out HBA.out (by rw [List.length_nil]; omega) (HF19.out.sl') HF19.out.cz rfl rfl ?_; intro v10 w10 hown10 hb10 hg10; rw [List.nil_append] at hown10; obtain ⟨V10, c10, e10, _⟩ := hown10.sl; subst e10; have HW10 := Lib.hid hown10; have HB10 := Lib.hid hb10; have HF210 := Lib.hid (HF29.out.grew hg10 (fun g h1 h2 => by have a1 := (HF2b.out.blk g h1).2; have h2 : some w9.heap.size = some g := h2; injection h2 with h2; omega)); clear hown10 hb10 hg10)
          | (go_at_call 26; refine (HST.out V11 U2 c11 u2 _ HW11.out.sl' HU11.out).mono ?_; rintro e w12 ⟨rfl, hd12⟩; have hb12 := hd12.below; have HB12 := Lib.hid (Below_then HB11.out hb12 (Nat.le_refl _)); clear hd12 hb12))
        go_ret
        exact ⟨rfl, Below_then HB9.out HB12.out (Nat.le_refl _)⟩
end Go.Proofs.YtkglfmgmmnfmbaaGreatDoor
