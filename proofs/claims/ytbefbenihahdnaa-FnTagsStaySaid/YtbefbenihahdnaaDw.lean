/- Drawn inputs: tags. -/
import Derived.Test.YtbefbenihahdnaaDv
set_option linter.unusedVariables false
namespace Go.Proofs.Ytbefbenihahdnaa
open Go.RowKit

theorem mkT_size (l : List Vr) (name : ByteArray) (n : Int) : (mkT l name n).1.size ≤ name.size := by
  unfold mkT
  cases hm : makeTag l name n with
  | none => exact Nat.zero_le _
  | some m => obtain ⟨k, hk, rfl, h1, h2, rfl⟩ := makeTag_some hm; exact Nat.le_refl _
/-- A block of four cells that may be written. -/
def Row4 (w : World) (b : Nat) (v0 v1 v2 v3 : Value) : Prop :=
  (w.cell? ⟨b, 0, none⟩ = some v0 ∧ w.cell? ⟨b, 1, none⟩ = some v1 ∧ w.cell? ⟨b, 2, none⟩ = some v2 ∧ w.cell? ⟨b, 3, none⟩ = some v3) ∧ (∀ o, w.frozen? ⟨b, o, none⟩ = false) ∧ b < w.heap.size
theorem Row4.new {w : World} {v0 v1 v2 v3 : Value} {E : TypeId} : Row4 (w.alloc (.cells #[v0, v1, v2, v3] E)) w.heap.size v0 v1 v2 v3 :=
  ⟨⟨new_cell rfl, new_cell rfl, new_cell rfl, new_cell rfl⟩, fun o => new_free o, by simp⟩
theorem Row4.only {w w' : World} {g b : Nat} {v0 v1 v2 v3 : Value} (h : Row4 w b v0 v1 v2 v3) (ho : Only g w w') (hb : b ≠ g) : Row4 w' b v0 v1 v2 v3 :=
  ⟨⟨ho.cell hb h.1.1, ho.cell hb h.1.2.1, ho.cell hb h.1.2.2.1, ho.cell hb h.1.2.2.2⟩, fun o => (ho.frozen hb h.2.2).trans (h.2.1 o), Nat.lt_of_lt_of_le h.2.2 ho.size⟩
theorem Row4.below {w w' : World} {b : Nat} {v0 v1 v2 v3 : Value} (h : Row4 w b v0 v1 v2 v3) (hb : Below w.heap.size w w') : Row4 w' b v0 v1 v2 v3 :=
  ⟨⟨Below_cells hb _ _ _ h.1.1, Below_cells hb _ _ _ h.1.2.1, Below_cells hb _ _ _ h.1.2.2.1, Below_cells hb _ _ _ h.1.2.2.2⟩, fun o => (World.frozen?_of_block (w := w) (hb.block b h.2.2)).trans (h.2.1 o), Nat.lt_of_lt_of_le h.2.2 hb.size⟩
def TgD (v : Value) : Prop := ∃ T : Tg, v = .agg #[.string T.1, .int .i64 T.2.1, .int .i64 T.2.2.1, .int .i64 T.2.2.2] ∧ T.1.size ≤ 60
set_option maxHeartbeats 4000000 in
set_option maxRecDepth 100000 in
theorem l20Tag_any (A : Option Addr) (c : Nat) (l : List Vr) (g p : Nat) (w : World) (hr : Rdr w g p) (hp : p ≤ 700000000) (hs : Sl w encV 3 A l) (hf : FewV 9 l) (hg : ∀ b o, A = some ⟨b, o, none⟩ → b ≠ g) :
    Calls Try.prog 158 #[.pointer (some ⟨g, 0, none⟩), .slice A l.length c] w (Drew TgD 10 w g p) := by
  have hgw := hr.lt
  have HR := Lib.hid hr
  have HS := Lib.hid hs
  have HG := Lib.hid hg
  have hl := hf.1
  have HF := Lib.hid hf.fit
  clear hr hs hg hf
  go_enter Try.func158, Try.ntmps158
  go_wp2_with fail
  refine (l20Word_any 0 _ _ _ (HR.out.alloc _) (by omega) (by omega)).mono ?_
  rintro e w1 ⟨v1, p1, rfl, ⟨t, rfl, ht⟩, ho1, hr1, hp1⟩
  have HR1 := Lib.hid hr1
  have HX1 := Lib.hid (Row4.new.only ho1 (by omega))
  have HO1 := Lib.hid ((Only.of_below ((Below.refl _ _).alloc (Nat.le_refl w.heap.size) _)).trans ho1)
  have HS1 := Lib.hid ((HS.out.alloc _).only ho1 (fun _ => HG.out))
  clear hr1 ho1
  have hwr : IntKind.i64.wrap ((l.length : Int) + 1) = (l.length : Int) + 1 := IntWalk.i64_in _ (by omega)
  go_wp2_with fail
  refine (pick_any ((l.length : Int) + 1) _ _ _ HR1.out (by omega) (by omega)).mono ?_
  rintro e w2 ⟨a, rfl, ha, ho2, hr2⟩
  have HR2 := Lib.hid hr2
  have HX2 := Lib.hid (HX1.out.only ho2 (by omega))
  have HO2 := Lib.hid (HO1.out.trans ho2)
  have HS2 := Lib.hid (HS1.out.only ho2 (fun _ => HG.out))
  clear hr2 ho2 ha
  have hM := fun w h => sMakeTag_any A c l t a w h (by omega) HF.out (by omega)
  unfold MkR at hM
  have hsz := mkT_size l t a
  generalize mkT l t a = T at *
  generalize mkOk l t a = B at *
  have HM := Lib.hid hM
  clear hM
  go_wp2_with fail
  refine (HM.out _ HS2.out).mono ?_
  rintro e w3 ⟨rfl, hb3⟩
  have HR3 := Lib.hid (HR2.out.under HR2.out.lt hb3)
  have HX3 := Lib.hid (HX2.out.below hb3)
  have HO3 := Lib.hid (HO2.out.and_below (hb3.mono HO2.out.size))
  have hz3 : w.heap.size < w3.heap.size := HX3.out.2.2
  clear hb3
  go_wp2_with fail
  refine (pick_any _ _ _ _ (HR3.out.alloc _) (by omega) (by omega)).mono ?_
  rintro e w4 ⟨x, rfl, hx, ho4, hr4⟩
  have HR4 := Lib.hid hr4
  have HX4 := Lib.hid ((HX3.out.below ((Below.refl _ _).alloc (Nat.le_refl _) _)).only ho4 (by omega))
  have HY4 := Lib.hid (Row4.new.only ho4 (by have := HR3.out.lt; omega))
  have HO4 := Lib.hid (HO3.out.trans ((Only.of_below ((Below.refl _ _).alloc (Nat.le_refl w3.heap.size) _)).trans ho4))
  have hz4 : w3.heap.size < w4.heap.size := HY4.out.2.2
  clear hr4 ho4
  obtain ⟨⟨x0, x1, x2, x3⟩, xf, _⟩ := HX4.out
  obtain ⟨⟨y0, y1, y2, y3⟩, yf, _⟩ := HY4.out
  have hgw3 : g < w3.heap.size := Nat.lt_trans hgw hz3
  have hle3 : w.heap.size ≤ w3.heap.size := Nat.le_of_lt hz3
  have hx8 : x = 0 ∨ x = 1 ∨ x = 2 ∨ x = 3 ∨ x = 4 ∨ x = 5 ∨ x = 6 ∨ x = 7 := by omega
  clear hx
  rcases hx8 with rfl | rfl | rfl | rfl | rfl | rfl | rfl | rfl
  · go_wp2
    refine bodyPost_ret (v := .agg #[.string (ByteArray.mk #[111, 116, 104, 101, 114]), .int .i64 T.2.1, .int .i64 T.2.2.1, .int .i64 T.2.2.2]) (by simp [results, Try.results158, go_sem, x0, x1, x2, x3]) rfl ⟨_, _, rfl, ⟨((ByteArray.mk #[111, 116, 104, 101, 114]), T.2.1, T.2.2.1, T.2.2.2), rfl, (by show (5 : Nat) ≤ 60; omega)⟩, (((((HO4.out.setNew hle3 _).setNew (Nat.le_refl _) _).setNew (Nat.le_refl _) _).setNew (Nat.le_refl _) _).setNew (Nat.le_refl _) _), (((((HR4.out.setNew hgw3 _).setNew hgw _).setNew hgw _).setNew hgw _).setNew hgw _), by omega⟩
  · go_wp2
    refine bodyPost_ret (v := .agg #[.string T.1, .int .i64 (wrap64 (T.2.1 + 1)), .int .i64 T.2.2.1, .int .i64 T.2.2.2]) (by simp [results, Try.results158, go_sem, x0, x1, x2, x3]) rfl ⟨_, _, rfl, ⟨(T.1, (wrap64 (T.2.1 + 1)), T.2.2.1, T.2.2.2), rfl, (by show T.1.size ≤ 60; omega)⟩, (((((HO4.out.setNew hle3 _).setNew (Nat.le_refl _) _).setNew (Nat.le_refl _) _).setNew (Nat.le_refl _) _).setNew (Nat.le_refl _) _), (((((HR4.out.setNew hgw3 _).setNew hgw _).setNew hgw _).setNew hgw _).setNew hgw _), by omega⟩
  · go_wp2
    refine bodyPost_ret (v := .agg #[.string T.1, .int .i64 T.2.1, .int .i64 5, .int .i64 T.2.2.2]) (by simp [results, Try.results158, go_sem, x0, x1, x2, x3]) rfl ⟨_, _, rfl, ⟨(T.1, T.2.1, 5, T.2.2.2), rfl, (by show T.1.size ≤ 60; omega)⟩, (((((HO4.out.setNew hle3 _).setNew (Nat.le_refl _) _).setNew (Nat.le_refl _) _).setNew (Nat.le_refl _) _).setNew (Nat.le_refl _) _), (((((HR4.out.setNew hgw3 _).setNew hgw _).setNew hgw _).setNew hgw _).setNew hgw _), by omega⟩
  · go_wp2
    refine bodyPost_ret (v := .agg #[.string T.1, .int .i64 T.2.1, .int .i64 T.2.2.1, .int .i64 (wrap64 (T.2.2.2 + 1))]) (by simp [results, Try.results158, go_sem, x0, x1, x2, x3]) rfl ⟨_, _, rfl, ⟨(T.1, T.2.1, T.2.2.1, (wrap64 (T.2.2.2 + 1))), rfl, (by show T.1.size ≤ 60; omega)⟩, (((((HO4.out.setNew hle3 _).setNew (Nat.le_refl _) _).setNew (Nat.le_refl _) _).setNew (Nat.le_refl _) _).setNew (Nat.le_refl _) _), (((((HR4.out.setNew hgw3 _).setNew hgw _).setNew hgw _).setNew hgw _).setNew hgw _), by omega⟩
  · go_wp2
    refine bodyPost_ret (v := .agg #[.string T.1, .int .i64 T.2.1, .int .i64 T.2.2.1, .int .i64 T.2.2.2]) (by simp [results, Try.results158, go_sem, x0, x1, x2, x3]) rfl ⟨_, _, rfl, ⟨(T.1, T.2.1, T.2.2.1, T.2.2.2), rfl, (by show T.1.size ≤ 60; omega)⟩, ((((HO4.out.setNew (Nat.le_refl _) _).setNew (Nat.le_refl _) _).setNew (Nat.le_refl _) _).setNew (Nat.le_refl _) _), ((((HR4.out.setNew hgw _).setNew hgw _).setNew hgw _).setNew hgw _), by omega⟩
  · go_wp2
    refine bodyPost_ret (v := .agg #[.string T.1, .int .i64 T.2.1, .int .i64 T.2.2.1, .int .i64 T.2.2.2]) (by simp [results, Try.results158, go_sem, x0, x1, x2, x3]) rfl ⟨_, _, rfl, ⟨(T.1, T.2.1, T.2.2.1, T.2.2.2), rfl, (by show T.1.size ≤ 60; omega)⟩, ((((HO4.out.setNew (Nat.le_refl _) _).setNew (Nat.le_refl _) _).setNew (Nat.le_refl _) _).setNew (Nat.le_refl _) _), ((((HR4.out.setNew hgw _).setNew hgw _).setNew hgw _).setNew hgw _), by omega⟩
  · go_wp2
    refine bodyPost_ret (v := .agg #[.string T.1, .int .i64 T.2.1, .int .i64 T.2.2.1, .int .i64 T.2.2.2]) (by simp [results, Try.results158, go_sem, x0, x1, x2, x3]) rfl ⟨_, _, rfl, ⟨(T.1, T.2.1, T.2.2.1, T.2.2.2), rfl, (by show T.1.size ≤ 60; omega)⟩, ((((HO4.out.setNew (Nat.le_refl _) _).setNew (Nat.le_refl _) _).setNew (Nat.le_refl _) _).setNew (Nat.le_refl _) _), ((((HR4.out.setNew hgw _).setNew hgw _).setNew hgw _).setNew hgw _), by omega⟩
  · go_wp2
    refine bodyPost_ret (v := .agg #[.string T.1, .int .i64 T.2.1, .int .i64 T.2.2.1, .int .i64 T.2.2.2]) (by simp [results, Try.results158, go_sem, x0, x1, x2, x3]) rfl ⟨_, _, rfl, ⟨(T.1, T.2.1, T.2.2.1, T.2.2.2), rfl, (by show T.1.size ≤ 60; omega)⟩, ((((HO4.out.setNew (Nat.le_refl _) _).setNew (Nat.le_refl _) _).setNew (Nat.le_refl _) _).setNew (Nat.le_refl _) _), ((((HR4.out.setNew hgw _).setNew hgw _).setNew hgw _).setNew hgw _), by omega⟩
theorem Own.setLow {α : Type} {enc : α → List Value} {w : World} {base size : Nat} {E : TypeId} {v : Value} {l : List α} (h : Own w base E size enc v l) {p : Addr} (hp : p.block < base) (u : Value) : Own (w.setCell p u) base E size enc v l :=
  h.only (g := p.block) ⟨rfl, rfl, rfl, by simp [World.setCell], fun k hk hne => Below.heap_setCell _ _ _ _ (by rintro rfl; exact hne rfl)⟩ hp
def DrawnTg (w : World) (e : Ending) (w' : World) : Prop :=
  ∃ (v : Value) (l : List Vr) (T : Tg), e = .returned (.tuple #[v, tgV T]) ∧ Own w' w.heap.size 82 3 encV v l ∧ FewV 9 l ∧ T.1.size ≤ 60 ∧ Below w.heap.size w w'
set_option maxHeartbeats 2000000 in
set_option maxRecDepth 100000 in
theorem DrawTagRight_any (A : Option Addr) (n c : Nat) (w : World) (hb : BytesIn w A n c) :
    Calls Try.prog 97 #[.slice A n c] w (DrawnTg w) := by
  obtain ⟨l0, rfl, hnc, hm, hs⟩ := hb
  have HB := Lib.hid (show BytesIn (w.alloc (.cells #[.string ⟨#[]⟩, .int .i64 0, .int .i64 0, .int .i64 0] 77)) A l0.length c from ⟨l0, rfl, hnc, hm, hs.alloc _⟩)
  clear hnc hm hs
  go_enter Try.func97, Try.ntmps97
  go_wp2_with fail
  refine (l20Open_any _ _ _ _ HB.out).mono ?_
  rintro e w1 ⟨rfl, hb1, hr1, hz1⟩
  have hsz : ∀ o, (w.alloc o).heap.size = w.heap.size + 1 := fun o => by simp
  have HX1 := Lib.hid (Row4.new.below hb1)
  rw [hsz] at hr1
  have HR1 := Lib.hid hr1
  have HB1 := Lib.hid (Below_of_alloc hb1)
  have hz0 : w.heap.size + 1 < w1.heap.size := hr1.lt
  clear hb1 hr1 hz1
  go_wp2_with fail
  refine (l20Versions_any _ _ _ _ HR1.out (by omega) (by omega)).mono ?_
  rintro e w2 ⟨v1, l, p2, rfl, hown, hf1, ho2, hr2, hp2⟩
  obtain ⟨X, d, rfl, _, hs2, hX⟩ := hown.sl
  have hg2 : ∀ b o, X = some ⟨b, o, none⟩ → b ≠ w.heap.size + 1 := by
    rintro b o rfl
    rcases hX with ⟨_, hX⟩ | ⟨g', hX, hX2, _⟩
    · cases hX
    · injection hX with hX; injection hX with hX; omega
  have HR2 := Lib.hid hr2
  have HX2 := Lib.hid (HX1.out.only ho2 (by omega))
  have HO2 := Lib.hid ho2
  have HW2 := Lib.hid hown
  have HS2 := Lib.hid hs2
  have HF1 := Lib.hid hf1
  have HG2 := Lib.hid hg2
  clear hr2 ho2 hown hf1 hX hs2 hg2
  go_wp2_with fail
  refine (l20Tag_any _ _ _ _ _ _ HR2.out (by omega) HS2.out HF1.out HG2.out).mono ?_
  rintro e w3 ⟨v3, p3, rfl, ⟨T, rfl, hT⟩, ho3, hr3, hp3⟩
  have HX3 := Lib.hid (HX2.out.only ho3 (by omega))
  have HB3 := Lib.hid (HB1.out.trans ((HO2.out.trans ho3).below (Nat.le_succ _) HB1.out.size))
  have HW3 := Lib.hid (HW2.out.only ho3 hz0)
  clear hr3 ho3
  obtain ⟨⟨x0, x1, x2, x3⟩, xf, _⟩ := HX3.out
  have hlt : w.heap.size < w1.heap.size := by omega
  go_wp2
  exact bodyPost_ret (v := .tuple #[.slice X l.length d, tgV T]) (by simp [results, Try.results97, go_sem, x0, x1, x2, x3]) rfl ⟨_, l, T, rfl, ((((HW3.out.setLow hlt _).setLow hlt _).setLow hlt _).setLow hlt _).mono (Nat.le_of_lt hlt), HF1.out, hT, (((HB3.out.setCell (Nat.le_refl _) _).setCell (Nat.le_refl _) _).setCell (Nat.le_refl _) _).setCell (Nat.le_refl _) _⟩
end Go.Proofs.Ytbefbenihahdnaa
