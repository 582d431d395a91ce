/- Texts in one: En, Be, Av, Ss, Ar, Ek, Open3. -/
import Derived.Test.YtkglfmgmmnfmbaaDoorGa6
import Derived.Test.YtkglfmgmmnfmbaaDoorGa2
import Derived.Test.YtkglfmgmmnfmbaaDoorGa5
import Derived.Shelf.Abstract
import Derived.Test.YtkglfmgmmnfmbaaDoorGa9
import Derived.Test.YtkglfmgmmnfmbaaDoorGa1
import Derived.Test.YtkglfmgmmnfmbaaDoorGa8
import Derived.Deep.RegionHeld3
import Derived.Test.YtkglfmgmmnfmbaaDoorGa3
import Derived.Test.YtkglfmgmmnfmbaaDoorGa4
import Derived.Maps.AppendAt
import Derived.Deep.Slices
import Derived.DataReads
/- Entries: the type's facts, slices.Clone, append of one. -/
set_option linter.unusedVariables false
namespace Go.Proofs.YtkglfmgmmnfmbaaDoor
open Go.RowKit
theorem en_info : (Tryd.prog.info? 91).map (fun i => (i.zero, i.size, i.bytes)) = some (some (.agg #[.string ⟨#[]⟩, .int .i64 0]), 2, 24) := by kernel_rfl
theorem oneE : ∀ y, ∀ u ∈ encE y, u.oneCell' = true := by intro y u hu; simp [encE] at hu; rcases hu with rfl | rfl <;> rfl
section
variable {ops : Array Oper} {rest : List Oper} {o : Oper} {a : Act} {Q : Exit → Act → World → Prop} {w0 wr : World} {v : Value}
theorem app_enN {l m : List En} {A : Option Addr} {c : Nat} {s x : Operand} (hgd : o.guard = none) (ho : o.op = .call { callee := .builtin .append, args := #[s, x], argTypes := #[41, 41] })
    (hown : Own wr w0.heap.size 91 2 encE v l) (hb : Below w0.heap.size w0 wr) (hn : l.length + m.length ≤ 33554432) (hsl : Sl wr encE 2 A m) (hcz : A = none → c = 0)
    (hs : a.eval s = v) (hx : a.eval x = .slice A m.length c)
    (h : ∀ v' w', Own w' w0.heap.size 91 2 encE v' (l ++ m) → Below w0.heap.size w0 w' → Grew v wr w' → wpList Tryd.prog ops Q rest (a.put o.dst v') w') : wpList Tryd.prog ops Q (o :: rest) a wr := by
  obtain ⟨i0, hi0, hz0, hz1, hz2⟩ := info_parts en_info
  exact wpList_appN Tryd.underlying41 hi0 hz0 hz1 hz2 rfl (by decide) (by decide) hgd s x ho hown hb (Nat.le_refl _) hb.size hn hsl hcz (fun _ => rfl) oneE hs hx h
theorem app_en {base : Nat} {l : List En} {y : En} {s x : Operand} (hgd : o.guard = none) (ho : o.op = .call { callee := .builtin .append, args := #[s, x], argTypes := #[41, 41] })
    (hs : a.eval s = v) (hx : a.eval x = .slice (some ⟨wr.heap.size, 0, none⟩) 1 1)
    (hown : Own wr base 91 2 encE v l) (hb : Below w0.heap.size w0 wr) (hB : w0.heap.size ≤ base) (hbase : base ≤ wr.heap.size) (hn : l.length ≤ 16777216)
    (h : ∀ v' w', Own w' base 91 2 encE v' (l ++ [y]) → Below w0.heap.size w0 w' → wpList Tryd.prog ops Q rest (a.put o.dst v') w') : wpList Tryd.prog ops Q (o :: rest) a (wr.alloc (.cells #[.string y.1, .int .i64 y.2] 91)) := by
  obtain ⟨i0, hi0, hz0, hz1, hz2⟩ := info_parts en_info
  exact wpList_app1 Tryd.underlying41 hi0 hz0 hz1 hz2 rfl (by decide) (by decide) hgd s x ho hs hx hown hb hB hbase hn y _ rfl rfl (oneE y) h
end
end Go.Proofs.YtkglfmgmmnfmbaaDoor

/- Where a name stands: cmp.Compare of texts, slices.BinarySearchFunc, findEntry, printNamed, walked. -/
set_option linter.unusedVariables false
namespace Go.Proofs.YtkglfmgmmnfmbaaDoor
open Go.RowKit

def FitE (l : List En) : Prop := ∀ p ∈ l, p.1.size ≤ 16777216
theorem less_tl (a b : ByteArray) : Op.bytesLess a.toList b.toList = lessB (tx a) (tx b) := by rw [ByteArray.toList_eq, ByteArray.toList_eq]
theorem eq_tl (a b : ByteArray) : (a.toList == b.toList) = (tx a == tx b) := by rw [ByteArray.toList_eq, ByteArray.toList_eq]
end Go.Proofs.YtkglfmgmmnfmbaaDoor

/- Versions: append, a copy, one more. -/
set_option linter.unusedVariables false
namespace Go.Proofs.YtkglfmgmmnfmbaaDoor
open Go.RowKit

theorem step_appN {P : Program} {α : Type} {enc : α → List Value} {ops : Array Oper} {o : Oper} {a : Act} {K : Act → World → Prop} {Q : Exit → Act → World → Prop} {E' : Prop} {w0 wr : World} {B base size bytes : Nat} {t E : TypeId} {i : TypeInfo} {z : Value} {v : Value} {l m : List α} {A : Option Addr} {c : Nat}
    (ht : P.underlying t = some (.slice E)) (hi : P.info? E = some i) (hz : i.zero = some z) (hsize : i.size = size) (hby : i.bytes = bytes) (hzs : z.cells.size = size) (hsz : 0 < size) (hb200 : bytes ≤ 256)
    (hgd : o.guard = none) (s x : Operand) (ho : o.op = .call { callee := .builtin .append, args := #[s, x], argTypes := #[t, t] })
    (hown : Own wr base E size enc v l) (hb : Below B w0 wr) (hB : B ≤ base) (hbase : base ≤ wr.heap.size) (hn : l.length + m.length ≤ 33554432)
    (hsl : Sl wr enc size A m) (hcz : A = none → c = 0) (hce : ∀ y, (enc y).length = size) (h1 : ∀ y, ∀ u ∈ enc y, u.oneCell' = true)
    (hs : a.eval s = v) (hx : a.eval x = .slice A m.length c)
    (h : ∀ v' w', Own w' base E size enc v' (l ++ m) → Below B w0 w' → Grew v wr w' → K (a.put o.dst v') w') :
    if Region.wanted o (yielded ops a.tmps) = true then Oper.wp P o a wr K Q else E' := by
  have hw : Region.wanted o (yielded ops a.tmps) = true := by simp [Region.wanted, hgd]
  rw [if_pos hw]
  cases A with
  | none =>
    have hm : m = [] := by
      cases m with
      | nil => rfl
      | cons y r => obtain ⟨b, o, e, _⟩ := hsl (by simp); cases e
    subst hm
    rw [hcz rfl] at hx
    have hrun := run_append_owned_none (P := P) (w := wr) base t o.type E i size ht hi v l.length (flat enc l) hown
    have hK := h v wr (by rw [List.append_nil]; exact hown) hb (Grew.refl _ _)
    simp at hx
    unfold Oper.wp
    simp [execOp, ho, resolve, invoke, builtin, hs, hx, hrun, Result.andThen]
    exact hK
  | some ad =>
    refine wp_append_own wr s x t ho base E i z size bytes ht hi hz hsize hby hzs hsz v l.length (flat enc l) hs hown ad m.length c (flat enc m) hx (flat_length hce m) ?_ ?_ ?_ ?_ hbase ?_
    · intro j u hu
      have hpos : 0 < m.length := by
        have hlt := (List.getElem?_eq_some_iff.1 hu).1
        rw [flat_length hce] at hlt
        cases m with
        | nil => simp at hlt
        | cons y r => simp
      obtain ⟨b, o', e, hc⟩ := hsl hpos
      injection e with e
      subst e
      have hadd : (⟨b, o', none⟩ : Addr).add j = ⟨b, o' + j, none⟩ := by unfold Addr.add; split <;> simp_all
      rw [hadd]; exact hc j u hu
    · intro u hu
      unfold flat at hu
      obtain ⟨y, _, hy⟩ := List.mem_flatMap.1 hu
      exact h1 y u hy
    · unfold maxLen; omega
    · have := Nat.mul_le_mul_left (l.length + m.length) hb200; omega
    · intro v' w' hown' hg _
      refine h v' w' ?_ (hb.grown hg (Nat.le_trans hB hbase) (fun k hk => Nat.le_trans hB (World.ownsRow.lt hown k hk).1)) hg
      show w'.ownsRow base E size v' (l ++ m).length (flat enc (l ++ m))
      rw [flat_append, List.length_append]; exact hown'
theorem Grew.cell {v u : Value} {w w' : World} (h : Grew v w w') {b o : Nat} (hv : v.ownBlock ≠ some b) (hc : w.cell? ⟨b, o, none⟩ = some u) : w'.cell? ⟨b, o, none⟩ = some u := by
  rw [World.cell?_of_block (w := w) (h.block b (World.block_lt_of_cell? w _ hc) (fun e => hv e.symm))]; exact hc
theorem cell_alloc {u : Value} {w : World} {x : Obj} {a : Addr} (hc : w.cell? a = some u) : (w.alloc x).cell? a = some u :=
  (World.cell?_alloc_lt w x a (World.block_lt_of_cell? w _ hc)).trans hc
theorem keep3 {w w' : World} {x : Nat} {v0 v1 v2 : Value} (hb : Below w.heap.size w w') (h : w.cell? ⟨x, 0, none⟩ = some v0 ∧ w.cell? ⟨x, 1, none⟩ = some v1 ∧ w.cell? ⟨x, 2, none⟩ = some v2) :
    w'.cell? ⟨x, 0, none⟩ = some v0 ∧ w'.cell? ⟨x, 1, none⟩ = some v1 ∧ w'.cell? ⟨x, 2, none⟩ = some v2 :=
  ⟨Below_cells hb _ _ _ h.1, Below_cells hb _ _ _ h.2.1, Below_cells hb _ _ _ h.2.2⟩
section
variable {ops : Array Oper} {rest : List Oper} {o : Oper} {a : Act} {K : Act → World → Prop} {Q : Exit → Act → World → Prop} {E' : Prop} {w0 wr : World} {v : Value}
theorem app_vrN {l m : List Vr} {A : Option Addr} {c : Nat} {s x : Operand} (hgd : o.guard = none) (ho : o.op = .call { callee := .builtin .append, args := #[s, x], argTypes := #[24, 24] })
    (hown : Own wr w0.heap.size 45 3 encV v l) (hb : Below w0.heap.size w0 wr) (hn : l.length + m.length ≤ 33554432) (hsl : Sl wr encV 3 A m) (hcz : A = none → c = 0)
    (hs : a.eval s = v) (hx : a.eval x = .slice A m.length c)
    (h : ∀ v' w', Own w' w0.heap.size 45 3 encV v' (l ++ m) → Below w0.heap.size w0 w' → Grew v wr w' → wpList Tryd.prog ops Q rest (a.put o.dst v') w') : wpList Tryd.prog ops Q (o :: rest) a wr := by
  obtain ⟨i0, hi0, hz0, hz1, hz2⟩ := info_parts encV_info
  exact wpList_appN Tryd.underlying24 hi0 hz0 hz1 hz2 rfl (by decide) (by decide) hgd s x ho hown hb (Nat.le_refl _) hb.size hn hsl hcz (fun _ => rfl) oneV hs hx h
theorem step_vrN {l m : List Vr} {A : Option Addr} {c : Nat} {s x : Operand} (hgd : o.guard = none) (ho : o.op = .call { callee := .builtin .append, args := #[s, x], argTypes := #[24, 24] })
    (hown : Own wr w0.heap.size 45 3 encV v l) (hb : Below w0.heap.size w0 wr) (hn : l.length + m.length ≤ 33554432) (hsl : Sl wr encV 3 A m) (hcz : A = none → c = 0)
    (hs : a.eval s = v) (hx : a.eval x = .slice A m.length c)
    (h : ∀ v' w', Own w' w0.heap.size 45 3 encV v' (l ++ m) → Below w0.heap.size w0 w' → Grew v wr w' → K (a.put o.dst v') w') : if Region.wanted o (yielded ops a.tmps) = true then Oper.wp Tryd.prog o a wr K Q else E' := by
  obtain ⟨i0, hi0, hz0, hz1, hz2⟩ := info_parts encV_info
  exact step_appN Tryd.underlying24 hi0 hz0 hz1 hz2 rfl (by decide) (by decide) hgd s x ho hown hb (Nat.le_refl _) hb.size hn hsl hcz (fun _ => rfl) oneV hs hx h
theorem step_vr {l : List Vr} {y : Vr} {g : Nat} {s x : Operand} (hgd : o.guard = none) (ho : o.op = .call { callee := .builtin .append, args := #[s, x], argTypes := #[24, 24] })
    (hown : Own wr w0.heap.size 45 3 encV v l) (hb : Below w0.heap.size w0 wr) (hn : l.length ≤ 16777216)
    (c0 : wr.cell? ⟨g, 0, none⟩ = some (.int .i64 y.1)) (c1 : wr.cell? ⟨g, 1, none⟩ = some (.int .i64 y.2.1)) (c2 : wr.cell? ⟨g, 2, none⟩ = some (.string y.2.2))
    (hs : a.eval s = v) (hx : a.eval x = .slice (some ⟨g, 0, none⟩) 1 1)
    (h : ∀ v' w', Own w' w0.heap.size 45 3 encV v' (l ++ [y]) → Below w0.heap.size w0 w' → K (a.put o.dst v') w') : if Region.wanted o (yielded ops a.tmps) = true then Oper.wp Tryd.prog o a wr K Q else E' := by
  obtain ⟨i0, hi0, hz0, hz1, hz2⟩ := info_parts encV_info
  exact step_app1 Tryd.underlying24 hi0 hz0 hz1 hz2 rfl (by decide) (by decide) hgd s x ho hs hx hown hb (Nat.le_refl _) hb.size hn y (by
    intro j u hu
    have hj : j < 3 := by have := (List.getElem?_eq_some_iff.1 hu).1; simp [encV] at this; omega
    match j, hj with
    | 0, _ => simp [encV] at hu; rw [← hu]; exact c0
    | 1, _ => simp [encV] at hu; rw [← hu]; exact c1
    | 2, _ => simp [encV] at hu; rw [← hu]; exact c2) rfl (oneV y) h
end
/-! ### 'append(append([]Version{}, l...), y)' in whatever order -/
abbrev rowV (y : Vr) : Obj := .cells #[.int .i64 y.1, .int .i64 y.2.1, .string y.2.2] 45
abbrev madeV : Obj := .cells #[] 45
def RowAt (w : World) (g : Nat) (y : Vr) : Prop := w.cell? ⟨g, 0, none⟩ = some (.int .i64 y.1) ∧ w.cell? ⟨g, 1, none⟩ = some (.int .i64 y.2.1) ∧ w.cell? ⟨g, 2, none⟩ = some (.string y.2.2)
theorem RowAt.new (w : World) (y : Vr) : RowAt (w.alloc (rowV y)) w.heap.size y := ⟨new_cell rfl, new_cell rfl, new_cell rfl⟩
theorem RowAt.alloc {w : World} {g : Nat} {y : Vr} (h : RowAt w g y) (x : Obj) : RowAt (w.alloc x) g y := ⟨cell_alloc h.1, cell_alloc h.2.1, cell_alloc h.2.2⟩
theorem RowAt.grew {w w' : World} {g : Nat} {y : Vr} {v : Value} (h : RowAt w g y) (hg : Grew v w w') (hv : v.ownBlock ≠ some g) : RowAt w' g y := ⟨hg.cell hv h.1, hg.cell hv h.2.1, hg.cell hv h.2.2⟩
section
variable {ops : Array Oper} {o : Oper} {a : Act} {K : Act → World → Prop} {Q : Exit → Act → World → Prop} {E' : Prop} {w1 : World} {l : List Vr} {A : Option Addr} {c : Nat} {y : Vr} {s x : Operand}
theorem step_vr_a (hsl : Sl w1 encV 3 A l) (hcz : A = none → c = 0) (hl : l.length ≤ 16777216) (hgd : o.guard = none) (ho : o.op = .call { callee := .builtin .append, args := #[s, x], argTypes := #[24, 24] })
    (hs : a.eval s = .slice (some ⟨w1.heap.size, 0, none⟩) 0 0) (hx : a.eval x = .slice A l.length c)
    (h : ∀ v' w', Own w' w1.heap.size 45 3 encV v' l → Below w1.heap.size w1 w' → K (a.put o.dst v') w') : if Region.wanted o (yielded ops a.tmps) = true then Oper.wp Tryd.prog o a (w1.alloc madeV).drew K Q else E' :=
  step_vrN (w0 := w1) (l := []) hgd ho ((Own.made (w := w1) (Nat.le_refl _)).drew) (((Below.refl _ _).alloc (Nat.le_refl _) _).drew) (by simp; omega) ((hsl.alloc _).drew) hcz hs hx fun v' w' h1 h2 _ => h v' w' h1 h2
theorem step_vr_b (hsl : Sl w1 encV 3 A l) (hcz : A = none → c = 0) (hl : l.length ≤ 16777216) (hgd : o.guard = none) (ho : o.op = .call { callee := .builtin .append, args := #[s, x], argTypes := #[24, 24] })
    (hs : a.eval s = .slice (some ⟨w1.heap.size, 0, none⟩) 0 0) (hx : a.eval x = .slice A l.length c)
    (h : ∀ v' w', Own w' w1.heap.size 45 3 encV v' l → Below w1.heap.size w1 w' → RowAt w' (w1.heap.size + 1) y → K (a.put o.dst v') w') : if Region.wanted o (yielded ops a.tmps) = true then Oper.wp Tryd.prog o a ((w1.alloc madeV).alloc (rowV y)).drew K Q else E' := by
  have hz : w1.heap.size ≤ (w1.alloc madeV).heap.size := by simp
  have hr := RowAt.new (w1.alloc madeV) y
  have hzz : (w1.alloc madeV).heap.size = w1.heap.size + 1 := by simp
  rw [hzz] at hr
  exact step_vrN (w0 := w1) (l := []) hgd ho (((Own.made (w := w1) (Nat.le_refl _)).alloc _).drew) ((((Below.refl _ _).alloc (Nat.le_refl _) _).alloc hz _).drew) (by simp; omega) (((hsl.alloc _).alloc _).drew) hcz hs hx fun v' w' h1 h2 h3 => h v' w' h1 h2 (RowAt.grew (w := ((w1.alloc madeV).alloc (rowV y)).drew) hr h3 (by simp [Value.ownBlock]))
theorem step_vr_c (hsl : Sl w1 encV 3 A l) (hcz : A = none → c = 0) (hl : l.length ≤ 16777216) (hgd : o.guard = none) (ho : o.op = .call { callee := .builtin .append, args := #[s, x], argTypes := #[24, 24] })
    (hs : a.eval s = .slice (some ⟨w1.heap.size + 1, 0, none⟩) 0 0) (hx : a.eval x = .slice A l.length c)
    (h : ∀ v' w', Own w' w1.heap.size 45 3 encV v' l → Below w1.heap.size w1 w' → RowAt w' w1.heap.size y → K (a.put o.dst v') w') : if Region.wanted o (yielded ops a.tmps) = true then Oper.wp Tryd.prog o a ((w1.alloc (rowV y)).alloc madeV).drew K Q else E' := by
  have hz : w1.heap.size ≤ (w1.alloc (rowV y)).heap.size := by simp
  have hr := (RowAt.new w1 y).alloc madeV
  have hm := (Own.made (enc := encV) (E := 45) (size := 3) (w := w1.alloc (rowV y)) hz).drew
  have hzz : (w1.alloc (rowV y)).heap.size = w1.heap.size + 1 := by simp
  rw [hzz] at hm
  exact step_vrN (w0 := w1) (l := []) hgd ho hm ((((Below.refl _ _).alloc (Nat.le_refl _) _).alloc hz _).drew) (by simp; omega) (((hsl.alloc _).alloc _).drew) hcz hs hx fun v' w' h1 h2 h3 => h v' w' h1 h2 (RowAt.grew (w := ((w1.alloc (rowV y)).alloc madeV).drew) hr h3 (by simp [Value.ownBlock]))
theorem step_vr_d {w0 W : World} {v : Value} {g : Nat} (hown : Own W w0.heap.size 45 3 encV v l) (hb : Below w0.heap.size w0 W) (hr : RowAt W g y) (hl : l.length ≤ 16777216) (hgd : o.guard = none) (ho : o.op = .call { callee := .builtin .append, args := #[s, x], argTypes := #[24, 24] })
    (hs : a.eval s = v) (hx : a.eval x = .slice (some ⟨g, 0, none⟩) 1 1)
    (h : ∀ v' w', Own w' w0.heap.size 45 3 encV v' (l ++ [y]) → Below w0.heap.size w0 w' → K (a.put o.dst v') w') : if Region.wanted o (yielded ops a.tmps) = true then Oper.wp Tryd.prog o a W K Q else E' :=
  step_vr hgd ho hown hb hl hr.1 hr.2.1 hr.2.2 hs hx h
end
/-! ### slices.Clone -/
/-! ### one more version -/
end Go.Proofs.YtkglfmgmmnfmbaaDoor

/- 'append' of strings in regions that draw their order. -/
set_option linter.unusedVariables false
namespace Go.Proofs.YtkglfmgmmnfmbaaDoor
open Go.RowKit

theorem step_appW {P : Program} {α : Type} {enc : α → List Value} {ops : Array Oper} {o : Oper} {a : Act} {K : Act → World → Prop} {Q : Exit → Act → World → Prop} {E' : Prop} {w0 wr : World} {B base size bytes : Nat} {t E : TypeId} {i : TypeInfo} {z : Value} {v : Value} {l m : List α} {A : Option Addr} {c : Nat}
    (ht : P.underlying t = some (.slice E)) (hi : P.info? E = some i) (hz : i.zero = some z) (hsize : i.size = size) (hby : i.bytes = bytes) (hzs : z.cells.size = size) (hsz : 0 < size) (hb200 : bytes ≤ 256)
    (hw : Region.wanted o (yielded ops a.tmps) = true) (s x : Operand) (ho : o.op = .call { callee := .builtin .append, args := #[s, x], argTypes := #[t, t] })
    (hown : Own wr base E size enc v l) (hb : Below B w0 wr) (hB : B ≤ base) (hbase : base ≤ wr.heap.size) (hn : l.length + m.length ≤ 33554432)
    (hsl : Sl wr enc size A m) (hcz : A = none → c = 0) (hce : ∀ y, (enc y).length = size) (h1 : ∀ y, ∀ u ∈ enc y, u.oneCell' = true)
    (hs : a.eval s = v) (hx : a.eval x = .slice A m.length c)
    (h : ∀ v' w', Own w' base E size enc v' (l ++ m) → Below B w0 w' → Grew v wr w' → K (a.put o.dst v') w') :
    if Region.wanted o (yielded ops a.tmps) = true then Oper.wp P o a wr K Q else E' := by
  rw [if_pos hw]
  cases A with
  | none =>
    have hm : m = [] := by
      cases m with
      | nil => rfl
      | cons y r => obtain ⟨b, o, e, _⟩ := hsl (by simp); cases e
    subst hm
    rw [hcz rfl] at hx
    have hrun := run_append_owned_none (P := P) (w := wr) base t o.type E i size ht hi v l.length (flat enc l) hown
    have hK := h v wr (by rw [List.append_nil]; exact hown) hb (Grew.refl _ _)
    simp at hx
    unfold Oper.wp
    simp [execOp, ho, resolve, invoke, builtin, hs, hx, hrun, Result.andThen]
    exact hK
  | some ad =>
    refine wp_append_own wr s x t ho base E i z size bytes ht hi hz hsize hby hzs hsz v l.length (flat enc l) hs hown ad m.length c (flat enc m) hx (flat_length hce m) ?_ ?_ ?_ ?_ hbase ?_
    · intro j u hu
      have hpos : 0 < m.length := by
        have hlt := (List.getElem?_eq_some_iff.1 hu).1
        rw [flat_length hce] at hlt
        cases m with
        | nil => simp at hlt
        | cons y r => simp
      obtain ⟨b, o', e, hc⟩ := hsl hpos
      injection e with e
      subst e
      have hadd : (⟨b, o', none⟩ : Addr).add j = ⟨b, o' + j, none⟩ := by unfold Addr.add; split <;> simp_all
      rw [hadd]; exact hc j u hu
    · intro u hu
      unfold flat at hu
      obtain ⟨y, _, hy⟩ := List.mem_flatMap.1 hu
      exact h1 y u hy
    · unfold maxLen; omega
    · have := Nat.mul_le_mul_left (l.length + m.length) hb200; omega
    · intro v' w' hown' hg _
      refine h v' w' ?_ (hb.grown hg (Nat.le_trans hB hbase) (fun k hk => Nat.le_trans hB (World.ownsRow.lt hown k hk).1)) hg
      show w'.ownsRow base E size v' (l ++ m).length (flat enc (l ++ m))
      rw [flat_append, List.length_append]; exact hown'
abbrev rowS (y : ByteArray) : Obj := .cells #[.string y] 9
abbrev madeS : Obj := .cells #[] 9
section
variable {ops : Array Oper} {o : Oper} {a : Act} {K : Act → World → Prop} {Q : Exit → Act → World → Prop} {E' : Prop} {w1 : World} {l : List ByteArray} {A : Option Addr} {c : Nat} {y : ByteArray} {s x : Operand}
theorem step_strN {l m : List ByteArray} {w0 wr : World} {v : Value} {A : Option Addr} {c : Nat} {s x : Operand} (hw : Region.wanted o (yielded ops a.tmps) = true) (ho : o.op = .call { callee := .builtin .append, args := #[s, x], argTypes := #[31, 31] })
    (hown : Own wr w0.heap.size 9 1 encS v l) (hb : Below w0.heap.size w0 wr) (hn : l.length + m.length ≤ 33554432) (hsl : Sl wr encS 1 A m) (hcz : A = none → c = 0)
    (hs : a.eval s = v) (hx : a.eval x = .slice A m.length c)
    (h : ∀ v' w', Own w' w0.heap.size 9 1 encS v' (l ++ m) → Below w0.heap.size w0 w' → Grew v wr w' → K (a.put o.dst v') w') : if Region.wanted o (yielded ops a.tmps) = true then Oper.wp Tryd.prog o a wr K Q else E' := by
  obtain ⟨i0, hi0, hz0, hz1, hz2⟩ := info_parts str_info
  exact step_appW Tryd.underlying31 hi0 hz0 hz1 hz2 rfl (by decide) (by decide) hw s x ho hown hb (Nat.le_refl _) hb.size hn hsl hcz (fun _ => rfl) oneS hs hx h
def StrAt (w : World) (g : Nat) (y : ByteArray) : Prop := w.cell? ⟨g, 0, none⟩ = some (.string y)
theorem StrAt.new (w : World) (y : ByteArray) : StrAt (w.alloc (rowS y)) w.heap.size y := new_cell rfl
theorem StrAt.sl {w : World} {g : Nat} {y : ByteArray} (h : StrAt w g y) : Sl w encS 1 (some ⟨g, 0, none⟩) [y] := by
  intro _
  refine ⟨g, 0, rfl, fun j u hu => ?_⟩
  have hj : j = 0 := by have := (List.getElem?_eq_some_iff.1 hu).1; simp [flat, encS] at this; omega
  subst hj; simp [flat, encS] at hu; rw [← hu]; exact h
theorem step_str_d {w0 W : World} {v : Value} {g : Nat} (hown : Own W w0.heap.size 9 1 encS v l) (hb : Below w0.heap.size w0 W) (hr : StrAt W g y) (hl : l.length ≤ 16777216) (hw : Region.wanted o (yielded ops a.tmps) = true) (ho : o.op = .call { callee := .builtin .append, args := #[s, x], argTypes := #[31, 31] })
    (hs : a.eval s = v) (hx : a.eval x = .slice (some ⟨g, 0, none⟩) 1 1)
    (h : ∀ v' w', Own w' w0.heap.size 9 1 encS v' (l ++ [y]) → Below w0.heap.size w0 w' → K (a.put o.dst v') w') : if Region.wanted o (yielded ops a.tmps) = true then Oper.wp Tryd.prog o a W K Q else E' :=
  step_strN (l := l) (m := [y]) hw ho hown hb (by simp; omega) hr.sl (by intro h; cases h) hs hx fun v' w' h1 h2 _ => h v' w' h1 h2
end
section
variable {ops : Array Oper} {o : Oper} {a : Act} {K : Act → World → Prop} {Q : Exit → Act → World → Prop} {E' : Prop} {l : List ByteArray} {s x : Operand}
theorem step_str_e {w0 W : World} {v : Value} {y : ByteArray} (hown : Own W w0.heap.size 9 1 encS v l) (hb : Below w0.heap.size w0 W) (hl : l.length ≤ 16777216) (hw : Region.wanted o (yielded ops a.tmps) = true) (ho : o.op = .call { callee := .builtin .append, args := #[s, x], argTypes := #[31, 31] })
    (hs : a.eval s = v) (hx : a.eval x = .slice (some ⟨W.heap.size, 0, none⟩) 1 1)
    (h : ∀ v' w', Own w' w0.heap.size 9 1 encS v' (l ++ [y]) → Below w0.heap.size w0 w' → Grew v (W.alloc (rowS y)) w' → K (a.put o.dst v') w') : if Region.wanted o (yielded ops a.tmps) = true then Oper.wp Tryd.prog o a (W.alloc (rowS y)) K Q else E' :=
  step_strN (l := l) (m := [y]) hw ho (hown.alloc _) (hb.alloc hb.size _) (by simp; omega) (StrAt.new W y).sl (by intro h; cases h) hs hx h
end
theorem keepA {w w' : World} {b o b' o' : Nat} {u v : Value} (hb : Below w.heap.size w w') (h : w.cell? ⟨b, o, none⟩ = some u ∧ w.cell? ⟨b', o', none⟩ = some v) : w'.cell? ⟨b, o, none⟩ = some u ∧ w'.cell? ⟨b', o', none⟩ = some v := ⟨Below_cells hb _ _ _ h.1, Below_cells hb _ _ _ h.2⟩
section
variable {ops : Array Oper} {o : Oper} {a : Act} {K : Act → World → Prop} {Q : Exit → Act → World → Prop} {E' : Prop} {l : List ByteArray} {s x : Operand}
theorem step_str_g {w0 W : World} {v : Value} {y : ByteArray} (hown : Own W w0.heap.size 9 1 encS v l) (hb : Below w0.heap.size w0 W) (hl : l.length ≤ 16777216) (hw : Region.wanted o (yielded ops a.tmps) = true) (ho : o.op = .call { callee := .builtin .append, args := #[s, x], argTypes := #[31, 31] })
    (hs : a.eval s = v) (hx : a.eval x = .slice (some ⟨W.heap.size, 0, none⟩) 1 1)
    (h : ∀ v' w', Own w' w0.heap.size 9 1 encS v' (l ++ [y]) → Below w0.heap.size w0 w' → Grew v (W.drew.alloc (rowS y)) w' → K (a.put o.dst v') w') : if Region.wanted o (yielded ops a.tmps) = true then Oper.wp Tryd.prog o a (W.drew.alloc (rowS y)) K Q else E' :=
  step_str_e (w0 := w0) (W := W.drew) hown.drew hb.drew hl hw ho hs hx h
end
theorem str_add {x y : ByteArray} (hx : x.size ≤ 1073741824) (hy : y.size ≤ 1073741824) : Op.stringOp .add x y = pure (.string (x ++ y)) := by
  have h : ¬ (((x.size + y.size : Nat) : Int) > IntKind.i64.max) := by
    have e : IntKind.i64.max = 9223372036854775807 := by decide
    rw [e]; omega
  unfold Op.stringOp
  simp only [h, if_false]
end Go.Proofs.YtkglfmgmmnfmbaaDoor

/- Archives by value: sizes, copies, comparisons, marks, walked. -/
set_option linter.unusedVariables false
namespace Go.Proofs.YtkglfmgmmnfmbaaDoor
open Go.RowKit
/-- Two rows in different blocks. -/
def ApartV (u v : Value) : Prop := ∀ g, u.ownBlock = some g → v.ownBlock ≠ some g
theorem ApartV.symm {u v : Value} (h : ApartV u v) : ApartV v u := fun g h1 h2 => h g h2 h1
theorem ApartV.nil (u : Value) : ApartV u (.slice none 0 0) := fun g _ h => by cases h
theorem World.alloc_size_ (w : World) (o : Obj) : (w.alloc o).heap.size = w.heap.size + 1 := by simp
theorem Row3.grew {w w' : World} {b : Nat} {v v0 v1 v2 : Value} (h : Row3 w b v0 v1 v2) (hg : Grew v w w') (hne : v.ownBlock ≠ some b) : Row3 w' b v0 v1 v2 := by
  obtain ⟨⟨h0, h1, h2⟩, hf, hlt⟩ := h
  have hblk : w'.heap[b]? = w.heap[b]? := hg.block b hlt (fun e => hne e.symm)
  have hc : ∀ o, w'.cell? ⟨b, o, none⟩ = w.cell? ⟨b, o, none⟩ := fun o => by unfold World.cell?; simp only [hblk]
  refine ⟨⟨(hc _).trans h0, (hc _).trans h1, (hc _).trans h2⟩, fun o => (World.frozen?_of_block (w := w) hblk).trans (hf o), Nat.lt_of_lt_of_le hlt hg.size⟩
def ToAr (l : List Pc) (x : Int) (m : List Vr) (w : World) (e : Ending) (w' : World) : Prop :=
  ∃ p q, e = .returned (.agg #[p, .int .i64 x, q]) ∧ Own w' w.heap.size 57 2 encP p l ∧ Own w' w.heap.size 45 3 encV q m ∧ ApartV p q ∧ Below w.heap.size w w'
theorem ToAr.mk {l : List Pc} {x : Int} {m : List Vr} {w w' : World} {A B : Option Addr} {c d : Nat} (h1 : Own w' w.heap.size 57 2 encP (.slice A l.length c) l) (h2 : Own w' w.heap.size 45 3 encV (.slice B m.length d) m) (h3 : ApartV (.slice A l.length c) (.slice B m.length d)) (h4 : Below w.heap.size w w') :
    ToAr l x m w (.returned (.agg #[.slice A l.length c, .int .i64 x, .slice B m.length d])) w' := ⟨_, _, rfl, h1, h2, h3, h4⟩
end Go.Proofs.YtkglfmgmmnfmbaaDoor

/- Appends of entries in regions that draw their order. -/
set_option linter.unusedVariables false
namespace Go.Proofs.YtkglfmgmmnfmbaaDoor
open Go.RowKit
section
variable {ops : Array Oper} {o : Oper} {a : Act} {K : Act → World → Prop} {Q : Exit → Act → World → Prop} {E' : Prop} {w0 wr : World} {v : Value}
set_option maxRecDepth 100000 in
theorem step_enK {l m : List En} {A : Option Addr} {c n : Nat} {s x : Operand} (hw : Region.wanted o (yielded ops a.tmps) = true) (ho : o.op = .call { callee := .builtin .append, args := #[s, x], argTypes := #[41, 41] })
    (hown : Own wr w0.heap.size 91 2 encE v l) (hb : Below w0.heap.size w0 wr) (hn : l.length + m.length ≤ 33554432) (hsl : Sl wr encE 2 A m) (hcz : A = none → c = 0)
    (hs : a.eval s = v) (hmn : m.length = n) (hx : a.eval x = .slice A n c)
    (h : ∀ v' w', Own w' w0.heap.size 91 2 encE v' (l ++ m) → Below w0.heap.size w0 w' → Grew v wr w' → Kin v wr v' → K (a.put o.dst v') w') : if Region.wanted o (yielded ops a.tmps) = true then Oper.wp Tryd.prog o a wr K Q else E' := by
  subst hmn
  obtain ⟨i0, hi0, hz0, hz1, hz2⟩ := info_parts en_info
  rw [if_pos hw]
  cases A with
  | none =>
    have hm : m = [] := by
      cases m with
      | nil => rfl
      | cons y r => obtain ⟨b, o, e, _⟩ := hsl (by simp); cases e
    subst hm
    rw [hcz rfl] at hx
    have hrun := run_append_owned_none (P := Tryd.prog) (w := wr) w0.heap.size 41 o.type 91 i0 2 Tryd.underlying41 hi0 v l.length (flat encE l) hown
    have hK := h v wr (by rw [List.append_nil]; exact hown) hb (Grew.refl _ _) (fun b _ h => h)
    simp at hx
    unfold Oper.wp
    simp [execOp, ho, resolve, invoke, builtin, hs, hx, hrun, Result.andThen]
    exact hK
  | some ad =>
    obtain ⟨v', w', hr, h2, h3, h4, h5⟩ := run_append_own_at (P := Tryd.prog) wr w0.heap.size 41 o.type 91 i0 _ 2 24 Tryd.underlying41 hi0 hz0 hz1 hz2 rfl (by decide) v l.length (flat encE l) hown ad m.length c (flat encE m) (flat_length (enc := encE) (size := 2) (fun _ => rfl) m) (by
        intro j u hu
        have hpos : 0 < m.length := by
          have hlt := (List.getElem?_eq_some_iff.1 hu).1
          rw [flat_length (enc := encE) (size := 2) (fun _ => rfl)] at hlt
          cases m with
          | nil => simp at hlt
          | cons y r => simp
        obtain ⟨b, o', e, hc⟩ := hsl hpos
        injection e with e
        subst e
        have hadd : (⟨b, o', none⟩ : Addr).add j = ⟨b, o' + j, none⟩ := by unfold Addr.add; split <;> simp_all
        rw [hadd]; exact hc j u hu) (by
        intro u hu
        unfold flat at hu
        obtain ⟨y, _, hy⟩ := List.mem_flatMap.1 hu
        exact oneE y u hy) (by unfold maxLen; omega) (by omega) hb.size
    unfold Oper.wp execOp
    simp only [ho, resolve, invoke, builtin, Sem.run_bind, Sem.run_pure, Result.andThen_ok, List.map_toArray, List.map_cons, List.map_nil, hs, hx, hr]
    refine h v' w' ?_ (hb.grown h3 hb.size (fun k hk => (World.ownsRow.lt hown k hk).1)) h3 ?_
    · show w'.ownsRow _ _ _ v' (l ++ m).length (flat encE (l ++ m))
      rw [flat_append, List.length_append]; exact h2
    · intro b hb2 hne hv'
      rcases h5 with h5 | h5
      · exact hne (h5 ▸ hv')
      · rw [h5] at hv'; injection hv' with e; omega
end
abbrev rowEn (y : En) : Obj := .cells #[.string y.1, .int .i64 y.2] 91
abbrev madeEn : Obj := .cells #[] 91
theorem slEn_new (w : World) (y : En) : Sl (w.alloc (rowEn y)) encE 2 (some ⟨w.heap.size, 0, none⟩) [y] := by
  intro _
  refine ⟨w.heap.size, 0, rfl, fun j u hu => ?_⟩
  rw [cell_of_row _ _ _ _ 91 (0, 0) (heap_alloc_new w _)]
  rw [Nat.zero_add]
  simpa [flat, encE] using hu
theorem Sl.takeE {w : World} {A : Option Addr} {l : List En} {n : Nat} (h : Sl w encE 2 A l) : Sl w encE 2 A (l.take n) := by
  intro hn
  have hlt : 0 < l.length := by rw [List.length_take] at hn; omega
  obtain ⟨b, o, e, hc⟩ := h hlt
  refine ⟨b, o, e, fun j u hu => hc j u ?_⟩
  have e2 : flat encE l = flat encE (l.take n) ++ flat encE (l.drop n) := by rw [← flat_append, List.take_append_drop]
  rw [e2, List.getElem?_append_left (List.getElem?_eq_some_iff.1 hu).1]; exact hu
theorem Sl.dropE {w : World} {b o : Nat} {l : List En} {n : Nat} (h : Sl w encE 2 (some ⟨b, o, none⟩) l) (hn : n ≤ l.length) : Sl w encE 2 (some ⟨b, o + n * 2, none⟩) (l.drop n) := by
  intro hd
  have hlt : 0 < l.length := by rw [List.length_drop] at hd; omega
  obtain ⟨b2, o2, e, hc⟩ := h hlt
  injection e with e; injection e with e1 e2
  subst e1 e2
  refine ⟨b, o + n * 2, rfl, fun j u hu => ?_⟩
  have e2 : flat encE l = flat encE (l.take n) ++ flat encE (l.drop n) := by rw [← flat_append, List.take_append_drop]
  have hlen : (flat encE (l.take n)).length = n * 2 := by rw [flat_length (enc := encE) (size := 2) (fun _ => rfl), List.length_take]; congr 1; omega
  have := hc (n * 2 + j) u (by rw [e2, List.getElem?_append_right (by omega), hlen]; simpa using hu)
  rwa [← Nat.add_assoc] at this
def BoxE (w : World) (g : Nat) (y : En) : Prop := w.cell? ⟨g, 0, none⟩ = some (.string y.1) ∧ w.cell? ⟨g, 1, none⟩ = some (.int .i64 y.2)
theorem BoxE.new (w : World) (y : En) : BoxE (w.alloc (rowEn y)) w.heap.size y := ⟨new_cell rfl, new_cell rfl⟩
theorem BoxE.below {w w' : World} {g : Nat} {y : En} (h : BoxE w g y) (hb : Below w.heap.size w w') : BoxE w' g y := ⟨Below_cells hb _ _ _ h.1, Below_cells hb _ _ _ h.2⟩
theorem fitE_valid {l : List En} (h : entsV l = true) : FitE l := fun e he => by
  have := (entOk_iff.1 (entsV_ok h he)).1
  unfold wordV at this
  rw [Bool.and_eq_true, Bool.and_eq_true, decide_eq_true_eq] at this
  have h2 : (tx e.1).length = e.1.size := by simp
  omega
theorem fitE_ins {l : List En} (h : entsV l = true) {e : En} (he : e.1.size ≤ 16777216) : FitE (insE l e) := fun x hx => by
  rcases (mem_insE (entsV_sorted h) e x).1 hx with rfl | ⟨hx, _⟩
  · exact he
  · exact fitE_valid h x hx
end Go.Proofs.YtkglfmgmmnfmbaaDoor

/- Arguments that came in: slices of structs. -/
set_option linter.unusedVariables false
namespace Go.Proofs.YtkglfmgmmnfmbaaDoor
open Go.ChangeShapes Go.WideShapes Go.ChangeAt Go.RowKit
open Go.ChangeMaps (open_string shut_string)

section
variable {H : Type} {enc : TypeId × Value → H} {W : World} {a : Option Addr} {n c : Nat} {d : DataW H} {p : List MemPlace}
end
end Go.Proofs.YtkglfmgmmnfmbaaDoor
