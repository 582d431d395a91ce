/- Versions: append, a copy, one more. -/
import Derived.Test.YtbefbenihahdnaaVt
import Derived.Test.YtbefbenihahdnaaHeap2
import Derived.Test.YtbefbenihahdnaaAp2
import Derived.Test.YtbefbenihahdnaaSVersion
import Derived.Test.YtbefbenihahdnaaDr3
import Derived.Deep.RegionHeld3
set_option linter.unusedVariables false
namespace Go.Proofs.Ytbefbenihahdnaa
open Go.RowKit

theorem step_appN {P : Program} {α : Type} {enc : α → List Value} {ops : Array Oper} {o : Oper} {a : Act} {K : Act → World → Prop} {Q : Exit → Act → World → Prop} {E' : Prop} {w0 wr : World} {B base size bytes : Nat} {t E : TypeId} {i : TypeInfo} {z : Value} {v : Value} {l m : List α} {A : Option Addr} {c : Nat}
    (ht : P.underlying t = some (.slice E)) (hi : P.info? E = some i) (hz : i.zero = some z) (hsize : i.size = size) (hby : i.bytes = bytes) (hzs : z.cells.size = size) (hsz : 0 < size) (hb200 : bytes ≤ 256)
    (hgd : o.guard = none) (s x : Operand) (ho : o.op = .call { callee := .builtin .append, args := #[s, x], argTypes := #[t, t] })
    (hown : Own wr base E size enc v l) (hb : Below B w0 wr) (hB : B ≤ base) (hbase : base ≤ wr.heap.size) (hn : l.length + m.length ≤ 33554432)
    (hsl : Sl wr enc size A m) (hcz : A = none → c = 0) (hce : ∀ y, (enc y).length = size) (h1 : ∀ y, ∀ u ∈ enc y, u.oneCell' = true)
    (hs : a.eval s = v) (hx : a.eval x = .slice A m.length c)
    (h : ∀ v' w', Own w' base E size enc v' (l ++ m) → Below B w0 w' → Grew v wr w' → K (a.put o.dst v') w') :
    if Region.wanted o (yielded ops a.tmps) = true then Oper.wp P o a wr K Q else E' := by
  have hw : Region.wanted o (yielded ops a.tmps) = true := by simp [Region.wanted, hgd]
  rw [if_pos hw]
  cases A with
  | none =>
    have hm : m = [] := by
      cases m with
      | nil => rfl
      | cons y r => obtain ⟨b, o, e, _⟩ := hsl (by simp); cases e
    subst hm
    rw [hcz rfl] at hx
    have hrun := run_append_owned_none (P := P) (w := wr) base t o.type E i size ht hi v l.length (flat enc l) hown
    have hK := h v wr (by rw [List.append_nil]; exact hown) hb (Grew.refl _ _)
    simp at hx
    unfold Oper.wp
    simp [execOp, ho, resolve, invoke, builtin, hs, hx, hrun, Result.andThen]
    exact hK
  | some ad =>
    refine wp_append_own wr s x t ho base E i z size bytes ht hi hz hsize hby hzs hsz v l.length (flat enc l) hs hown ad m.length c (flat enc m) hx (flat_length hce m) ?_ ?_ ?_ ?_ hbase ?_
    · intro j u hu
      have hpos : 0 < m.length := by
        have hlt := (List.getElem?_eq_some_iff.1 hu).1
        rw [flat_length hce] at hlt
        cases m with
        | nil => simp at hlt
        | cons y r => simp
      obtain ⟨b, o', e, hc⟩ := hsl hpos
      injection e with e
      subst e
      have hadd : (⟨b, o', none⟩ : Addr).add j = ⟨b, o' + j, none⟩ := by unfold Addr.add; split <;> simp_all
      rw [hadd]; exact hc j u hu
    · intro u hu
      unfold flat at hu
      obtain ⟨y, _, hy⟩ := List.mem_flatMap.1 hu
      exact h1 y u hy
    · unfold maxLen; omega
    · have := Nat.mul_le_mul_left (l.length + m.length) hb200; omega
    · intro v' w' hown' hg _
      refine h v' w' ?_ (hb.grown hg (Nat.le_trans hB hbase) (fun k hk => Nat.le_trans hB (World.ownsRow.lt hown k hk).1)) hg
      show w'.ownsRow base E size v' (l ++ m).length (flat enc (l ++ m))
      rw [flat_append, List.length_append]; exact hown'
theorem Grew.cell {v u : Value} {w w' : World} (h : Grew v w w') {b o : Nat} (hv : v.ownBlock ≠ some b) (hc : w.cell? ⟨b, o, none⟩ = some u) : w'.cell? ⟨b, o, none⟩ = some u := by
  rw [World.cell?_of_block (w := w) (h.block b (World.block_lt_of_cell? w _ hc) (fun e => hv e.symm))]; exact hc
theorem cell_alloc {u : Value} {w : World} {x : Obj} {a : Addr} (hc : w.cell? a = some u) : (w.alloc x).cell? a = some u :=
  (World.cell?_alloc_lt w x a (World.block_lt_of_cell? w _ hc)).trans hc
theorem keep3 {w w' : World} {x : Nat} {v0 v1 v2 : Value} (hb : Below w.heap.size w w') (h : w.cell? ⟨x, 0, none⟩ = some v0 ∧ w.cell? ⟨x, 1, none⟩ = some v1 ∧ w.cell? ⟨x, 2, none⟩ = some v2) :
    w'.cell? ⟨x, 0, none⟩ = some v0 ∧ w'.cell? ⟨x, 1, none⟩ = some v1 ∧ w'.cell? ⟨x, 2, none⟩ = some v2 :=
  ⟨Below_cells hb _ _ _ h.1, Below_cells hb _ _ _ h.2.1, Below_cells hb _ _ _ h.2.2⟩
section
variable {ops : Array Oper} {rest : List Oper} {o : Oper} {a : Act} {K : Act → World → Prop} {Q : Exit → Act → World → Prop} {E' : Prop} {w0 wr : World} {v : Value}
theorem app_vrN {l m : List Vr} {A : Option Addr} {c : Nat} {s x : Operand} (hgd : o.guard = none) (ho : o.op = .call { callee := .builtin .append, args := #[s, x], argTypes := #[73, 73] })
    (hown : Own wr w0.heap.size 82 3 encV v l) (hb : Below w0.heap.size w0 wr) (hn : l.length + m.length ≤ 33554432) (hsl : Sl wr encV 3 A m) (hcz : A = none → c = 0)
    (hs : a.eval s = v) (hx : a.eval x = .slice A m.length c)
    (h : ∀ v' w', Own w' w0.heap.size 82 3 encV v' (l ++ m) → Below w0.heap.size w0 w' → Grew v wr w' → wpList Try.prog ops Q rest (a.put o.dst v') w') : wpList Try.prog ops Q (o :: rest) a wr := by
  obtain ⟨i0, hi0, hz0, hz1, hz2⟩ := info_parts encV_info
  exact wpList_appN Try.underlying73 hi0 hz0 hz1 hz2 rfl (by decide) (by decide) hgd s x ho hown hb (Nat.le_refl _) hb.size hn hsl hcz (fun _ => rfl) oneV hs hx h
theorem step_vrN {l m : List Vr} {A : Option Addr} {c : Nat} {s x : Operand} (hgd : o.guard = none) (ho : o.op = .call { callee := .builtin .append, args := #[s, x], argTypes := #[73, 73] })
    (hown : Own wr w0.heap.size 82 3 encV v l) (hb : Below w0.heap.size w0 wr) (hn : l.length + m.length ≤ 33554432) (hsl : Sl wr encV 3 A m) (hcz : A = none → c = 0)
    (hs : a.eval s = v) (hx : a.eval x = .slice A m.length c)
    (h : ∀ v' w', Own w' w0.heap.size 82 3 encV v' (l ++ m) → Below w0.heap.size w0 w' → Grew v wr w' → K (a.put o.dst v') w') : if Region.wanted o (yielded ops a.tmps) = true then Oper.wp Try.prog o a wr K Q else E' := by
  obtain ⟨i0, hi0, hz0, hz1, hz2⟩ := info_parts encV_info
  exact step_appN Try.underlying73 hi0 hz0 hz1 hz2 rfl (by decide) (by decide) hgd s x ho hown hb (Nat.le_refl _) hb.size hn hsl hcz (fun _ => rfl) oneV hs hx h
theorem step_vr {l : List Vr} {y : Vr} {g : Nat} {s x : Operand} (hgd : o.guard = none) (ho : o.op = .call { callee := .builtin .append, args := #[s, x], argTypes := #[73, 73] })
    (hown : Own wr w0.heap.size 82 3 encV v l) (hb : Below w0.heap.size w0 wr) (hn : l.length ≤ 16777216)
    (c0 : wr.cell? ⟨g, 0, none⟩ = some (.int .i64 y.1)) (c1 : wr.cell? ⟨g, 1, none⟩ = some (.int .i64 y.2.1)) (c2 : wr.cell? ⟨g, 2, none⟩ = some (.string y.2.2))
    (hs : a.eval s = v) (hx : a.eval x = .slice (some ⟨g, 0, none⟩) 1 1)
    (h : ∀ v' w', Own w' w0.heap.size 82 3 encV v' (l ++ [y]) → Below w0.heap.size w0 w' → K (a.put o.dst v') w') : if Region.wanted o (yielded ops a.tmps) = true then Oper.wp Try.prog o a wr K Q else E' := by
  obtain ⟨i0, hi0, hz0, hz1, hz2⟩ := info_parts encV_info
  exact step_app1 Try.underlying73 hi0 hz0 hz1 hz2 rfl (by decide) (by decide) hgd s x ho hs hx hown hb (Nat.le_refl _) hb.size hn y (by
    intro j u hu
    have hj : j < 3 := by have := (List.getElem?_eq_some_iff.1 hu).1; simp [encV] at this; omega
    match j, hj with
    | 0, _ => simp [encV] at hu; rw [← hu]; exact c0
    | 1, _ => simp [encV] at hu; rw [← hu]; exact c1
    | 2, _ => simp [encV] at hu; rw [← hu]; exact c2) rfl (oneV y) h
end
/-! ### 'append(append([]Version{}, l...), y)' in whatever order -/
abbrev rowV (y : Vr) : Obj := .cells #[.int .i64 y.1, .int .i64 y.2.1, .string y.2.2] 82
abbrev madeV : Obj := .cells #[] 82
def RowAt (w : World) (g : Nat) (y : Vr) : Prop := w.cell? ⟨g, 0, none⟩ = some (.int .i64 y.1) ∧ w.cell? ⟨g, 1, none⟩ = some (.int .i64 y.2.1) ∧ w.cell? ⟨g, 2, none⟩ = some (.string y.2.2)
theorem RowAt.new (w : World) (y : Vr) : RowAt (w.alloc (rowV y)) w.heap.size y := ⟨new_cell rfl, new_cell rfl, new_cell rfl⟩
theorem RowAt.alloc {w : World} {g : Nat} {y : Vr} (h : RowAt w g y) (x : Obj) : RowAt (w.alloc x) g y := ⟨cell_alloc h.1, cell_alloc h.2.1, cell_alloc h.2.2⟩
theorem RowAt.grew {w w' : World} {g : Nat} {y : Vr} {v : Value} (h : RowAt w g y) (hg : Grew v w w') (hv : v.ownBlock ≠ some g) : RowAt w' g y := ⟨hg.cell hv h.1, hg.cell hv h.2.1, hg.cell hv h.2.2⟩
section
variable {ops : Array Oper} {o : Oper} {a : Act} {K : Act → World → Prop} {Q : Exit → Act → World → Prop} {E' : Prop} {w1 : World} {l : List Vr} {A : Option Addr} {c : Nat} {y : Vr} {s x : Operand}
theorem step_vr_a (hsl : Sl w1 encV 3 A l) (hcz : A = none → c = 0) (hl : l.length ≤ 16777216) (hgd : o.guard = none) (ho : o.op = .call { callee := .builtin .append, args := #[s, x], argTypes := #[73, 73] })
    (hs : a.eval s = .slice (some ⟨w1.heap.size, 0, none⟩) 0 0) (hx : a.eval x = .slice A l.length c)
    (h : ∀ v' w', Own w' w1.heap.size 82 3 encV v' l → Below w1.heap.size w1 w' → K (a.put o.dst v') w') : if Region.wanted o (yielded ops a.tmps) = true then Oper.wp Try.prog o a (w1.alloc madeV).drew K Q else E' :=
  step_vrN (w0 := w1) (l := []) hgd ho ((Own.made (w := w1) (Nat.le_refl _)).drew) (((Below.refl _ _).alloc (Nat.le_refl _) _).drew) (by simp; omega) ((hsl.alloc _).drew) hcz hs hx fun v' w' h1 h2 _ => h v' w' h1 h2
theorem step_vr_b (hsl : Sl w1 encV 3 A l) (hcz : A = none → c = 0) (hl : l.length ≤ 16777216) (hgd : o.guard = none) (ho : o.op = .call { callee := .builtin .append, args := #[s, x], argTypes := #[73, 73] })
    (hs : a.eval s = .slice (some ⟨w1.heap.size, 0, none⟩) 0 0) (hx : a.eval x = .slice A l.length c)
    (h : ∀ v' w', Own w' w1.heap.size 82 3 encV v' l → Below w1.heap.size w1 w' → RowAt w' (w1.heap.size + 1) y → K (a.put o.dst v') w') : if Region.wanted o (yielded ops a.tmps) = true then Oper.wp Try.prog o a ((w1.alloc madeV).alloc (rowV y)).drew K Q else E' := by
  have hz : w1.heap.size ≤ (w1.alloc madeV).heap.size := by simp
  have hr := RowAt.new (w1.alloc madeV) y
  have hzz : (w1.alloc madeV).heap.size = w1.heap.size + 1 := by simp
  rw [hzz] at hr
  exact step_vrN (w0 := w1) (l := []) hgd ho (((Own.made (w := w1) (Nat.le_refl _)).alloc _).drew) ((((Below.refl _ _).alloc (Nat.le_refl _) _).alloc hz _).drew) (by simp; omega) (((hsl.alloc _).alloc _).drew) hcz hs hx fun v' w' h1 h2 h3 => h v' w' h1 h2 (RowAt.grew (w := ((w1.alloc madeV).alloc (rowV y)).drew) hr h3 (by simp [Value.ownBlock]))
theorem step_vr_c (hsl : Sl w1 encV 3 A l) (hcz : A = none → c = 0) (hl : l.length ≤ 16777216) (hgd : o.guard = none) (ho : o.op = .call { callee := .builtin .append, args := #[s, x], argTypes := #[73, 73] })
    (hs : a.eval s = .slice (some ⟨w1.heap.size + 1, 0, none⟩) 0 0) (hx : a.eval x = .slice A l.length c)
    (h : ∀ v' w', Own w' w1.heap.size 82 3 encV v' l → Below w1.heap.size w1 w' → RowAt w' w1.heap.size y → K (a.put o.dst v') w') : if Region.wanted o (yielded ops a.tmps) = true then Oper.wp Try.prog o a ((w1.alloc (rowV y)).alloc madeV).drew K Q else E' := by
  have hz : w1.heap.size ≤ (w1.alloc (rowV y)).heap.size := by simp
  have hr := (RowAt.new w1 y).alloc madeV
  have hm := (Own.made (enc := encV) (E := 82) (size := 3) (w := w1.alloc (rowV y)) hz).drew
  have hzz : (w1.alloc (rowV y)).heap.size = w1.heap.size + 1 := by simp
  rw [hzz] at hm
  exact step_vrN (w0 := w1) (l := []) hgd ho hm ((((Below.refl _ _).alloc (Nat.le_refl _) _).alloc hz _).drew) (by simp; omega) (((hsl.alloc _).alloc _).drew) hcz hs hx fun v' w' h1 h2 h3 => h v' w' h1 h2 (RowAt.grew (w := ((w1.alloc (rowV y)).alloc madeV).drew) hr h3 (by simp [Value.ownBlock]))
theorem step_vr_d {w0 W : World} {v : Value} {g : Nat} (hown : Own W w0.heap.size 82 3 encV v l) (hb : Below w0.heap.size w0 W) (hr : RowAt W g y) (hl : l.length ≤ 16777216) (hgd : o.guard = none) (ho : o.op = .call { callee := .builtin .append, args := #[s, x], argTypes := #[73, 73] })
    (hs : a.eval s = v) (hx : a.eval x = .slice (some ⟨g, 0, none⟩) 1 1)
    (h : ∀ v' w', Own w' w0.heap.size 82 3 encV v' (l ++ [y]) → Below w0.heap.size w0 w' → K (a.put o.dst v') w') : if Region.wanted o (yielded ops a.tmps) = true then Oper.wp Try.prog o a W K Q else E' :=
  step_vr hgd ho hown hb hl hr.1 hr.2.1 hr.2.2 hs hx h
end
/-! ### slices.Clone -/
set_option maxHeartbeats 2000000 in
set_option maxRecDepth 100000 in
theorem CloneVr_any (A : Option Addr) (c : Nat) (l : List Vr) (w : World) (hs : Sl w encV 3 A l) (hcz : A = none → c = 0) (hl : l.length ≤ 16777216) :
    Calls Try.prog 159 #[.slice A l.length c] w (OwnRes 82 3 encV l w) := by
  have HS := Lib.hid hs
  have HC := Lib.hid hcz
  clear hs hcz
  have hnil := fun (W : World) (A : Option Addr) (n c : Nat) => Lib.run_eql_slice_nil (P := Try.prog) W 73 82 A n c 0 0 Try.underlying73
  cases A with
  | none =>
    have hm : l = [] := by
      cases l with
      | nil => rfl
      | cons y r => obtain ⟨b, o, e, _⟩ := HS.out (by simp); cases e
    subst hm
    go_enter Try.func159, Try.ntmps159
    go_wp2
    go_ret
    exact ⟨_, rfl, Own.nil, Below.refl _ _⟩
  | some ad =>
    go_enter Try.func159, Try.ntmps159
    go_wp2_with (at_builtin; refine app_vrN rfl rfl (Own.made (Nat.le_refl _)) ((Below.refl _ _).alloc (Nat.le_refl _) _) (by simp; omega) (HS.out.alloc _) HC.out (by rfl) (by rfl) ?_; intro v1 w2 hown2 hb2 hg2; have HW2 := Lib.hid hown2; have HB2 := Lib.hid hb2; clear hown2 hb2 hg2)
    go_ret
    exact ⟨_, rfl, by have h := HW2.out; rwa [List.nil_append] at h, HB2.out⟩
/-! ### one more version -/
def AddR (l : List Vr) (y : Vr) (w : World) (e : Ending) (w' : World) : Prop :=
  ∃ (v : Value) (l' : List Vr) (ok : Bool), e = .returned (.tuple #[v, .bool ok]) ∧ Own w' w.heap.size 82 3 encV v l' ∧ (l' = [] ∨ l' = l ∨ l' = l ++ [y]) ∧ (ok = true → l' = l ++ [y] ∧ versV (l ++ [y]) = true) ∧ Below w.heap.size w w'
set_option maxHeartbeats 4000000 in
set_option maxRecDepth 100000 in
theorem sAddVersion_any (A : Option Addr) (c : Nat) (l : List Vr) (y : Vr) (w : World) (hs : Sl w encV 3 A l) (hcz : A = none → c = 0) (hl : l.length ≤ 16777215) (hf : FitV l) (hy : y.2.2.size ≤ 16777216) :
    Calls Try.prog 167 #[.slice A l.length c, .agg #[.int .i64 y.1, .int .i64 y.2.1, .string y.2.2]] w (AddR l y w) := by
  have HS := Lib.hid hs
  have HF := Lib.hid hf
  have HC := Lib.hid hcz
  have HL := Lib.hid (show l.length ≤ 16777216 by omega)
  have HLEN := Lib.hid (show (l ++ [y]).length = l.length + 1 by simp)
  clear hs hf hcz
  have hV : ∀ w, Sl w encV 3 A l → Calls Try.prog 152 #[.slice A l.length c] w fun e w' => e = .returned (.bool (versV l)) ∧ Below w.heap.size w w' := fun w h => by
    first
      | exact sVersionsValid_any A c l w h (by omega) HF.out
      | exact (sVersionsValid_any A c l w h (by omega) HF.out).mono fun _ _ ⟨h1, h2⟩ => ⟨h1, h2 ▸ Below.refl _ _⟩
  have hf2 : FitV (l ++ [y]) := fun p hp => by
    rw [List.mem_append, List.mem_singleton] at hp
    rcases hp with hp | rfl
    · exact HF.out p hp
    · exact hy
  have hV2 : ∀ A c w, Sl w encV 3 A (l ++ [y]) → Calls Try.prog 152 #[.slice A (l ++ [y]).length c] w fun e w' => e = .returned (.bool (versV (l ++ [y]))) ∧ Below w.heap.size w w' := fun A c w h => by
    first
      | exact sVersionsValid_any A c (l ++ [y]) w h (by simp; omega) hf2
      | exact (sVersionsValid_any A c (l ++ [y]) w h (by simp; omega) hf2).mono fun _ _ ⟨h1, h2⟩ => ⟨h1, h2 ▸ Below.refl _ _⟩
  rw [HLEN.out] at hV2
  cases hv : versV l
  · rw [hv] at hV
    have HV := Lib.hid hV
    clear hV hv hV2 hf2
    go_enter Try.func167, Try.ntmps167
    go_wp2_with fail
    refine (HV.out _ (HS.out.alloc _)).mono ?_
    rintro e w1 ⟨rfl, hb1⟩
    have HB1 := Lib.hid (Below_of_alloc hb1)
    clear hb1
    go_wp2
    go_ret2
    exact ⟨_, [], false, rfl, Own.made HB1.out.size, .inl rfl, (by intro h; cases h), HB1.out.alloc HB1.out.size _⟩
  · rw [hv] at hV
    have HV := Lib.hid hV
    cases hv2 : versV (l ++ [y])
    all_goals
      rw [hv2] at hV2
      have HV2 := Lib.hid hV2
      have HVV := Lib.hid hv2
      clear hV hv hV2 hv2 hf2
      go_enter Try.func167, Try.ntmps167
      go_wp2_with fail
      refine (HV.out _ (HS.out.alloc _)).mono ?_
      rintro e w1 ⟨rfl, hb1⟩
      have hz1 : w.heap.size < w1.heap.size := by have := hb1.size; simp at this; omega
      have HK := Lib.hid (show w1.cell? ⟨w.heap.size, 0, none⟩ = some (.int .i64 y.1) ∧ w1.cell? ⟨w.heap.size, 1, none⟩ = some (.int .i64 y.2.1) ∧ w1.cell? ⟨w.heap.size, 2, none⟩ = some (.string y.2.2) from ⟨box_cell hb1 0 rfl, box_cell hb1 1 rfl, box_cell hb1 2 rfl⟩)
      have HB1 := Lib.hid (Below_of_alloc hb1)
      have HS1 := Lib.hid (HS.out.below HB1.out)
      have HS2 := Lib.hid (HS1.out.below ((Below.refl _ _).drew))
      have HD := Lib.hid (Below.refl w1.heap.size w1).drew
      have HD1 := Lib.hid ((Below.refl w1.heap.size w1).alloc (Nat.le_refl _) (.cells #[] 82)).drew
      have HZ := Lib.hid (show w1.heap.size < (w1.alloc (.cells #[] 82)).heap.size by simp)
      have HZ2 := Lib.hid (show w1.heap.size < (w1.alloc (.cells #[.int .i64 y.1, .int .i64 y.2.1, .string y.2.2] 82)).heap.size by simp)
      clear hb1
      go_wp2_with fail
      go_region_held3 (fun w' => w'.cell? ⟨w.heap.size, 0, none⟩ = some (.int .i64 y.1) ∧ w'.cell? ⟨w.heap.size, 1, none⟩ = some (.int .i64 y.2.1) ∧ w'.cell? ⟨w.heap.size, 2, none⟩ = some (.string y.2.2))
        (first | assumption | exact HK.out | exact keep3 HD.out HK.out | exact keep3 HD1.out HK.out | exact keep3 HB3.out HK.out | exact keep3 HB2.out HK.out | exact keep3 (HB2.out.alloc HB2.out.size _) HK.out | exact keep3 ((Below.refl _ _).alloc (Nat.le_refl _) _).drew HK.out | exact keep3 (((Below.refl _ _).alloc (Nat.le_refl _) _).alloc (Nat.le_of_lt HZ.out) _).drew HK.out | exact keep3 (((Below.refl _ _).alloc (Nat.le_refl _) _).alloc (Nat.le_of_lt HZ2.out) _).drew HK.out)
        ((first
          | (refine step_vr_a HS1.out HC.out HL.out rfl rfl (by rfl) (by rfl) ?_; intro v2 w2 hown2 hb2; have HW2 := Lib.hid (hown2.alloc (rowV y)); have HB2 := Lib.hid hb2; have HBR := Lib.hid (hb2.alloc hb2.size (rowV y)); have HR := Lib.hid (RowAt.new w2 y); clear hown2 hb2)
          | (refine step_vr_b (y := y) HS1.out HC.out HL.out rfl rfl (by rfl) (by rfl) ?_; intro v2 w2 hown2 hb2 hr2; have HW2 := Lib.hid hown2; have HB2 := Lib.hid hb2; have HBR := HB2; have HR := Lib.hid hr2; clear hown2 hb2 hr2)
          | (refine step_vr_c (y := y) HS1.out HC.out HL.out rfl rfl (by rfl) (by rfl) ?_; intro v2 w2 hown2 hb2 hr2; have HW2 := Lib.hid hown2; have HB2 := Lib.hid hb2; have HBR := HB2; have HR := Lib.hid hr2; clear hown2 hb2 hr2)
          | (refine step_vr_d HW2.out HBR.out HR.out HL.out rfl rfl (by rfl) (by rfl) ?_; intro v3 w3 hown3 hb3; have HW3 := Lib.hid hown3; have HB3 := Lib.hid hb3; clear hown3 hb3)))
      all_goals
        obtain ⟨X, d, ev, _, _, _⟩ := HW3.out.sl
        rw [HLEN.out] at ev
        subst ev
        have HBB := Lib.hid (Below_then HB1.out HB3.out (Nat.le_refl _))
        go_wp2_with fail
        refine (HV2.out _ _ _ HW3.out.sl').mono ?_
        rintro e w4 ⟨rfl, hb4⟩
        have HW4 := Lib.hid (HW3.out.below hb4)
        have HB4 := Lib.hid (Below_then HBB.out hb4 (Nat.le_refl _))
        have HS4 := Lib.hid (HS.out.below HB4.out)
        clear hb4
        go_wp2_with (at_builtin; refine app_vrN (w0 := w4) (l := []) rfl rfl (Own.made (Nat.le_refl _)) ((Below.refl _ _).alloc (Nat.le_refl _) _) (by simp; omega) (HS4.out.alloc _) HC.out (by rfl) (by rfl) ?_; intro v5 w5 hown5 hb5 hg5; have HW5 := Lib.hid hown5; have HB5 := Lib.hid hb5; clear hown5 hb5 hg5)
        go_ret2
        first
          | exact ⟨_, l, false, rfl, HW5.out.mono HB4.out.size, .inr (.inl rfl), (by intro h; cases h), Below_then HB4.out HB5.out (Nat.le_refl _)⟩
          | exact ⟨_, l ++ [y], true, rfl, HW4.out.mono HB1.out.size, .inr (.inr rfl), (fun _ => ⟨rfl, HVV.out⟩), HB4.out⟩
end Go.Proofs.Ytbefbenihahdnaa
