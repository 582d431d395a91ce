/- Texts in one: Na, Cp, Pj. -/
import Derived.Test.YtkglfmgmmnfmbaaDoorGb2
import Derived.Test.YtkglfmgmmnfmbaaDoorGa9
import Derived.Test.YtkglfmgmmnfmbaaDoorGa7
import Derived.Test.YtkglfmgmmnfmbaaDoorGb5
import Derived.Test.YtkglfmgmmnfmbaaDoorGa0
import Derived.Test.YtkglfmgmmnfmbaaDoorShelf
import Derived.Test.YtkglfmgmmnfmbaaDoorGb6
import Derived.Lib.Join
/- NewArchive, walked. -/
set_option linter.unusedVariables false
namespace Go.Proofs.YtkglfmgmmnfmbaaDoor
open Go.RowKit
/-- An archive's value: its pieces and its versions lie in rows of the call's own. -/
def ArV (w : World) (base : Nat) (a : Ar) (v : Value) : Prop := ∃ p q, v = .agg #[p, .int .i64 a.op, q] ∧ Own w base 57 2 encP p a.ps ∧ Own w base 45 3 encV q a.vs ∧ ApartV p q
def NaRes (r : Ar × Bool) (w : World) (e : Ending) (w' : World) : Prop := ∃ v, e = .returned (.tuple #[v, .bool r.2]) ∧ ArV w' w.heap.size r.1 v ∧ Below w.heap.size w w'
theorem NaRes.no {w w' : World} (hb : Below w.heap.size w w') : NaRes (⟨[], 0, []⟩, false) w (.returned (.tuple #[.agg #[.slice none 0 0, .int .i64 0, .slice none 0 0], .bool false])) w' := ⟨_, rfl, ⟨_, _, rfl, Own.nil, Own.nil, ApartV.nil _⟩, hb⟩
theorem NaRes.yes {w w' : World} {l : List Pc} {x : Int} {p : Value} (h : Own w' w.heap.size 57 2 encP p l) (hb : Below w.heap.size w w') : NaRes (⟨l, x, []⟩, true) w (.returned (.tuple #[.agg #[p, .int .i64 x, .slice none 0 0], .bool true])) w' := ⟨_, rfl, ⟨_, _, rfl, h, Own.nil, ApartV.nil _⟩, hb⟩
theorem newA_len (l : List Pc) : (newA l).1.ps.length ≤ 40 ∧ (newA l).1.vs.length ≤ 0 := by
  have h := putT_len l (mk (foldT []))
  unfold newA
  generalize putT l (mk (foldT [])) = R at *
  split
  · exact ⟨h, Nat.le_refl _⟩
  · exact ⟨Nat.zero_le _, Nat.le_refl _⟩
set_option maxHeartbeats 2000000 in
set_option maxRecDepth 100000 in
theorem sNewArchive_any (A : Option Addr) (c : Nat) (l : List Pc) (w : World) (hs : Sl w encP 2 A l) (hcz : A = none → c = 0) (hle : l.length ≤ c) (hl : l.length ≤ 16777216) (hf : FitP l) :
    Calls Tryd.prog 35 #[.slice A l.length c] w (NaRes (newA l) w) := by
  have HS := Lib.hid hs
  have hE := fun w h => sEmptyRoot_any A c l w h hcz hle hl hf
  clear hs hcz 
  unfold PutRes foldE at hE
  unfold newA
  generalize mk (foldT []) = FE at *
  generalize putT l FE = R at *
  obtain ⟨R0, R1, R2⟩ := R
  cases R2
  · have HE := Lib.hid hE
    clear hE
    go_enter Tryd.func35, Tryd.ntmps35
    go_wp2_with fail
    refine (HE.out _ (HS.out.alloc _)).mono ?_
    rintro e w1 ⟨v, rfl, hown, hb⟩
    have hr := Row3.new.below hb
    obtain ⟨⟨x0, x1, x2⟩, hfr, _⟩ := hr
    have HB := Lib.hid (Below_of_alloc hb)
    clear hb hown
    go_wp2_with fail
    exact bodyPost_ret (v := .tuple #[.agg #[.slice none 0 0, .int .i64 0, .slice none 0 0], .bool false]) (by simp [results, Tryd.results35, go_sem, x0, x1, x2]) rfl (NaRes.no (((HB.out.setCell (Nat.le_refl _) _).setCell (Nat.le_refl _) _).setCell (Nat.le_refl _) _))
  · have HE := Lib.hid hE
    clear hE
    go_enter Tryd.func35, Tryd.ntmps35
    go_wp2_with fail
    refine (HE.out _ (HS.out.alloc _)).mono ?_
    rintro e w1 ⟨v, rfl, hown, hb⟩
    have hr := Row3.new.below hb
    obtain ⟨⟨x0, x1, x2⟩, hfr, _⟩ := hr
    have hlt : w.heap.size < (w.alloc (.cells #[.slice none 0 0, .int .i64 0, .slice none 0 0] 26)).heap.size := by simp
    have HB := Lib.hid (Below_of_alloc hb)
    have HW := Lib.hid hown
    obtain ⟨X, d, rfl, _, _, _⟩ := hown.sl
    clear hb hown
    go_wp2_with fail
    exact bodyPost_ret (v := .tuple #[.agg #[.slice X R0.length d, .int .i64 R1, .slice none 0 0], .bool true]) (by simp [results, Tryd.results35, go_sem, x0, x1, x2]) rfl (NaRes.yes ((((HW.out.setBelow hlt _).setBelow hlt _).setBelow hlt _).mono (Nat.le_of_lt hlt)) (((HB.out.setCell (Nat.le_refl _) _).setCell (Nat.le_refl _) _).setCell (Nat.le_refl _) _))
end Go.Proofs.YtkglfmgmmnfmbaaDoor

/- l34Copy of the reference: a copy of an archive. Written by gen_cp.py. -/
set_option linter.unusedVariables false
namespace Go.Proofs.YtkglfmgmmnfmbaaDoor
open Go.RowKit
theorem Own.keepG {α : Type} {enc : α → List Value} {w w' : World} {base size : Nat} {E : TypeId} {u v : Value} {l : List α} (h : Own w base E size enc u l) (hg : Grew v w w') (ha : ApartV u v) : Own w' base E size enc u l := by
  refine World.ownsRow.kept h (row := v.ownBlock) hg ?_
  cases hu : u.ownBlock with
  | none => exact .inl rfl
  | some k => exact .inr fun e => ha k hu e.symm
theorem Row3.keepG {w w' : World} {b : Nat} {v v0 v1 v2 : Value} (h : Row3 w b v0 v1 v2) (hg : Grew v w w') (hb : ∀ g, v.ownBlock = some g → b < g) : Row3 w' b v0 v1 v2 := h.grew hg fun e => Nat.lt_irrefl _ (hb b e)
section
variable {ops : Array Oper} {rest : List Oper} {o : Oper} {a : Act} {K : Act → World → Prop} {Q : Exit → Act → World → Prop} {E' : Prop} {w0 wr : World} {base : Nat} {v : Value}
set_option maxRecDepth 100000 in
theorem step_pcG {l m : List Pc} {A : Option Addr} {c : Nat} {s x : Operand} (hw : Region.wanted o (yielded ops a.tmps) = true) (ho : o.op = .call { callee := .builtin .append, args := #[s, x], argTypes := #[23, 23] })
    (hown : Own wr base 57 2 encP v l) (hb : Below w0.heap.size w0 wr) (hB : w0.heap.size ≤ base) (hbase : base ≤ wr.heap.size) (hn : l.length + m.length ≤ 33554432) (hsl : Sl wr encP 2 A m) (hcz : A = none → c = 0)
    (hs : a.eval s = v) (hx : a.eval x = .slice A m.length c)
    (h : ∀ v' w', Own w' base 57 2 encP v' (l ++ m) → Below w0.heap.size w0 w' → Grew v wr w' → Kin v wr v' → K (a.put o.dst v') w') : if Region.wanted o (yielded ops a.tmps) = true then Oper.wp Tryd.prog o a wr K Q else E' := by
  obtain ⟨i0, hi0, hz0, hz1, hz2⟩ := info_parts pc_info
  rw [if_pos hw]
  cases A with
  | none =>
    have hm : m = [] := by
      cases m with
      | nil => rfl
      | cons y r => obtain ⟨b, o, e, _⟩ := hsl (by simp); cases e
    subst hm
    rw [hcz rfl] at hx
    have hrun := run_append_owned_none (P := Tryd.prog) (w := wr) base 23 o.type 57 i0 2 Tryd.underlying23 hi0 v l.length (flat encP l) hown
    have hK := h v wr (by rw [List.append_nil]; exact hown) hb (Grew.refl _ _) (fun b _ h => h)
    simp at hx
    unfold Oper.wp
    simp [execOp, ho, resolve, invoke, builtin, hs, hx, hrun, Result.andThen]
    exact hK
  | some ad =>
    obtain ⟨v', w', hr, h2, h3, h4, h5⟩ := run_append_own_at (P := Tryd.prog) wr base 23 o.type 57 i0 _ 2 24 Tryd.underlying23 hi0 hz0 hz1 hz2 rfl (by decide) v l.length (flat encP l) hown ad m.length c (flat encP m) (flat_length (enc := encP) (size := 2) (fun _ => rfl) m) (by
        intro j u hu
        have hpos : 0 < m.length := by
          have hlt := (List.getElem?_eq_some_iff.1 hu).1
          rw [flat_length (enc := encP) (size := 2) (fun _ => rfl)] at hlt
          cases m with
          | nil => simp at hlt
          | cons y r => simp
        obtain ⟨b, o', e, hc⟩ := hsl hpos
        injection e with e
        subst e
        have hadd : (⟨b, o', none⟩ : Addr).add j = ⟨b, o' + j, none⟩ := by unfold Addr.add; split <;> simp_all
        rw [hadd]; exact hc j u hu) (by
        intro u hu
        unfold flat at hu
        obtain ⟨y, _, hy⟩ := List.mem_flatMap.1 hu
        exact oneP y u hy) (by unfold maxLen; omega) (by omega) hbase
    unfold Oper.wp execOp
    simp only [ho, resolve, invoke, builtin, Sem.run_bind, Sem.run_pure, Result.andThen_ok, List.map_toArray, List.map_cons, List.map_nil, hs, hx, hr]
    refine h v' w' ?_ (hb.grown h3 hb.size (fun k hk => Nat.le_trans hB (World.ownsRow.lt hown k hk).1)) h3 ?_
    · show w'.ownsRow _ _ _ v' (l ++ m).length (flat encP (l ++ m))
      rw [flat_append, List.length_append]; exact h2
    · intro b hb2 hne hv'
      rcases h5 with h5 | h5
      · exact hne (h5 ▸ hv')
      · rw [h5] at hv'; injection hv' with e; omega
set_option maxRecDepth 100000 in
theorem step_vrG {l m : List Vr} {A : Option Addr} {c : Nat} {s x : Operand} (hw : Region.wanted o (yielded ops a.tmps) = true) (ho : o.op = .call { callee := .builtin .append, args := #[s, x], argTypes := #[24, 24] })
    (hown : Own wr base 45 3 encV v l) (hb : Below w0.heap.size w0 wr) (hB : w0.heap.size ≤ base) (hbase : base ≤ wr.heap.size) (hn : l.length + m.length ≤ 33554432) (hsl : Sl wr encV 3 A m) (hcz : A = none → c = 0)
    (hs : a.eval s = v) (hx : a.eval x = .slice A m.length c)
    (h : ∀ v' w', Own w' base 45 3 encV v' (l ++ m) → Below w0.heap.size w0 w' → Grew v wr w' → Kin v wr v' → K (a.put o.dst v') w') : if Region.wanted o (yielded ops a.tmps) = true then Oper.wp Tryd.prog o a wr K Q else E' := by
  obtain ⟨i0, hi0, hz0, hz1, hz2⟩ := info_parts encV_info
  rw [if_pos hw]
  cases A with
  | none =>
    have hm : m = [] := by
      cases m with
      | nil => rfl
      | cons y r => obtain ⟨b, o, e, _⟩ := hsl (by simp); cases e
    subst hm
    rw [hcz rfl] at hx
    have hrun := run_append_owned_none (P := Tryd.prog) (w := wr) base 24 o.type 45 i0 3 Tryd.underlying24 hi0 v l.length (flat encV l) hown
    have hK := h v wr (by rw [List.append_nil]; exact hown) hb (Grew.refl _ _) (fun b _ h => h)
    simp at hx
    unfold Oper.wp
    simp [execOp, ho, resolve, invoke, builtin, hs, hx, hrun, Result.andThen]
    exact hK
  | some ad =>
    obtain ⟨v', w', hr, h2, h3, h4, h5⟩ := run_append_own_at (P := Tryd.prog) wr base 24 o.type 45 i0 _ 3 32 Tryd.underlying24 hi0 hz0 hz1 hz2 rfl (by decide) v l.length (flat encV l) hown ad m.length c (flat encV m) (flat_length (enc := encV) (size := 3) (fun _ => rfl) m) (by
        intro j u hu
        have hpos : 0 < m.length := by
          have hlt := (List.getElem?_eq_some_iff.1 hu).1
          rw [flat_length (enc := encV) (size := 3) (fun _ => rfl)] at hlt
          cases m with
          | nil => simp at hlt
          | cons y r => simp
        obtain ⟨b, o', e, hc⟩ := hsl hpos
        injection e with e
        subst e
        have hadd : (⟨b, o', none⟩ : Addr).add j = ⟨b, o' + j, none⟩ := by unfold Addr.add; split <;> simp_all
        rw [hadd]; exact hc j u hu) (by
        intro u hu
        unfold flat at hu
        obtain ⟨y, _, hy⟩ := List.mem_flatMap.1 hu
        exact oneV y u hy) (by unfold maxLen; omega) (by omega) hbase
    unfold Oper.wp execOp
    simp only [ho, resolve, invoke, builtin, Sem.run_bind, Sem.run_pure, Result.andThen_ok, List.map_toArray, List.map_cons, List.map_nil, hs, hx, hr]
    refine h v' w' ?_ (hb.grown h3 hb.size (fun k hk => Nat.le_trans hB (World.ownsRow.lt hown k hk).1)) h3 ?_
    · show w'.ownsRow _ _ _ v' (l ++ m).length (flat encV (l ++ m))
      rw [flat_append, List.length_append]; exact h2
    · intro b hb2 hne hv'
      rcases h5 with h5 | h5
      · exact hne (h5 ▸ hv')
      · rw [h5] at hv'; injection hv' with e; omega
end
section
variable {w : World} {A B : Option Addr} {c dd : Nat} {l : List Pc} {m : List Vr} {x : Int} {P V : Value} {lp : List Pc} {lv : List Vr} {d : Nat → Bool} {v0 v1 v2 v3 v4 v5 v6 v7 v8 v9 v10 : Value} {W W' : World} {v' : Value}
structure CpJ (w : World) (A B : Option Addr) (c dd : Nat) (l : List Pc) (m : List Vr) (x : Int) (P V : Value) (lp : List Pc) (lv : List Vr) (d : Nat → Bool) (v0 v1 v2 v3 v4 v5 v6 v7 v8 v9 v10 : Value) (W : World) : Prop where
  bel : Below w.heap.size w W
  hz : w.heap.size + 2 ≤ W.heap.size
  r0 : Row3 W w.heap.size (.slice A l.length c) (.int .i64 x) (.slice B m.length dd)
  r1 : d 11 = false → Row3 W (w.heap.size + 1) (.slice none 0 0) (.int .i64 0) (.slice none 0 0)
  r2 : d 11 = true → Row3 W (w.heap.size + 1) P (.int .i64 x) V
  p : d 0 = true → Own W (w.heap.size + 2) 57 2 encP P lp
  v : d 6 = true → Own W (w.heap.size + 2) 45 3 encV V lv
  ap : d 0 = true → d 6 = true → ApartV P V
  o3 : d 3 = true → d 0 = true
  o9 : d 9 = true → d 6 = true
  o10 : d 10 = true → d 3 = true ∧ d 9 = true
  o11 : d 11 = true → d 10 = true ∧ d 9 = true
  lp0 : d 3 = false → lp = []
  lp3 : d 3 = true → lp = l
  lv0 : d 9 = false → lv = []
  lv9 : d 9 = true → lv = m
  c0 : d 0 = true → d 3 = false → v0 = P
  c1 : d 1 = true → v1 = .pointer (some ⟨w.heap.size, 0, none⟩)
  c2 : d 2 = true → v2 = .slice A l.length c
  c3 : d 3 = true → v3 = P
  c4 : d 4 = true → v4 = .pointer (some ⟨w.heap.size, 1, none⟩)
  c5 : d 5 = true → v5 = .int .i64 x
  c6 : d 6 = true → d 9 = false → v6 = V
  c7 : d 7 = true → v7 = .pointer (some ⟨w.heap.size, 2, none⟩)
  c8 : d 8 = true → v8 = .slice B m.length dd
  c9 : d 9 = true → v9 = V
  c10 : d 10 = true → v10 = .agg #[P, .int .i64 x, V]
theorem CpJ.n3 (h : CpJ w A B c dd l m x P V lp lv d v0 v1 v2 v3 v4 v5 v6 v7 v8 v9 v10 W) (h3 : d 3 = false) : d 10 = false ∧ d 11 = false := by
  have h10 : d 10 = false := by
    cases e : d 10
    · rfl
    · rw [(h.o10 e).1] at h3; cases h3
  refine ⟨h10, ?_⟩
  cases e : d 11
  · rfl
  · rw [(h.o11 e).1] at h10; cases h10
theorem CpJ.n9 (h : CpJ w A B c dd l m x P V lp lv d v0 v1 v2 v3 v4 v5 v6 v7 v8 v9 v10 W) (h9 : d 9 = false) : d 10 = false ∧ d 11 = false := by
  have h10 : d 10 = false := by
    cases e : d 10
    · rfl
    · rw [(h.o10 e).2] at h9; cases h9
  refine ⟨h10, ?_⟩
  cases e : d 11
  · rfl
  · rw [(h.o11 e).1] at h10; cases h10
theorem CpJ.step0 (h : CpJ w A B c dd l m x P V lp lv d v0 v1 v2 v3 v4 v5 v6 v7 v8 v9 v10 W) (h0 : d 0 = false) : CpJ w A B c dd l m x (.slice (some ⟨W.heap.size, 0, none⟩) 0 0) V [] lv (fun j => j == 0 || d j) (.slice (some ⟨W.heap.size, 0, none⟩) 0 0) v1 v2 v3 v4 v5 v6 v7 v8 v9 v10 (W.alloc (.cells #[] 57)) := by
  have h3 : d 3 = false := by
    cases e : d 3
    · rfl
    · rw [h.o3 e] at h0; cases h0
  obtain ⟨h10, h11⟩ := h.n3 h3
  have hb := (Below.refl W.heap.size W).alloc (Nat.le_refl _) (.cells #[] 57)
  exact { h with
    bel := Below_then h.bel hb (Nat.le_refl _)
    hz := by have := h.hz; simp; omega
    r0 := h.r0.below hb
    r1 := fun e => (h.r1 e).below hb
    r2 := fun e => by rw [show d 11 = true from e] at h11; cases h11
    p := fun _ => Own.made h.hz
    v := fun e => (h.v e).below hb
    ap := fun _ e g hg hv => by
      have hg : some W.heap.size = some g := hg
      injection hg with hg; subst hg
      exact absurd ((h.v e).blk _ hv).2 (Nat.lt_irrefl _)
    o3 := fun _ => rfl
    lp0 := fun _ => rfl
    lp3 := fun e => by rw [show d 3 = true from e] at h3; cases h3
    c0 := fun _ _ => rfl
    c3 := fun e => by rw [show d 3 = true from e] at h3; cases h3
    c10 := fun e => by rw [show d 10 = true from e] at h10; cases h10 }
theorem CpJ.step6 (h : CpJ w A B c dd l m x P V lp lv d v0 v1 v2 v3 v4 v5 v6 v7 v8 v9 v10 W) (h6 : d 6 = false) : CpJ w A B c dd l m x P (.slice (some ⟨W.heap.size, 0, none⟩) 0 0) lp [] (fun j => j == 6 || d j) v0 v1 v2 v3 v4 v5 (.slice (some ⟨W.heap.size, 0, none⟩) 0 0) v7 v8 v9 v10 (W.alloc (.cells #[] 45)) := by
  have h9 : d 9 = false := by
    cases e : d 9
    · rfl
    · rw [h.o9 e] at h6; cases h6
  obtain ⟨h10, h11⟩ := h.n9 h9
  have hb := (Below.refl W.heap.size W).alloc (Nat.le_refl _) (.cells #[] 45)
  exact { h with
    bel := Below_then h.bel hb (Nat.le_refl _)
    hz := by have := h.hz; simp; omega
    r0 := h.r0.below hb
    r1 := fun e => (h.r1 e).below hb
    r2 := fun e => by rw [show d 11 = true from e] at h11; cases h11
    p := fun e => (h.p e).below hb
    v := fun _ => Own.made h.hz
    ap := fun e _ g hg hv => by
      have hv : some W.heap.size = some g := hv
      injection hv with hv; subst hv
      exact absurd ((h.p e).blk _ hg).2 (Nat.lt_irrefl _)
    o9 := fun _ => rfl
    lv0 := fun _ => rfl
    lv9 := fun e => by rw [show d 9 = true from e] at h9; cases h9
    c6 := fun _ _ => rfl
    c9 := fun e => by rw [show d 9 = true from e] at h9; cases h9
    c10 := fun e => by rw [show d 10 = true from e] at h10; cases h10 }
theorem CpJ.step3 (h : CpJ w A B c dd l m x P V lp lv d P v1 v2 v3 v4 v5 v6 v7 v8 v9 v10 W) (h0 : d 0 = true) (h3 : d 3 = false) (hown : Own W' (w.heap.size + 2) 57 2 encP v' l) (hb : Below w.heap.size w W') (hg : Grew P W W') (hk : Kin P W v') :
    CpJ w A B c dd l m x v' V l lv (fun j => j == 3 || d j) P v1 v2 v' v4 v5 v6 v7 v8 v9 v10 W' := by
  obtain ⟨h10, h11⟩ := h.n3 h3
  have hlo : ∀ b, b < w.heap.size + 2 → ∀ g, P.ownBlock = some g → b < g := fun b hb g hg => Nat.lt_of_lt_of_le hb ((h.p h0).blk g hg).1
  exact { h with
    bel := hb
    hz := Nat.le_trans h.hz hg.size
    r0 := h.r0.keepG hg (hlo _ (by omega))
    r1 := fun e => (h.r1 e).keepG hg (hlo _ (by omega))
    r2 := fun e => by rw [show d 11 = true from e] at h11; cases h11
    p := fun _ => hown
    v := fun e => (h.v e).keepG hg (h.ap h0 e).symm
    ap := fun _ e g hg2 hv => hk g ((h.v e).blk g hv).2 (fun hp => h.ap h0 e g hp hv) hg2
    o3 := fun _ => h0
    o10 := fun e => ⟨rfl, (h.o10 e).2⟩
    lp0 := fun e => by cases e
    lp3 := fun _ => rfl
    c0 := fun _ e => by cases e
    c3 := fun _ => rfl
    c10 := fun e => by rw [show d 10 = true from e] at h10; cases h10 }
theorem CpJ.step9 (h : CpJ w A B c dd l m x P V lp lv d v0 v1 v2 v3 v4 v5 V v7 v8 v9 v10 W) (h6 : d 6 = true) (h9 : d 9 = false) (hown : Own W' (w.heap.size + 2) 45 3 encV v' m) (hb : Below w.heap.size w W') (hg : Grew V W W') (hk : Kin V W v') :
    CpJ w A B c dd l m x P v' lp m (fun j => j == 9 || d j) v0 v1 v2 v3 v4 v5 V v7 v8 v' v10 W' := by
  obtain ⟨h10, h11⟩ := h.n9 h9
  have hlo : ∀ b, b < w.heap.size + 2 → ∀ g, V.ownBlock = some g → b < g := fun b hb g hg => Nat.lt_of_lt_of_le hb ((h.v h6).blk g hg).1
  exact { h with
    bel := hb
    hz := Nat.le_trans h.hz hg.size
    r0 := h.r0.keepG hg (hlo _ (by omega))
    r1 := fun e => (h.r1 e).keepG hg (hlo _ (by omega))
    r2 := fun e => by rw [show d 11 = true from e] at h11; cases h11
    v := fun _ => hown
    p := fun e => (h.p e).keepG hg (h.ap e h6)
    ap := fun e _ g hp hg2 => hk g ((h.p e).blk g hp).2 (fun hv => h.ap e h6 g hp hv) hg2
    o9 := fun _ => h6
    o10 := fun e => ⟨(h.o10 e).1, rfl⟩
    o11 := fun e => ⟨(h.o11 e).1, rfl⟩
    lv0 := fun e => by cases e
    lv9 := fun _ => rfl
    c6 := fun _ e => by cases e
    c9 := fun _ => rfl
    c10 := fun e => by rw [show d 10 = true from e] at h10; cases h10 }
theorem CpJ.step11 (h : CpJ w A B c dd l m x P V lp lv d v0 v1 v2 v3 v4 v5 v6 v7 v8 v9 v10 W) (h11 : d 11 = false) (h3 : d 3 = true) (h9 : d 9 = true) (h10 : d 10 = true) :
    CpJ w A B c dd l m x P V lp lv (fun j => j == 11 || d j) v0 v1 v2 v3 v4 v5 v6 v7 v8 v9 v10 (((W.setCell ⟨w.heap.size + 1, 0, none⟩ P).setCell ⟨w.heap.size + 1, 1, none⟩ (.int .i64 x)).setCell ⟨w.heap.size + 1, 2, none⟩ V) := by
  exact { h with
    bel := ((h.bel.setCell (by simp) _).setCell (by simp) _).setCell (by simp) _
    hz := by simp only [setCell_size]; exact h.hz
    r0 := ((h.r0.other (by simp) _).other (by simp) _).other (by simp) _
    r1 := fun e => by cases e
    r2 := fun _ => (((h.r1 h11).set0 _).set1 _).set2 _
    p := fun e => (((h.p e).setBelow (by simp) _).setBelow (by simp) _).setBelow (by simp) _
    v := fun e => (((h.v e).setBelow (by simp) _).setBelow (by simp) _).setBelow (by simp) _
    o11 := fun _ => ⟨h10, h9⟩ }
end
set_option maxHeartbeats 4000000 in
set_option maxRecDepth 100000 in
theorem sl34Copy_any (A B : Option Addr) (c dd : Nat) (l : List Pc) (m : List Vr) (x : Int) (w : World) (hs : Sl w encP 2 A l) (hcz : A = none → c = 0) (hl : l.length ≤ 16777216) (ht : Sl w encV 3 B m) (hcz2 : B = none → dd = 0) (hl2 : m.length ≤ 16777216) :
    Calls Tryd.prog 57 #[.agg #[.slice A l.length c, .int .i64 x, .slice B m.length dd]] w fun e w' => ∃ v, e = .returned v ∧ ArV w' w.heap.size ⟨l, x, m⟩ v ∧ Below w.heap.size w w' := by
  have HS := Lib.hid hs
  have HT := Lib.hid ht
  have HCZ := Lib.hid hcz
  have HCZ2 := Lib.hid hcz2
  have hr0 := (Row3.new (w := w) (v0 := .slice A l.length c) (v1 := .int .i64 x) (v2 := .slice B m.length dd) (E := 26)).below ((Below.refl _ _).alloc (Nat.le_refl _) (.cells #[.slice none 0 0, .int .i64 0, .slice none 0 0] 26))
  have hr1 := Row3.new (w := w.alloc (.cells #[.slice A l.length c, .int .i64 x, .slice B m.length dd] 26)) (v0 := .slice none 0 0) (v1 := .int .i64 0) (v2 := .slice none 0 0) (E := 26)
  rw [World.alloc_size_] at hr1
  have HR0 := Lib.hid hr0
  have HR1 := Lib.hid hr1
  have HB := Lib.hid (((Below.refl w.heap.size w).alloc (Nat.le_refl _) (.cells #[.slice A l.length c, .int .i64 x, .slice B m.length dd] 26)).alloc (by simp) (.cells #[.slice none 0 0, .int .i64 0, .slice none 0 0] 26))
  clear hs ht hcz hcz2 hr0 hr1
  go_enter Tryd.func57, Tryd.ntmps57
  go_wp2_with fail
  refine wp_region_inv (by kernel_rfl) (by kernel_rfl) (fun a0 d a W => ∃ (v0 v1 v2 v3 v4 v5 v6 v7 v8 v9 v10 : Value) (P V : Value) (lp : List Pc) (lv : List Vr), a = ⟨#[.agg #[.slice A l.length c, .int .i64 x, .slice B m.length dd], .pointer (some ⟨w.heap.size, 0, none⟩), .pointer (some ⟨w.heap.size + 1, 0, none⟩), v0, v1, v2, v3, v4, v5, v6, v7, v8, v9, v10], []⟩ ∧ CpJ w A B c dd l m x P V lp lv d v0 v1 v2 v3 v4 v5 v6 v7 v8 v9 v10 W) ?_ ?_ ?_
  · exact ⟨_, _, _, _, _, _, _, _, _, _, _, .slice none 0 0, .slice none 0 0, [], [], rfl, ⟨Below_drewN HB.out 1, by show _ ≤ ((w.alloc _).alloc _).heap.size; simp, HR0.out.below (Below_drewN (Below.refl _ _) 1), fun _ => HR1.out.below (Below_drewN (Below.refl _ _) 1), nofun, nofun, nofun, nofun, nofun, nofun, nofun, nofun, fun _ => rfl, nofun, fun _ => rfl, nofun, nofun, nofun, nofun, nofun, nofun, nofun, nofun, nofun, nofun, nofun, nofun⟩⟩
  · refine ⟨?_, ?_, ?_, ?_, ?_, ?_, ?_, ?_, ?_, ?_, ?_, ?_, trivial⟩
    all_goals
      intro d a W K hd hdep hJ hK
      obtain ⟨v0, v1, v2, v3, v4, v5, v6, v7, v8, v9, v10, P, V, lp, lv, rfl, hj⟩ := hJ
      have HJ := Lib.hid hj
      have HK := Lib.hid hK
      have HD := Lib.hid hd
      have HDEP := Lib.hid hdep
      clear hj hK hd hdep
    · go_simp
      exact HK.out _ _ ⟨_, _, _, _, _, _, _, _, _, _, _, _, _, _, _, rfl, HJ.out.step0 HD.out⟩
    · go_simp
      exact HK.out _ _ ⟨_, _, _, _, _, _, _, _, _, _, _, _, _, _, _, rfl, { HJ.out with c1 := fun _ => rfl }⟩
    · obtain rfl := HJ.out.c1 (HDEP.out { on := 1, ground := Ground.data } (by simp) rfl)
      obtain ⟨⟨x0, x1, x2⟩, _, _⟩ := HJ.out.r0
      go_simp
      exact HK.out _ _ ⟨_, _, _, _, _, _, _, _, _, _, _, _, _, _, _, rfl, { HJ.out with c2 := fun _ => rfl }⟩
    · have h0 := (HDEP.out { on := 0, ground := Ground.data } (by simp) rfl)
      have e0 := HJ.out.c0 h0 HD.out
      subst e0
      obtain rfl := HJ.out.c2 (HDEP.out { on := 2, ground := Ground.data } (by simp) rfl)
      have elp := HJ.out.lp0 HD.out
      subst elp
      refine step_pcG (w0 := w) (base := w.heap.size + 2) (by rfl) rfl (HJ.out.p h0) (HJ.out.bel) (by omega) (by have := HJ.out.hz; omega) (by simp; omega) (HS.out.below HJ.out.bel) HCZ.out rfl rfl ?_
      intro v' W' hown hb hg hk
      rw [List.nil_append] at hown
      exact HK.out _ _ ⟨_, _, _, _, _, _, _, _, _, _, _, _, _, _, _, rfl, HJ.out.step3 h0 HD.out hown hb hg hk⟩
    · go_simp
      exact HK.out _ _ ⟨_, _, _, _, _, _, _, _, _, _, _, _, _, _, _, rfl, { HJ.out with c4 := fun _ => rfl }⟩
    · obtain rfl := HJ.out.c4 (HDEP.out { on := 4, ground := Ground.data } (by simp) rfl)
      obtain ⟨⟨x0, x1, x2⟩, _, _⟩ := HJ.out.r0
      go_simp
      exact HK.out _ _ ⟨_, _, _, _, _, _, _, _, _, _, _, _, _, _, _, rfl, { HJ.out with c5 := fun _ => rfl }⟩
    · go_simp
      exact HK.out _ _ ⟨_, _, _, _, _, _, _, _, _, _, _, _, _, _, _, rfl, HJ.out.step6 HD.out⟩
    · go_simp
      exact HK.out _ _ ⟨_, _, _, _, _, _, _, _, _, _, _, _, _, _, _, rfl, { HJ.out with c7 := fun _ => rfl }⟩
    · obtain rfl := HJ.out.c7 (HDEP.out { on := 7, ground := Ground.data } (by simp) rfl)
      obtain ⟨⟨x0, x1, x2⟩, _, _⟩ := HJ.out.r0
      go_simp
      exact HK.out _ _ ⟨_, _, _, _, _, _, _, _, _, _, _, _, _, _, _, rfl, { HJ.out with c8 := fun _ => rfl }⟩
    · have h6 := (HDEP.out { on := 6, ground := Ground.data } (by simp) rfl)
      have e6 := HJ.out.c6 h6 HD.out
      subst e6
      obtain rfl := HJ.out.c8 (HDEP.out { on := 8, ground := Ground.data } (by simp) rfl)
      have elv := HJ.out.lv0 HD.out
      subst elv
      refine step_vrG (w0 := w) (base := w.heap.size + 2) (by rfl) rfl (HJ.out.v h6) (HJ.out.bel) (by omega) (by have := HJ.out.hz; omega) (by simp; omega) (HT.out.below HJ.out.bel) HCZ2.out rfl rfl ?_
      intro v' W' hown hb hg hk
      rw [List.nil_append] at hown
      exact HK.out _ _ ⟨_, _, _, _, _, _, _, _, _, _, _, _, _, _, _, rfl, HJ.out.step9 h6 HD.out hown hb hg hk⟩
    · obtain rfl := HJ.out.c3 (HDEP.out { on := 3, ground := Ground.data } (by simp) rfl)
      obtain rfl := HJ.out.c5 (HDEP.out { on := 5, ground := Ground.data } (by simp) rfl)
      obtain rfl := HJ.out.c9 (HDEP.out { on := 9, ground := Ground.data } (by simp) rfl)
      obtain ⟨A3, k3, e3, _⟩ := (HJ.out.p (HJ.out.o3 (HDEP.out { on := 3, ground := Ground.data } (by simp) rfl))).sl
      subst e3
      obtain ⟨A4, k4, e4, _⟩ := (HJ.out.v (HJ.out.o9 (HDEP.out { on := 9, ground := Ground.data } (by simp) rfl))).sl
      subst e4
      go_simp
      exact HK.out _ _ ⟨_, _, _, _, _, _, _, _, _, _, _, _, _, _, _, rfl, { HJ.out with o10 := fun _ => ⟨(HDEP.out { on := 3, ground := Ground.data } (by simp) rfl), (HDEP.out { on := 9, ground := Ground.data } (by simp) rfl)⟩, o11 := fun e => ⟨rfl, (HJ.out.o11 e).2⟩, c10 := fun _ => rfl }⟩
    · have h10 := (HDEP.out { on := 10, ground := Ground.data } (by simp) rfl)
      obtain ⟨h3, h9⟩ := HJ.out.o10 h10
      obtain rfl := HJ.out.c10 h10
      obtain ⟨A3, k3, e3, _⟩ := (HJ.out.p (HJ.out.o3 h3)).sl
      subst e3
      obtain ⟨A4, k4, e4, _⟩ := (HJ.out.v (HJ.out.o9 h9)).sl
      subst e4
      have hr1 := HJ.out.r1 HD.out
      have hfz := fun o => hr1.2.1 o
      obtain ⟨⟨y0, y1, y2⟩, hfr, hlt⟩ := hr1
      go_simp
      exact HK.out _ _ ⟨_, _, _, _, _, _, _, _, _, _, _, _, _, _, _, rfl, HJ.out.step11 HD.out h3 h9 h10⟩
  · intro d a W hd hJ
    obtain ⟨v0, v1, v2, v3, v4, v5, v6, v7, v8, v9, v10, P, V, lp, lv, rfl, hj⟩ := hJ
    obtain rfl := hj.lp3 (hd 3 (by decide))
    obtain rfl := hj.lv9 (hd 9 (by decide))
    obtain ⟨⟨y0, y1, y2⟩, _, _⟩ := hj.r2 (hd 11 (by decide))
    have HP := Lib.hid ((hj.p (hd 0 (by decide))).mono (show w.heap.size ≤ w.heap.size + 2 by omega))
    have HV := Lib.hid ((hj.v (hd 6 (by decide))).mono (show w.heap.size ≤ w.heap.size + 2 by omega))
    have HAP := Lib.hid (hj.ap (hd 0 (by decide)) (hd 6 (by decide)))
    have HB2 := Lib.hid hj.bel
    clear hj hd
    go_wp2_with fail
    exact bodyPost_ret (v := .agg #[P, .int .i64 x, V]) (by simp [results, Tryd.results57, go_sem, y0, y1, y2]) rfl ⟨_, rfl, ⟨P, V, rfl, HP.out, HV.out, HAP.out⟩, HB2.out⟩
end Go.Proofs.YtkglfmgmmnfmbaaDoor

/- JoinPath and PathParts of the program: the library's Join and SplitN at a slash. -/
set_option linter.unusedVariables false
namespace Go.Proofs.YtkglfmgmmnfmbaaDoor
open Go.RowKit
--BEGIN
--END
end Go.Proofs.YtkglfmgmmnfmbaaDoor
