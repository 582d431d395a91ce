/- Texts in one: Na, Cp, Pj. -/
import Derived.Test.YtkglfmgmmnfmbaaGreatDoorGb2
import Derived.Test.YtkglfmgmmnfmbaaGreatDoorGa9
import Derived.Test.YtkglfmgmmnfmbaaGreatDoorGa7
import Derived.Test.YtkglfmgmmnfmbaaGreatDoorGb5
import Derived.Test.YtkglfmgmmnfmbaaGreatDoorGa0
import Derived.Test.YtkglfmgmmnfmbaaGreatDoorShelf
import Derived.Test.YtkglfmgmmnfmbaaGreatDoorGb6
import Derived.Lib.Join
/- NewArchive, walked. -/
set_option linter.unusedVariables false
namespace Go.Proofs.YtkglfmgmmnfmbaaGreatDoor
open Go.RowKit
/-- An archive's value: its pieces and its versions lie in rows of the call's own. -/
def ArV (w : World) (base : Nat) (a : Ar) (v : Value) : Prop := ∃ p q, v = .agg #[p, .int .i64 a.op, q] ∧ Own w base 107 2 encP p a.ps ∧ Own w base 63 3 encV q a.vs ∧ ApartV p q
def NaRes (r : Ar × Bool) (w : World) (e : Ending) (w' : World) : Prop := ∃ v, e = .returned (.tuple #[v, .bool r.2]) ∧ ArV w' w.heap.size r.1 v ∧ Below w.heap.size w w'
theorem NaRes.no {w w' : World} (hb : Below w.heap.size w w') : NaRes (⟨[], 0, []⟩, false) w (.returned (.tuple #[.agg #[.slice none 0 0, .int .i64 0, .slice none 0 0], .bool false])) w' := ⟨_, rfl, ⟨_, _, rfl, Own.nil, Own.nil, ApartV.nil _⟩, hb⟩
theorem NaRes.yes {w w' : World} {l : List Pc} {x : Int} {p : Value} (h : Own w' w.heap.size 107 2 encP p l) (hb : Below w.heap.size w w') : NaRes (⟨l, x, []⟩, true) w (.returned (.tuple #[.agg #[p, .int .i64 x, .slice none 0 0], .bool true])) w' := ⟨_, rfl, ⟨_, _, rfl, h, Own.nil, ApartV.nil _⟩, hb⟩
theorem newA_len (l : List Pc) : (newA l).1.ps.length ≤ 40 ∧ (newA l).1.vs.length ≤ 0 := by
  have h := putT_len l (mk (foldT []))
  unfold newA
  generalize putT l (mk (foldT [])) = R at *
  split
  · exact ⟨h, Nat.le_refl _⟩
  · exact ⟨Nat.zero_le _, Nat.le_refl _⟩
set_option maxHeartbeats 2000000 in
set_option maxRecDepth 100000 in
theorem sNewArchive_any (A : Option Addr) (c : Nat) (l : List Pc) (w : World) (hs : Sl w encP 2 A l) (hcz : A = none → c = 0) (hle : l.length ≤ c) (hl : l.length ≤ 16777216) (hf : FitP l) :
    Calls Tryz.prog 115 #[.slice A l.length c] w (NaRes (newA l) w) := by
  have HS := Lib.hid hs
  have hE := fun w h => sEmptyRoot_any A c l w h hcz hle hl hf
  clear hs hcz 
  unfold PutRes foldE at hE
  unfold newA
  generalize mk (foldT []) = FE at *
  generalize putT l FE = R at *
  obtain ⟨R0, R1, R2⟩ := R
  cases R2
  · have HE := Lib.hid hE
    clear hE
    go_enter Tryz.func115, Tryz.ntmps115
    go_wp2_with fail
    refine (HE.out _ (HS.out.alloc _)).mono ?_
    rintro e w1 ⟨v, rfl, hown, hb⟩
    have hr := Row3.new.below hb
    obtain ⟨⟨x0, x1, x2⟩, hfr, _⟩ := hr
    have HB := Lib.hid (Below_of_alloc hb)
    clear hb hown
    go_wp2_with fail
    exact bodyPost_ret (v := .tuple #[.agg #[.slice none 0 0, .int .i64 0, .slice none 0 0], .bool false]) (by simp [results, Tryz.results115, go_sem, x0, x1, x2]) rfl (NaRes.no (((HB.out.setCell (Nat.le_refl _) _).setCell (Nat.le_refl _) _).setCell (Nat.le_refl _) _))
  · have HE := Lib.hid hE
    clear hE
    go_enter Tryz.func115, Tryz.ntmps115
    go_wp2_with fail
    refine (HE.out _ (HS.out.alloc _)).mono ?_
    rintro e w1 ⟨v, rfl, hown, hb⟩
    have hr := Row3.new.below hb
    obtain ⟨⟨x0, x1, x2⟩, hfr, _⟩ := hr
    have hlt : w.heap.size < (w.alloc (.cells #[.slice none 0 0, .int .i64 0, .slice none 0 0] 30)).heap.size := by simp
    have HB := Lib.hid (Below_of_alloc hb)
    have HW := Lib.hid hown
    obtain ⟨X, d, rfl, _, _, _⟩ := hown.sl
    clear hb hown
    go_wp2_with fail
    exact bodyPost_ret (v := .tuple #[.agg #[.slice X R0.length d, .int .i64 R1, .slice none 0 0], .bool true]) (by simp [results, Tryz.results115, go_sem, x0, x1, x2]) rfl (NaRes.yes ((((HW.out.setBelow hlt _).setBelow hlt _).setBelow hlt _).mono (Nat.le_of_lt hlt)) (((HB.out.setCell (Nat.le_refl _) _).setCell (Nat.le_refl _) _).setCell (Nat.le_refl _) _))
end Go.Proofs.YtkglfmgmmnfmbaaGreatDoor

/- l34Copy of the reference: a copy of an archive. Written by gen_cp.py. -/
set_option linter.unusedVariables false
namespace Go.Proofs.YtkglfmgmmnfmbaaGreatDoor
open Go.RowKit
theorem Own.keepG {α : Type} {enc : α → List Value} {w w' : World} {base size : Nat} {E : TypeId} {u v : Value} {l : List α} (h : Own w base E size enc u l) (hg : Grew v w w') (ha : ApartV u v) : Own w' base E size enc u l := by
  refine World.ownsRow.kept h (row := v.ownBlock) hg ?_
  cases hu : u.ownBlock with
  | none => exact .inl rfl
  | some k => exact .inr fun e => ha k hu e.symm
theorem Row3.keepG {w w' : World} {b : Nat} {v v0 v1 v2 : Value} (h : Row3 w b v0 v1 v2) (hg : Grew v w w') (hb : ∀ g, v.ownBlock = some g → b < g) : Row3 w' b v0 v1 v2 := h.grew hg fun e => Nat.lt_irrefl _ (hb b e)
section
variable {ops : Array Oper} {rest : List Oper} {o : Oper} {a : Act} {K : Act → World → Prop} {Q : Exit → Act → World → Prop} {E' : Prop} {w0 wr : World} {base : Nat} {v : Value}
set_option maxRecDepth 100000 in
theorem step_pcG {l m : List Pc} {A : Option Addr} {c : Nat} {s x : Operand} (hw : Region.wanted o (yielded ops a.tmps) = true) (ho : o.op = .call { callee := .builtin .append, args := #[s, x], argTypes := #[27, 27] })
    (hown : Own wr base 107 2 encP v l) (hb : Below w0.heap.size w0 wr) (hB : w0.heap.size ≤ base) (hbase : base ≤ wr.heap.size) (hn : l.length + m.length ≤ 33554432) (hsl : Sl wr encP 2 A m) (hcz : A = none → c = 0)
    (hs : a.eval s = v) (hx : a.eval x = .slice A m.length c)
    (h : ∀ v' w', Own w' base 107 2 encP v' (l ++ m) → Below w0.heap.size w0 w' → Grew v wr w' → Kin v wr v' → K (a.put o.dst v') w') : if Region.wanted o (yielded ops a.tmps) = true then Oper.wp Tryz.prog o a wr K Q else E' := by
  obtain ⟨i0, hi0, hz0, hz1, hz2⟩ := info_parts pc_info
  rw [if_pos hw]
  cases A with
  | none =>
    have hm : m = [] := by
      cases m with
      | nil => rfl
      | cons y r => obtain ⟨b, o, e, _⟩ := hsl (by simp); cases e
    subst hm
    rw [hcz rfl] at hx
    have hrun := run_append_owned_none (P := Tryz.prog) (w := wr) base 27 o.type 107 i0 2 Tryz.underlying27 hi0 v l.length (flat encP l) hown
    have hK := h v wr (by rw [List.append_nil]; exact hown) hb (Grew.refl _ _) (fun b _ h => h)
    simp at hx
    unfold Oper.wp
    simp [execOp, ho, resolve, invoke, builtin, hs, hx, hrun, Result.andThen]
    exact hK
  | some ad =>
    obtain ⟨v', w', hr, h2, h3, h4, h5⟩ := run_append_own_at (P := Tryz.prog) wr base 27 o.type 107 i0 _ 2 24 Tryz.underlying27 hi0 hz0 hz1 hz2 rfl (by decide) v l.length (flat encP l) hown ad m.length c (flat encP m) (flat_length (enc := encP) (size := 2) (fun _ => rfl) m) (by
        intro j u hu
        have hpos : 0 < m.length := by
          have hlt := (List.getElem?_eq_some_iff.1 hu).1
          rw [flat_length (enc := encP) (size := 2) (fun _ => rfl)] at hlt
          cases m with
          | nil => simp at hlt
          | cons y r => simp
        obtain ⟨b, o', e, hc⟩ := hsl hpos
        injection e with e
        subst e
        have hadd : (⟨b, o', none⟩ : Addr).add j = ⟨b, o' + j, none⟩ := by unfold Addr.add; split <;> simp_all
        rw [hadd]; exact hc j u hu) (by
        intro u hu
        unfold flat at hu
        obtain ⟨y, _, hy⟩ := List.mem_flatMap.1 hu
        exact oneP y u hy) (by unfold maxLen; omega) (by omega) hbase
    unfold Oper.wp execOp
    simp only [ho, resolve, invoke, builtin, Sem.run_bind, Sem.run_pure, Result.andThen_ok, List.map_toArray, List.map_cons, List.map_nil, hs, hx, hr]
    refine h v' w' ?_ (hb.grown h3 hb.size (fun k hk => Nat.le_trans hB (World.ownsRow.lt hown k hk).1)) h3 ?_
    · show w'.ownsRow _ _ _ v' (l ++ m).length (flat encP (l ++ m))
      rw [flat_append, List.length_append]; exact h2
    · intro b hb2 hne hv'
      rcases h5 with h5 | h5
      · exact hne (h5 ▸ hv')
      · rw [h5] at hv'; injection hv' with e; omega
set_option maxRecDepth 100000 in
theorem step_vrG {l m : List Vr} {A : Option Addr} {c : Nat} {s x : Operand} (hw : Region.wanted o (yielded ops a.tmps) = true) (ho : o.op = .call { callee := .builtin .append, args := #[s, x], argTypes := #[28, 28] })
    (hown : Own wr base 63 3 encV v l) (hb : Below w0.heap.size w0 wr) (hB : w0.heap.size ≤ base) (hbase : base ≤ wr.heap.size) (hn : l.length + m.length ≤ 33554432) (hsl : Sl wr encV 3 A m) (hcz : A = none → c = 0)
    (hs : a.eval s = v) (hx : a.eval x = .slice A m.length c)
    (h : ∀ v' w', Own w' base 63 3 encV v' (l ++ m) → Below w0.heap.size w0 w' → Grew v wr w' → Kin v wr v' → K (a.put o.dst v') w') : if Region.wanted o (yielded ops a.tmps) = true then Oper.wp Tryz.prog o a wr K Q else E' := by
  obtain ⟨i0, hi0, hz0, hz1, hz2⟩ := info_parts encV_info
  rw [if_pos hw]
  cases A with
  | none =>
    have hm : m = [] := by
      cases m with
      | nil => rfl
      | cons y r => obtain ⟨b, o, e, _⟩ := hsl (by simp); cases e
    subst hm
    rw [hcz rfl] at hx
    have hrun := run_append_owned_none (P := Tryz.prog) (w := wr) base 28 o.type 63 i0 3 Tryz.underlying28 hi0 v l.length (flat encV l) hown
    have hK := h v wr (by rw [List.append_nil]; exact hown) hb (Grew.refl _ _) (fun b _ h => h)
    simp at hx
    unfold Oper.wp
    simp [execOp, ho, resolve, invoke, builtin, hs, hx, hrun, Result.andThen]
    exact hK
  | some ad =>
    obtain ⟨v', w', hr, h2, h3, h4, h5⟩ := run_append_own_at (P := Tryz.prog) wr base 28 o.type 63 i0 _ 3 32 Tryz.underlying28 hi0 hz0 hz1 hz2 rfl (by decide) v l.length (flat encV l) hown ad m.length c (flat encV m) (flat_length (enc := encV) (size := 3) (fun _ => rfl) m) (by
        intro j u hu
        have hpos : 0 < m.length := by
          have hlt := (List.getElem?_eq_some_iff.1 hu).1
          rw [flat_length (enc := encV) (size := 3) (fun _ => rfl)] at hlt
          cases m with
          | nil => simp at hlt
          | cons y r => simp
        obtain ⟨b, o', e, hc⟩ := hsl hpos
        injection e with e
        subst e
        have hadd : (⟨b, o', none⟩ : Addr).add j = ⟨b, o' + j, none⟩ := by unfold Addr.add; split <;> simp_all
        rw [hadd]; exact hc j u hu) (by
        intro u hu
        unfold flat at hu
        obtain ⟨y, _, hy⟩ := List.mem_flatMap.1 hu
        exact oneV y u hy) (by unfold maxLen; omega) (by omega) hbase
    unfold Oper.wp execOp
    simp only [ho, resolve, invoke, builtin, Sem.run_bind, Sem.run_pure, Result.andThen_ok, List.map_toArray, List.map_cons, List.map_nil, hs, hx, hr]
    refine h v' w' ?_ (hb.grown h3 hb.size (fun k hk => Nat.le_trans hB (World.ownsRow.lt hown k hk).1)) h3 ?_
    · show w'.ownsRow _ _ _ v' (l ++ m).length (flat encV (l ++ m))
      rw [flat_append, List.length_append]; exact h2
    · intro b hb2 hne hv'
      rcases h5 with h5 | h5
      · exact hne (h5 ▸ hv')
      · rw [h5] at hv'; injection hv' with e; omega
end
section
variable {w : World} {A B : Option Addr} {c dd : Nat} {l : List Pc} {m : List Vr} {x : Int} {P V : Value} {lp : List Pc} {lv : List Vr} {d : Nat → Bool} {v0 v1 v2 v3 v4 v5 v6 v7 v8 v9 v10 : Value} {W W' : World} {v' : Value}
structure CpJ (w : World) (A B : Option Addr) (c dd : Nat) (l : List Pc) (m : List Vr) (x : Int) (P V : Value) (lp : List Pc) (lv : List Vr) (d : Nat → Bool) (v0 v1 v2 v3 v4 v5 v6 v7 v8 v9 v10 : Value) (W : World) : Prop where
  bel : Below w.heap.size w W
  hz : w.heap.size + 2 ≤ W.heap.size
  r0 : Row3 W w.heap.size (.slice A l.length c) (.int .i64 x) (.slice B m.length dd)
  r1 : d 11 = false → Row3 W (w.heap.size + 1) (.slice none 0 0) (.int .i64 0) (.slice none 0 0)
  r2 : d 11 = true → Row3 W (w.heap.size + 1) P (.int .i64 x) V
  p : d 0 = true → Own W (w.heap.size + 2) 107 2 encP P lp
  v : d 6 = true → Own W (w.heap.size + 2) 63 3 encV V lv
  ap : d 0 = true → d 6 = true → ApartV P V
  o3 : d 3 = true → d 0 = true
  o9 : d 9 = true → d 6 = true
  o10 : d 10 = true → d 3 = true ∧ d 9 = true
  o11 : d 11 = true → d 10 = true ∧ d 9 = true
  lp0 : d 3 = false → lp = []
  lp3 : d 3 = true → lp = l
  lv0 : d 9 = false → lv = []
  lv9 : d 9 = true → lv = m
  c0 : d 0 = true → d 3 = false → v0 = P
  c1 : d 1 = true → v1 = .pointer (some ⟨w.heap.size, 0, none⟩)
  c2 : d 2 = true → v2 = .slice A l.length c
  c3 : d 3 = true → v3 = P
  c4 : d 4 = true → v4 = .pointer (some ⟨w.heap.size, 1, none⟩)
  c5 : d 5 = true → v5 = .int .i64 x
  c6 : d 6 = true → d 9 = false → v6 = V
  c7 : d 7 = true → v7 = .pointer (some ⟨w.heap.size, 2, none⟩)
  c8 : d 8 = true → v8 = .slice B m.length dd
  c9 : d 9 = true → v9 = V
  c10 : d 10 = true → v10 = .agg #[P, .int .i64 x, V]
theorem CpJ.n3 (h : CpJ w A B c dd l m x P V lp lv d v0 v1 v2 v3 v4 v5 v6 v7 v8 v9 v10 W) (h3 : d 3 = false) : d 10 = false ∧ d 11 = false := by
  have h10 : d 10 = false := by
    cases e : d 10
    · rfl
    · rw [(h.o10 e).1] at h3; cases h3
  refine ⟨h10, ?_⟩
  cases e : d 11
  · rfl
  · rw [(h.o11 e).1] at h10; cases h10
theorem CpJ.n9 (h : CpJ w A B c dd l m x P V lp lv d v0 v1 v2 v3 v4 v5 v6 v7 v8 v9 v10 W) (h9 : d 9 = false) : d 10 = false ∧ d 11 = false := by
  have h10 : d 10 = false := by
    cases e : d 10
    · rfl
    · rw [(h.o10 e).2] at h9; cases h9
  refine ⟨h10, ?_⟩
  cases e : d 11
  · rfl
  · rw [(h.o11 e).1] at h10; cases h10
theorem CpJ.step0 (h : CpJ w A B c dd l m x P V lp lv d v0 v1 v2 v3 v4 v5 v6 v7 v8 v9 v10 W) (h0 : d 0 = false) : CpJ w A B c dd l m x (.slice (some ⟨W.heap.size, 0, none⟩) 0 0) V [] lv (fun j => j == 0 || d j) (.slice (some ⟨W.heap.size, 0, none⟩) 0 0) v1 v2 v3 v4 v5 v6 v7 v8 v9 v10 (W.alloc (.cells #[] 107)) := by
  have h3 : d 3 = false := by
    cases e : d 3
    · rfl
    · rw [h.o3 e] at h0; cases h0
  obtain ⟨h10, h11⟩ := h.n3 h3
  have hb := (Below.refl W.heap.size W).alloc (Nat.le_refl _) (.cells #[] 107)
  exact { h with
    bel := Below_then h.bel hb (Nat.le_refl _)
    hz := by have := h.hz; simp; omega
    r0 := h.r0.below hb
    r1 := fun e => (h.r1 e).below hb
    r2 := fun e => by rw [show d 11 = true from e] at h11; cases h11
    p := fun _ => Own.made h.hz
    v := fun e => (h.v e).below hb
    ap := fun _ e g hg hv => by
      have hg : some W.heap.size = some g := hg
      injection hg with hg; subst hg
      exact absurd ((h.v e).blk _ hv).2 (Nat.lt_irrefl _)
    o3 := fun _ => rfl
    lp0 := fun _ => rfl
    lp3 := fun e => by rw [show d 3 = true from e] at h3; cases h3
    c0 := fun _ _ => rfl
    c3 := fun e => by rw [show d 3 = true from e] at h3; cases h3
    c10 := fun e => by rw [show d 10 = true from e] at h10; cases h10 }
theorem CpJ.step6 (h : CpJ w A B c dd l m x P V lp lv d v0 v1 v2 v3 v4 v5 v6 v7 v8 v9 v10 W) (h6 : d 6 = false) : CpJ w A B c dd l m x P (.slice (some ⟨W.heap.size, 0, none⟩) 0 0) lp [] (fun j => j == 6 || d j) v0 v1 v2 v3 v4 v5 (.slice (some ⟨W.heap.size, 0, none⟩) 0 0) v7 v8 v9 v10 (W.alloc (.cells #[] 63)) := by
  have h9 : d 9 = false := by
    cases e : d 9
    · rfl
    · rw [h.o9 e] at h6; cases h6
  obtain ⟨h10, h11⟩ := h.n9 h9
  have hb := (Below.refl W.heap.size W).alloc (Nat.le_refl _) (.cells #[] 63)
  exact { h with
    bel := Below_then h.bel hb (Nat.le_refl _)
    hz := by have := h.hz; simp; omega
    r0 := h.r0.below hb
    r1 := fun e => (h.r1 e).below hb
    r2 := fun e => by rw [show d 11 = true from e] at h11; cases h11
    p := fun e => (h.p e).below hb
    v := fun _ => Own.made h.hz
    ap := fun e _ g hg hv => by
      have hv : some W.heap.size = some g := hv
      injection hv with hv; subst hv
      exact absurd ((h.p e).blk _ hg).2 (Nat.lt_irrefl _)
    o9 := fun _ => rfl
    lv0 := fun _ => rfl
    lv9 := fun e => by rw [show d 9 = true from e] at h9; cases h9
    c6 := fun _ _ => rfl
    c9 := fun e => by rw [show d 9 = true from e] at h9; cases h9
    c10 := fun e => by rw [show d 10 = true from e] at h10; cases h10 }
theorem CpJ.step3 (h : CpJ w A B c dd l m x P V lp lv d P v1 v2 v3 v4 v5 v6 v7 v8 v9 v10 W) (h0 : d 0 = true) (h3 : d 3 = false) (hown : Own W' (w.heap.size + 2) 107 2 encP v' l) (hb : Below w.heap.size w W') (hg : Grew P W W') (hk : Kin P W v') :
    CpJ w A B c dd l m x v' V l lv (fun j => j == 3 || d j) P v1 v2 v' v4 v5 v6 v7 v8 v9 v10 W' := by
  obtain ⟨h10, h11⟩ := h.n3 h3
  have hlo : ∀ b, b < w.heap.size + 2 → ∀ g, P.ownBlock = some g → b < g := fun b hb g hg => Nat.lt_of_lt_of_le hb ((h.p h0).blk g hg).1
  exact { h with
    bel := hb
    hz := Nat.le_trans h.hz hg.size
    r0 := h.r0.keepG hg (hlo _ (by omega))
    r1 := fun e => (h.r1 e).keepG hg (hlo _ (by omega))
    r2 := fun e => by rw [show d 11 = true from e] at h11; cases h11
    p := fun _ => hown
    v := fun e => (h.v e).keepG hg (h.ap h0 e).symm
    ap := fun _ e g hg2 hv => hk g ((h.v e).blk g hv).2 (fun hp => h.ap h0 e g hp hv) hg2
    o3 := fun _ => h0
    o10 := fun e => ⟨rfl, (h.o10 e).2⟩
    lp0 := fun e => by cases e
    lp3 := fun _ => rfl
    c0 := fun _ e => by cases e
    c3 := fun _ => rfl
    c10 := fun e => by rw [show d 10 = true from e] at h10; cases h10 }
theorem CpJ.step9 (h : CpJ w A B c dd l m x P V lp lv d v0 v1 v2 v3 v4 v5 V v7 v8 v9 v10 W) (h6 : d 6 = true) (h9 : d 9 = false) (hown : Own W' (w.heap.size + 2) 63 3 encV v' m) (hb : Below w.heap.size w W') (hg : Grew V W W') (hk : Kin V W v') :
    CpJ w A B c dd l m x P v' lp m (fun j => j == 9 || d j) v0 v1 v2 v3 v4 v5 V v7 v8 v' v10 W' := by
  obtain ⟨h10, h11⟩ := h.n9 h9
  have hlo : ∀ b, b < w.heap.size + 2 → ∀ g, V.ownBlock = some g → b < g := fun b hb g hg => Nat.lt_of_lt_of_le hb ((h.v h6).blk g hg).1
  exact { h with
    bel := hb
    hz := Nat.le_trans h.hz hg.size
    r0 := h.r0.keepG hg (hlo _ (by omega))
    r1 := fun e => (h.r1 e).keepG hg (hlo _ (by omega))
    r2 := fun e => by rw [show d 11 = true from e] at h11; cases h11
    v := fun _ => hown
    p := fun e => (h.p e).keepG hg (h.ap e h6)
    ap := fun e _ g hp hg2 => hk g ((h.p e).blk g hp).2 (fun hv => h.ap e h6 g hp hv) hg2
    o9 := fun _ => h6
    o10 := fun e => ⟨(h.o10 e).1, rfl⟩
    o11 := fun e => ⟨(h.o11 e).1, rfl⟩
    lv0 := fun e => by cases e
    lv9 := fun _ => rfl
    c6 := fun _ e => by cases e
    c9 := fun _ => rfl
    c10 := fun e => by rw [show d 10 = true from e] at h10; cases h10 }
theorem CpJ.step11 (h : CpJ w A B c dd l m x P V lp lv d v0 v1 v2 v3 v4 v5 v6 v7 v8 v9 v10 W) (h11 : d 11 = false) (h3 : d 3 = true) (h9 : d 9 = true) (h10 : d 10 = true) :
    CpJ w A B c dd l m x P V lp lv (fun j => j == 11 || d j) v0 v1 v2 v3 v4 v5 v6 v7 v8 v9 v10 (((W.setCell ⟨w.heap.size + 1, 0, none⟩ P).setCell ⟨w.heap.size + 1, 1, none⟩ (.int .i64 x)).setCell ⟨w.heap.size + 1, 2, none⟩ V) := by
  exact { h with
    bel := ((h.bel.setCell (by simp) _).setCell (by simp) _).setCell (by simp) _
    hz := by simp only [setCell_size]; exact h.hz
    r0 := ((h.r0.other (by simp) _).other (by simp) _).other (by simp) _
    r1 := fun e => by cases e
    r2 := fun _ => (((h.r1 h11).set0 _).set1 _).set2 _
    p := fun e => (((h.p e).setBelow (by simp) _).setBelow (by simp) _).setBelow (by simp) _
    v := fun e => (((h.v e).setBelow (by simp) _).setBelow (by simp) _).setBelow (by simp) _
    o11 := fun _ => ⟨h10, h9⟩ }
end
set_option maxHeartbeats 4000000 in
set_option maxRecDepth 100000 in
theorem sl34Copy_any (A B : Option Addr) (c dd : Nat) (l : List Pc) (m : List Vr) (x : Int) (w : World) (hs : Sl w encP 2 A l) (hcz : A = none → c = 0) (hl : l.length ≤ 16777216) (ht : Sl w encV 3 B m) (hcz2 : B = none → dd = 0) (hl2 : m.length ≤ 16777216) :
    Calls Tryz.prog 35 #[.agg #[.slice A l.length c, .int .i64 x, .slice B m.length dd]] w fun e w' => ∃ v, e = .returned v ∧ ArV w' w.heap.size ⟨l, x, m⟩ v ∧ Below w.heap.size w w' := by
  have HS := Lib.hid hs
  have HT := Lib.hid ht
  have HCZ := Lib.hid hcz
  have HCZ2 := Lib.hid hcz2
  have hr0 := (Row3.new (w := w) (v0 := .slice A l.length c) (v1 := .int .i64 x) (v2 := .slice B m.length dd) (E := 30)).below ((Below.refl _ _).alloc (Nat.le_refl _) (.cells #[.slice none 0 0, .int .i64 0, .slice none 0 0] 30))
  have hr1 := Row3.new (w := w.alloc (.cells #[.slice A l.length c, .int .i64 x, .slice B m.length dd] 30)) (v0 := .slice none 0 0) (v1 := .int .i64 0) (v2 := .slice none 0 0) (E := 30)
  rw [World.alloc_size_] at hr1
  have HR0 := Lib.hid hr0
  have HR1 := Lib.hid hr1
  have HB := Lib.hid (((Below.refl w.heap.size w).alloc (Nat.le_refl _) (.cells #[.slice A l.length c, .int .i64 x, .slice B m.length dd] 30)).alloc (by simp) (.cells #[.slice none 0 0, .int .i64 0, .slice none 0 0] 30))
  clear hs ht hcz hcz2 hr0 hr1
  go_enter Tryz.func35, Tryz.ntmps35
  go_wp2_with fail
  refine wp_region_inv (by kernel_rfl) (by kernel_rfl) (fun a0 d a W => ∃ (v0 v1 v2 v3 v4 v5 v6 v7 v8 v9 v10 : Value) (P V : Value) (lp : List Pc) (lv : List Vr), a = ⟨#[.agg #[.slice A l.length c, .int .i64 x, .slice B m.length dd], .pointer (some ⟨w.heap.size, 0, none⟩), .pointer (some ⟨w.heap.size + 1, 0, none⟩), v0, v1, v2, v3, v4, v5, v6, v7, v8, v9, v10], []⟩ ∧ CpJ w A B c dd l m x P V lp lv d v0 v1 v2 v3 v4 v5 v6 v7 v8 v9 v10 W) ?_ ?_ ?_
  · exact ⟨_, _, _, _, _, _, _, _, _, _, _, .slice none 0 0, .slice none 0 0, [], [], rfl, ⟨Below_drewN HB.out 1, by show _ ≤ ((w.alloc _).alloc _).heap.size; simp, HR0.out.below (Below_drewN (Below.refl _ _) 1), fun _ => HR1.out.below (Below_drewN (Below.refl _ _) 1), nofun, nofun, nofun, nofun, nofun, nofun, nofun, nofun, fun _ => rfl, nofun, fun _ => rfl, nofun, nofun, nofun, nofun, nofun, nofun, nofun, nofun, nofun, nofun, nofun, nofun⟩⟩
  · refine ⟨?_, ?_, ?_, ?_, ?_, ?_, ?_, ?_, ?_, ?_, ?_, ?_, trivial⟩
    all_goals
      intro d a W K hd hdep hJ hK
      obtain ⟨v0, v1, v2, v3, v4, v5, v6, v7, v8, v9, v10, P, V, lp, lv, rfl, hj⟩ := hJ
      have HJ := Lib.hid hj
      have HK := Lib.hid hK
      have HD := Lib.hid hd
      have HDEP := Lib.hid hdep
      clear hj hK hd hdep
    · go_simp
      exact HK.out _ _ ⟨_, _, _, _, _, _, _, _, _, _, _, _, _, _, _, rfl, HJ.out.step0 HD.out⟩
    · go_simp
      exact HK.out _ _ ⟨_, _, _, _, _, _, _, _, _, _, _, _, _, _, _, rfl, { HJ.out with c1 := fun _ => rfl }⟩
    · obtain rfl := HJ.out.c1 (HDEP.out { on := 1, ground := Ground.data } (by simp) rfl)
      obtain ⟨⟨x0, x1, x2⟩, _, _⟩ := HJ.out.r0
      go_simp
      exact HK.out _ _ ⟨_, _, _, _, _, _, _, _, _, _, _, _, _, _, _, rfl, { HJ.out with c2 := fun _ => rfl }⟩
    · have h0 := (HDEP.out { on := 0, ground := Ground.data } (by simp) rfl)
      have e0 := HJ.out.c0 h0 HD.out
      subst e0
      obtain rfl := HJ.out.c2 (HDEP.out { on := 2, ground := Ground.data } (by simp) rfl)
      have elp := HJ.out.lp0 HD.out
      subst elp
      refine step_pcG (w0 := w) (base := w.heap.size + 2) (by rfl) rfl (HJ.out.p h0) (HJ.out.bel) (by omega) (by have := HJ.out.hz; omega) (by simp; omega) (HS.out.below HJ.out.bel) HCZ.out rfl rfl ?_
      intro v' W' hown hb hg hk
      rw [List.nil_append] at hown
      exact HK.out _ _ ⟨_, _, _, _, _, _, _, _, _, _, _, _, _, _, _, rfl, HJ.out.step3 h0 HD.out hown hb hg hk⟩
    · go_simp
      exact HK.out _ _ ⟨_, _, _, _, _, _, _, _, _, _, _, _, _, _, _, rfl, { HJ.out with c4 := fun _ => rfl }⟩
    · obtain rfl := HJ.out.c4 (HDEP.out { on := 4, ground := Ground.data } (by simp) rfl)
      obtain ⟨⟨x0, x1, x2⟩, _, _⟩ := HJ.out.r0
      go_simp
      exact HK.out _ _ ⟨_, _, _, _, _, _, _, _, _, _, _, _, _, _, _, rfl, { HJ.out with c5 := fun _ => rfl }⟩
    · go_simp
      exact HK.out _ _ ⟨_, _, _, _, _, _, _, _, _, _, _, _, _, _, _, rfl, HJ.out.step6 HD.out⟩
    · go_simp
      exact HK.out _ _ ⟨_, _, _, _, _, _, _, _, _, _, _, _, _, _, _, rfl, { HJ.out with c7 := fun _ => rfl }⟩
    · obtain rfl := HJ.out.c7 (HDEP.out { on := 7, ground := Ground.data } (by simp) rfl)
      obtain ⟨⟨x0, x1, x2⟩, _, _⟩ := HJ.out.r0
      go_simp
      exact HK.out _ _ ⟨_, _, _, _, _, _, _, _, _, _, _, _, _, _, _, rfl, { HJ.out with c8 := fun _ => rfl }⟩
    · have h6 := (HDEP.out { on := 6, ground := Ground.data } (by simp) rfl)
      have e6 := HJ.out.c6 h6 HD.out
      subst e6
      obtain rfl := HJ.out.c8 (HDEP.out { on := 8, ground := Ground.data } (by simp) rfl)
      have elv := HJ.out.lv0 HD.out
      subst elv
      refine step_vrG (w0 := w) (base := w.heap.size + 2) (by rfl) rfl (HJ.out.v h6) (HJ.out.bel) (by omega) (by have := HJ.out.hz; omega) (by simp; omega) (HT.out.below HJ.out.bel) HCZ2.out rfl rfl ?_
      intro v' W' hown hb hg hk
      rw [List.nil_append] at hown
      exact HK.out _ _ ⟨_, _, _, _, _, _, _, _, _, _, _, _, _, _, _, rfl, HJ.out.step9 h6 HD.out hown hb hg hk⟩
    · obtain rfl := HJ.out.c3 (HDEP.out { on := 3, ground := Ground.data } (by simp) rfl)
      obtain rfl := HJ.out.c5 (HDEP.out { on := 5, ground := Ground.data } (by simp) rfl)
      obtain rfl := HJ.out.c9 (HDEP.out { on := 9, ground := Ground.data } (by simp) rfl)
      obtain ⟨A3, k3, e3, _⟩ := (HJ.out.p (HJ.out.o3 (HDEP.out { on := 3, ground := Ground.data } (by simp) rfl))).sl
      subst e3
      obtain ⟨A4, k4, e4, _⟩ := (HJ.out.v (HJ.out.o9 (HDEP.out { on := 9, ground := Ground.data } (by simp) rfl))).sl
      subst e4
      go_simp
      exact HK.out _ _ ⟨_, _, _, _, _, _, _, _, _, _, _, _, _, _, _, rfl, { HJ.out with o10 := fun _ => ⟨(HDEP.out { on := 3, ground := Ground.data } (by simp) rfl), (HDEP.out { on := 9, ground := Ground.data } (by simp) rfl)⟩, o11 := fun e => ⟨rfl, (HJ.out.o11 e).2⟩, c10 := fun _ => rfl }⟩
    · have h10 := (HDEP.out { on := 10, ground := Ground.data } (by simp) rfl)
      obtain ⟨h3, h9⟩ := HJ.out.o10 h10
      obtain rfl := HJ.out.c10 h10
      obtain ⟨A3, k3, e3, _⟩ := (HJ.out.p (HJ.out.o3 h3)).sl
      subst e3
      obtain ⟨A4, k4, e4, _⟩ := (HJ.out.v (HJ.out.o9 h9)).sl
      subst e4
      have hr1 := HJ.out.r1 HD.out
      have hfz := fun o => hr1.2.1 o
      obtain ⟨⟨y0, y1, y2⟩, hfr, hlt⟩ := hr1
      go_simp
      exact HK.out _ _ ⟨_, _, _, _, _, _, _, _, _, _, _, _, _, _, _, rfl, HJ.out.step11 HD.out h3 h9 h10⟩
  · intro d a W hd hJ
    obtain ⟨v0, v1, v2, v3, v4, v5, v6, v7, v8, v9, v10, P, V, lp, lv, rfl, hj⟩ := hJ
    obtain rfl := hj.lp3 (hd 3 (by decide))
    obtain rfl := hj.lv9 (hd 9 (by decide))
    obtain ⟨⟨y0, y1, y2⟩, _, _⟩ := hj.r2 (hd 11 (by decide))
    have HP := Lib.hid ((hj.p (hd 0 (by decide))).mono (show w.heap.size ≤ w.heap.size + 2 by omega))
    have HV := Lib.hid ((hj.v (hd 6 (by decide))).mono (show w.heap.size ≤ w.heap.size + 2 by omega))
    have HAP := Lib.hid (hj.ap (hd 0 (by decide)) (hd 6 (by decide)))
    have HB2 := Lib.hid hj.bel
    clear hj hd
    go_wp2_with fail
    exact bodyPost_ret (v := .agg #[P, .int .i64 x, V]) (by simp [results, Tryz.results35, go_sem, y0, y1, y2]) rfl ⟨_, rfl, ⟨P, V, rfl, HP.out, HV.out, HAP.out⟩, HB2.out⟩
end Go.Proofs.YtkglfmgmmnfmbaaGreatDoor

/- JoinPath and PathParts of the program: the library's Join and SplitN at a slash. -/
set_option linter.unusedVariables false
namespace Go.Proofs.YtkglfmgmmnfmbaaGreatDoor
open Go.RowKit
--BEGIN
theorem splitS_len (s : Bs) : 1 ≤ (splitS 47 s).length ∧ (splitS 47 s).length ≤ s.length + 1 := by
  induction s with
  | nil => simp [splitS]
  | cons c r ih =>
    rw [splitS]
    split
    · simp; omega
    · split
      · rename_i p ps h; rw [h] at ih; simp at ih ⊢; omega
      · simp
theorem splitK_splitS : ∀ (s : Bs) (k : Nat), (splitS 47 s).length ≤ k + 1 → Go.Lib.splitK [47] 0 k s = splitS 47 s
  | [], k, _ => by cases k <;> simp [Go.Lib.splitK, splitS, index_nil]
  | c :: r, k, h => by
    rw [splitS] at h ⊢
    by_cases e : c = 47
    · subst e
      rw [if_pos rfl] at h ⊢
      have := (splitS_len r).1
      cases k with
      | zero => rw [List.length_cons] at h; omega
      | succ k => rw [splitK_hit, splitK_splitS r k (by simpa using h)]
    · rw [if_neg e] at h ⊢
      rw [splitK_skip e, splitK_splitS r k ?_]
      · cases hs : splitS 47 r with
        | nil => exact absurd hs (splitS_ne 47 r)
        | cons p ps => rfl
      · cases hs : splitS 47 r with
        | nil => exact absurd hs (splitS_ne 47 r)
        | cons p ps => rw [hs] at h; simpa using h
def partsB (s : ByteArray) : List ByteArray := Go.Lib.splitB ⟨#[47]⟩ 0 (min 4 (s.size + 1) - 1) s
theorem partsB_map (s : ByteArray) : (partsB s).map bs = Go.Lib.splitK [47] 0 (min 4 (s.size + 1) - 1) (bs s) := Go.Lib.splitB_data ⟨#[47]⟩ 0 _ s
theorem partsB_len (s : ByteArray) : (partsB s).length ≤ min 4 (s.size + 1) := by
  have := Go.Lib.splitB_length_le ⟨#[47]⟩ 0 (min 4 (s.size + 1) - 1) s
  unfold partsB; omega
theorem pathP_back {s : Bs} {ps : List Bs} (h0 : s ≠ []) (h : joinP ps = s) : pathP s = some ps := by
  cases hv : partsV ps
  · unfold joinP at h; rw [hv] at h; exact absurd h.symm h0
  · rw [← h]; exact pathP_of hv
theorem path_parts {r : ByteArray} {s : Bs} (hs : s = 47 :: bs r) (h1 : s ≠ [47]) : (pathP s).isSome = decide (joinP ((partsB r).map bs) = s) := by
  have h0 : s ≠ [] := by rw [hs]; simp
  by_cases hj : joinP ((partsB r).map bs) = s
  · rw [pathP_back h0 hj, decide_eq_true hj]; rfl
  · rw [decide_eq_false hj]
    unfold pathP
    rw [if_neg h1, hs]
    rw [List.headD_cons, List.tail_cons, if_pos rfl]
    by_cases hv : partsV (splitS 47 (bs r)) = true
    case neg => rw [if_neg hv]; rfl
    case pos =>
      exfalso
      apply hj
      have hl := (partsV_iff.1 hv).1
      have h2 := (splitS_len (bs r)).2
      have h3 := size_bs r
      rw [partsB_map, splitK_splitS _ _ (by omega)]
      unfold joinP
      rw [hv, if_pos rfl, if_neg (splitS_ne _ _), joinB_split, hs]
theorem joinB_join (p : Bs) (r : List Bs) : 47 :: Go.Lib.join (p :: r) [47] = joinB (p :: r) := by
  induction r generalizing p with
  | nil => rw [Go.Lib.join_one]; simp [joinB]
  | cons q t ih =>
    have e : Go.Lib.join (p :: q :: t) [47] = p ++ 47 :: Go.Lib.join (q :: t) [47] := by simp [Go.Lib.join, List.intercalate]
    rw [e, ih q]; simp [joinB]
theorem joinB_size : ∀ (l : List ByteArray), (∀ p ∈ l, p.size ≤ 8) → (joinB (l.map bs)).length ≤ 9 * l.length
  | [], _ => by simp [joinB]
  | p :: r, h => by
    have ih := joinB_size r fun x hx => h x (by simp [hx])
    have hp := h p (by simp)
    have e : joinB ((p :: r).map bs) = 47 :: (bs p ++ joinB (r.map bs)) := by simp [joinB]
    rw [e, List.length_cons, List.length_append, List.length_cons, size_bs]
    omega
def joinT (l : List ByteArray) : ByteArray := mk (Go.Lib.join (l.map bs) [47])
theorem joinT_all {l : List ByteArray} (h3 : l.length ≤ 3) (h : ∀ j (hj : j < l.length), wordV (bs l[j]) = true) : mk [47] ++ joinT l = mk (joinP (l.map bs)) := by
  unfold joinP joinT
  rw [joinP_good h3 h, if_pos rfl, mk_append]
  cases l with
  | nil => rfl
  | cons p r => rw [if_neg (by simp)]; exact congrArg mk (joinB_join (bs p) (r.map bs))
theorem joinT_size {l : List ByteArray} (h3 : l.length ≤ 3) (h : ∀ p ∈ l, p.size ≤ 8) : (joinT l).size ≤ 27 := by
  unfold joinT
  rw [mk_size]
  cases l with
  | nil => simp [Go.Lib.join, List.intercalate]
  | cons p r =>
    have h1 := congrArg List.length (joinB_join (bs p) (r.map bs))
    have h2 := joinB_size (p :: r) h
    rw [List.length_cons] at h1
    simp only [List.map_cons, List.length_cons] at h1 h2 h3 ⊢
    omega
--END
theorem cell_lt {w : World} {b o : Nat} {v : Value} (h : w.cell? ⟨b, o, none⟩ = some v) : b < w.heap.size := by
  by_cases hb : b < w.heap.size
  · exact hb
  · have : w.heap[b]? = none := Array.getElem?_eq_none (by omega)
    simp [World.cell?, this] at h
theorem Join_any (A : Option Addr) (c : Nat) (l : List ByteArray) (w : World) (hs : Sl w encS 1 A l) (hle : l.length ≤ c) (h3 : l.length ≤ 3) (hf : ∀ p ∈ l, p.size ≤ 8) :
    Calls Tryz.prog 112 #[.slice A l.length c, .string ⟨#[47]⟩] w fun e w' => e = .returned (.string (joinT l)) ∧ Below w.heap.size w w' := by
  cases l with
  | nil => exact (Tryz.strings_Join_none A c ⟨#[47]⟩ w).mono fun e w' ⟨h1, h2⟩ => ⟨by rw [h1]; rfl, by rw [h2]; exact Below.refl _ _⟩
  | cons p r =>
    have hz := joinT_size h3 hf
    obtain ⟨b, o, rfl, hc0⟩ := hs.getS (k := 0) (by simp)
    refine (Tryz.strings_Join b o c (p :: r) ⟨#[47]⟩ w (fun j x hx => ?_) (cell_lt hc0) (by simp at h3 ⊢; omega) hle ?_).mono fun e w' h => ⟨h.1, h.2⟩
    · obtain ⟨hj, rfl⟩ := List.getElem?_eq_some_iff.1 hx
      obtain ⟨b2, o2, e, hc⟩ := hs.getS hj
      injection e with e; injection e with e1 e2
      subst e1 e2; exact hc
    · unfold joinT at hz
      rw [mk_size] at hz
      have e : (Go.Lib.join ((p :: r).map (·.data.toList)) (⟨#[47]⟩ : ByteArray).data.toList).length = (Go.Lib.join ((p :: r).map bs) [47]).length := rfl
      omega
theorem SplitN_any (s : ByteArray) (w : World) (hs : s.size ≤ 16777216) (hm : MaxL w) : Calls Tryz.prog 47 #[.string s, .string ⟨#[47]⟩, .int .i64 4] w fun e w' =>
    ∃ A c, e = .returned (.slice A (partsB s).length c) ∧ (partsB s).length ≤ c ∧ Sl w' encS 1 A (partsB s) ∧ Below w.heap.size w w' := by
  obtain ⟨m, hm⟩ := hm
  refine (Tryz.strings_SplitN s ⟨#[47]⟩ 4 m w (by omega) hm (by decide) (by decide) (by decide)).mono fun e w' ⟨h1, h2⟩ => ?_
  refine ⟨_, _, h1, partsB_len s, ?_, by rw [h2]; exact (Below.refl _ _).alloc (Nat.le_refl _) _⟩
  intro _
  refine ⟨w.heap.size, 0, rfl, fun j u hu => ?_⟩
  rw [h2, cell_of_row _ _ _ _ _ (0, 0) (heap_alloc_new w _)]
  rw [Nat.zero_add]
  have e : ∀ l : List ByteArray, flat encS l = l.map Value.string := fun l => by
    unfold flat
    induction l with
    | nil => rfl
    | cons x r ih => rw [List.flatMap_cons, ih]; rfl
  rw [e] at hu
  have hj := (List.getElem?_eq_some_iff.1 hu).1
  unfold partsB at hu hj
  unfold Go.Lib.cellsOf
  rw [List.getElem?_toArray, List.getElem?_append_left hj]
  exact hu
set_option maxHeartbeats 2000000 in
set_option maxRecDepth 100000 in
theorem iJoinPath_any (A : Option Addr) (c : Nat) (l : List ByteArray) (w : World) (hs : Sl w encS 1 A l) (hle : l.length ≤ c) (hl : l.length ≤ 16777216) (hf : ∀ p ∈ l, p.size ≤ 16777216) :
    Calls Tryz.prog 123 #[.slice A l.length c] w fun e w' => e = .returned (.string (mk (joinP (l.map bs)))) ∧ Below w.heap.size w w' := by
  have HS := Lib.hid hs
  have HF := Lib.hid hf
  by_cases h3 : 3 < l.length
  · have E := Lib.hid (joinP_long h3)
    rw [E.out, mk_nil]
    have h3' : (3 : Int) < (l.length : Int) := by omega
    clear hs hf
    go_enter Tryz.func123, Tryz.ntmps123
    go_wp2
    go_ret
    exact ⟨rfl, Below.refl _ _⟩
  · have h3b : ¬ (3 : Int) < (l.length : Int) := by omega
    have HB := Lib.hid (fun k (hk : k < l.length) h => @joinP_bad l k hk h)
    have HJN := Lib.hid (fun h8 => Join_any A c l w hs hle (by omega) h8)
    have HE := Lib.hid (@joinT_all l (by omega))
    have HZ := Lib.hid (@joinT_size l (by omega))
    generalize joinT l = T at *
    generalize hJ : mk (joinP (l.map bs)) = J at *
    have HJ := Lib.hid hJ
    clear hJ hs hf
    go_enter Tryz.func123, Tryz.ntmps123
    go_wp2
    go_loop [10] (fun i => ∃ (k : Nat), k ≤ l.length ∧ i = .int .i64 k ∧ Hid (∀ j (h : j < l.length), j < k → wordV (bs l[j]) = true)) (fun i => l.length - (intOf i).toNat)
    case atStart => exact ⟨0, Nat.zero_le _, rfl, fun j h h2 => by omega⟩
    case round =>
      obtain ⟨k, hk, rfl, HH⟩ := hrel
      by_cases hlt : k < l.length
      · obtain ⟨b, o, rfl, hc⟩ := HS.out.getS hlt
        have hzp := HF.out _ (List.getElem_mem hlt)
        have HBk := Lib.hid (fun h => HB.out k hlt h)
        have HSTk := Lib.hid (fun (h : wordV (bs l[k]) = true) => show ∀ j (hj : j < l.length), j < k + 1 → wordV (bs l[j]) = true from fun j hj h2 => by
          by_cases e : j = k
          · subst e; exact h
          · exact HH.out j hj (by omega))
        generalize l[k] = p at *
        have hW := fun w => iWordValid_any p w hzp
        cases hw : wordV (bs p)
        · have HN := Lib.hid (show J = ⟨#[]⟩ by rw [← HJ.out, HBk.out hw]; rfl)
          rw [hw] at hW
          have HW := Lib.hid hW
          clear hW hw HSTk HBk
          go_wp2_with (go_at_call 65; refine (HW.out _).mono ?_; rintro e w' ⟨rfl, rfl⟩)
          go_ret
          rw [HN.out]
          exact ⟨rfl, Below.refl _ _⟩
        · have HN := Lib.hid (HSTk.out hw)
          rw [hw] at hW
          have HW := Lib.hid hW
          clear hW hw HSTk HBk
          go_wp2_with (go_at_call 65; refine (HW.out _).mono ?_; rintro e w' ⟨rfl, rfl⟩)
          go_round
          case rel => exact ⟨k + 1, by omega, by go_num, HN.out⟩
          case measure => simp [intOf]; omega
      · have hall := fun j (hj : j < l.length) => HH.out j hj (by omega)
        have h8 : ∀ p ∈ l, p.size ≤ 8 := fun p hp => by
          obtain ⟨i, hi, rfl⟩ := List.getElem_of_mem hp
          exact word_size (hall i hi)
        have HN := Lib.hid (show J = ⟨#[47]⟩ ++ T from (HE.out hall).symm)
        have hz := HZ.out h8
        have HJ8 := Lib.hid (HJN.out h8)
        clear hall h8
        go_wp2_with fail
        refine HJ8.out.mono ?_
        rintro e w2 ⟨rfl, hb⟩
        have HB2 := Lib.hid hb
        clear hb
        go_wp2
        go_ret
        rw [HN.out]
        exact ⟨rfl, HB2.out⟩
end Go.Proofs.YtkglfmgmmnfmbaaGreatDoor
