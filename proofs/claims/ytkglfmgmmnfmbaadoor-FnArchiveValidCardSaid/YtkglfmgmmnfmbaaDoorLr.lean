/- Drawn archives: l20Archive, DrawArchiveValid. Written by gen_lr.py. -/
import Derived.Test.YtkglfmgmmnfmbaaDoorLn
import Derived.Test.YtkglfmgmmnfmbaaDoorGc1
import Derived.Test.YtkglfmgmmnfmbaaDoorS4
import Derived.Test.YtkglfmgmmnfmbaaDoorGa9
set_option linter.unusedVariables false
namespace Go.Proofs.YtkglfmgmmnfmbaaDoor
open Go.RowKit
theorem fitV_valid {l : List Vr} (h : versV l = true) : FitV l := fun v hv => by
  obtain ⟨k, hk, rfl⟩ := List.getElem_of_mem hv
  have := (verAt_iff.1 (versV_at h hk)).2.2.2
  have h2 := wordV_size this
  have h3 : (l[k].2.2.data.toList).length = l[k].2.2.size := rfl
  omega
theorem new_start : (newA []).2 = true := by decide +kernel
structure ArcS (w : World) (g ba : Nat) (l : List Pc) (op : Int) (m : List Vr) (P Q : Value) (W : World) : Prop where
  only : Only g w W
  r0 : Row3 W w.heap.size (.slice none 0 0) (.int .i64 0) (.slice none 0 0)
  ra : Row3 W ba P (.int .i64 op) Q
  hp : Own W (w.heap.size + 1) 57 2 encP P l
  hq : Own W (w.heap.size + 1) 45 3 encV Q m
  ap : ApartV P Q
  nP : P.ownBlock ≠ some ba
  nQ : Q.ownBlock ≠ some ba
  lo : w.heap.size + 1 ≤ ba
  lg : g < w.heap.size
section
variable {w : World} {g ba : Nat} {l l' : List Pc} {op op' : Int} {m m' : List Vr} {P Q P' Q' : Value} {W W' : World}
theorem ArcS.onl (h : ArcS w g ba l op m P Q W) (ho : Only g W W') : ArcS w g ba l op m P Q W' := by
  have h1 := h.lo
  have h2 := h.lg
  exact { h with only := h.only.trans ho, r0 := h.r0.only ho (by omega), ra := h.ra.only ho (by omega), hp := h.hp.only ho (by omega), hq := h.hq.only ho (by omega) }
theorem ArcS.below (h : ArcS w g ba l op m P Q W) (hb : Below W.heap.size W W') : ArcS w g ba l op m P Q W' := h.onl (Only.of_below hb)
end
theorem ArcS.put {w : World} {g ba : Nat} {l l' : List Pc} {op op' : Int} {m m' : List Vr} {P Q P' Q' : Value} {W : World} (h : ArcS w g ba l op m P Q W) (hp : Own W (w.heap.size + 1) 57 2 encP P' l') (hq : Own W (w.heap.size + 1) 45 3 encV Q' m') (hap : ApartV P' Q') (nP : P'.ownBlock ≠ some ba) (nQ : Q'.ownBlock ≠ some ba) :
    ArcS w g ba l' op' m' P' Q' (((W.setCell ⟨ba, 0, none⟩ P').setCell ⟨ba, 1, none⟩ (.int .i64 op')).setCell ⟨ba, 2, none⟩ Q') := by
  have h1 := h.lo
  have h2 := h.lg
  exact { only := ((h.only.setNew (by show w.heap.size ≤ ba; omega) _).setNew (by show w.heap.size ≤ ba; omega) _).setNew (by show w.heap.size ≤ ba; omega) _
          r0 := ((h.r0.other (by show ba ≠ w.heap.size; omega) _).other (by show ba ≠ w.heap.size; omega) _).other (by show ba ≠ w.heap.size; omega) _
          ra := ((h.ra.set0 _).set1 _).set2 _
          hp := ((hp.setOther nP _).setOther nP _).setOther nP _
          hq := ((hq.setOther nQ _).setOther nQ _).setOther nQ _
          ap := hap, nP := nP, nQ := nQ, lo := h.lo, lg := h.lg }
theorem ArcS.alloc {w : World} {g ba : Nat} {l : List Pc} {op : Int} {m : List Vr} {P Q : Value} {W : World} (h : ArcS w g ba l op m P Q W) (o : Obj) : ArcS w g ba l op m P Q (W.alloc o) := h.below ((Below.refl _ _).alloc (Nat.le_refl _) o)
theorem ArcS.drew {w : World} {g ba : Nat} {l : List Pc} {op : Int} {m : List Vr} {P Q : Value} {W : World} (h : ArcS w g ba l op m P Q W) : ArcS w g ba l op m P Q W.drew := h.below (Below_drewN (Below.refl _ _) 1)
/-- What is known of a drawn archive. -/
structure ArOk (a : Ar) : Prop where
  good : Good (fun _ => True) a.ps
  fitP : ∀ q ∈ a.ps, q.2.size ≤ 60
  fitV : FitV a.vs
  lp : a.ps.length ≤ 40
  lv : a.vs.length ≤ 13
theorem ArOk.valid {a : Ar} (h : archV a = true) (hg : Good (fun _ => True) a.ps) : ArOk a := by
  obtain ⟨h1, h2, _, _⟩ := archV_iff.1 h
  exact ⟨hg, store_fit60 h1, fitV_valid h2, storeV_len h1, Nat.le_trans (versV_len h2) (by omega)⟩
/-- A drawn archive, with what is drawn behind it. -/
def ArcRes (w : World) (g p : Nat) (e : Ending) (w' : World) : Prop :=
  ∃ (v : Value) (a : Ar) (p' : Nat), e = .returned v ∧ ArV w' w.heap.size a v ∧ ArOk a ∧ Only g w w' ∧ Rdr w' g p' ∧ p' ≤ p + 80
section
variable {w : World} {g ba : Nat} {l l2 : List Pc} {op op2 : Int} {m m2 : List Vr} {P Q P2 Q2 : Value} {pm : Nat} {ans : ByteArray} {b8 pp : Nat} {d : Nat → Bool} {v0 v1 v2 v3 v4 v5 v6 v7 v9 : Value} {W W' : World}
/-- What holds inside a round of the drawn archive, whatever has come up. -/
structure LrJ (w : World) (g ba : Nat) (l : List Pc) (op : Int) (m : List Vr) (P Q : Value) (pm : Nat) (P2 Q2 : Value) (ans : ByteArray) (l2 : List Pc) (op2 : Int) (m2 : List Vr) (b8 pp : Nat) (d : Nat → Bool) (v0 v1 v2 v3 v4 v5 v6 v7 v9 : Value) (W : World) : Prop where
  s : ArcS w g ba l op m P Q W
  r : Rdr W g pp
  le : pp ≤ pm
  c0 : d 0 = true → v0 = .agg #[P, .int .i64 op, Q]
  c1 : d 1 = true → v1 = .pointer (some ⟨g, 0, none⟩)
  c2 : d 2 = true → ∃ line : ByteArray, v2 = .string line ∧ line.size ≤ 40
  c3 : d 3 = true → v3 = .tuple #[.agg #[P2, .int .i64 op2, Q2], .string ans]
  c4 : d 4 = true → v4 = .tuple #[.agg #[P2, .int .i64 op2, Q2], .string ans]
  c5 : d 5 = true → v5 = .agg #[P2, .int .i64 op2, Q2]
  c6 : d 6 = true → v6 = .string ans
  c7 : d 7 = true → v7 = .pointer (some ⟨b8, 0, none⟩)
  o4 : d 4 = true → d 3 = true
  o5 : d 5 = true → d 3 = true
  p2 : d 3 = true → Own W (w.heap.size + 1) 57 2 encP P2 l2
  q2 : d 3 = true → Own W (w.heap.size + 1) 45 3 encV Q2 m2
  ap : d 3 = true → ApartV P2 Q2
  np : d 3 = true → P2.ownBlock ≠ some ba ∧ Q2.ownBlock ≠ some ba
  av : d 3 = true → archV ⟨l2, op2, m2⟩ = true ∧ Good (fun _ => True) l2
  bx : d 7 = true → d 8 = false → Row3 W b8 (.slice none 0 0) (.int .i64 0) (.slice none 0 0)
  by_ : d 8 = true → Row3 W b8 P2 (.int .i64 op2) Q2
  bn : d 7 = true → ba < b8
  nb : d 7 = true → d 3 = true → P2.ownBlock ≠ some b8 ∧ Q2.ownBlock ≠ some b8
  o8 : d 8 = true → d 5 = true ∧ d 7 = true
  nq : d 7 = true → P.ownBlock ≠ some b8 ∧ Q.ownBlock ≠ some b8
  o6 : d 6 = true → d 4 = true
  le2 : d 2 = false → pp + 6 ≤ pm
  o32 : d 3 = true → d 2 = true
theorem LrJ.n8 (h : LrJ w g ba l op m P Q pm P2 Q2 ans l2 op2 m2 b8 pp d v0 v1 v2 v3 v4 v5 v6 v7 v9 W) (h5 : d 5 = false) : d 8 = false := by
  cases e : d 8
  · rfl
  · rw [(h.o8 e).1] at h5; cases h5
theorem LrJ.n8' (h : LrJ w g ba l op m P Q pm P2 Q2 ans l2 op2 m2 b8 pp d v0 v1 v2 v3 v4 v5 v6 v7 v9 W) (h7 : d 7 = false) : d 8 = false := by
  cases e : d 8
  · rfl
  · rw [(h.o8 e).2] at h7; cases h7
theorem LrJ.n3 (h : LrJ w g ba l op m P Q pm P2 Q2 ans l2 op2 m2 b8 pp d v0 v1 v2 v3 v4 v5 v6 v7 v9 W) (h3 : d 3 = false) : d 4 = false ∧ d 5 = false ∧ d 8 = false := by
  have h4 : d 4 = false := by
    cases e : d 4
    · rfl
    · rw [h.o4 e] at h3; cases h3
  have h5 : d 5 = false := by
    cases e : d 5
    · rfl
    · rw [h.o5 e] at h3; cases h3
  exact ⟨h4, h5, h.n8 h5⟩
/-- A line has been drawn. -/
theorem LrJ.step2 (h : LrJ w g ba l op m P Q pm P2 Q2 ans l2 op2 m2 b8 pp d v0 v1 v2 v3 v4 v5 v6 v7 v9 W) {line : ByteArray} {pp' : Nat} (hl : line.size ≤ 40) (h3 : d 3 = false) (ho : Only g W W') (hr : Rdr W' g pp') (hle : pp' ≤ pm) : LrJ w g ba l op m P Q pm P2 Q2 ans l2 op2 m2 b8 pp' (fun j => j == 2 || d j) v0 v1 (.string line) v3 v4 v5 v6 v7 v9 W' := by
  obtain ⟨h4, h5, h8⟩ := h.n3 h3
  have hg := h.s.lg
  have hlo := h.s.lo
  exact { h with
    s := h.s.onl ho
    r := hr
    le := hle
    c2 := fun _ => ⟨line, rfl, hl⟩
    p2 := fun e => by rw [show d 3 = true from e] at h3; cases h3
    q2 := fun e => by rw [show d 3 = true from e] at h3; cases h3
    bx := fun e e8 => (h.bx e e8).only ho (by have := h.bn e; omega)
    by_ := fun e => by rw [show d 8 = true from e] at h8; cases h8
    le2 := fun e => by cases e
    o32 := fun _ => rfl }
/-- The line has been taken. -/
theorem LrJ.step3 (h : LrJ w g ba l op m P Q pm P2 Q2 ans l2 op2 m2 b8 pp d v0 v1 v2 v3 v4 v5 v6 v7 v9 W) {P3 Q3 : Value} {ans3 : ByteArray} {l3 : List Pc} {op3 : Int} {m3 : List Vr} (h3 : d 3 = false) (h2 : d 2 = true) (hb : Below W.heap.size W W') (hp : Own W' W.heap.size 57 2 encP P3 l3) (hq : Own W' W.heap.size 45 3 encV Q3 m3) (hap : ApartV P3 Q3)
    (hav : archV ⟨l3, op3, m3⟩ = true ∧ Good (fun _ => True) l3) : LrJ w g ba l op m P Q pm P3 Q3 ans3 l3 op3 m3 b8 pp (fun j => j == 3 || d j) v0 v1 v2 (.tuple #[.agg #[P3, .int .i64 op3, Q3], .string ans3]) v4 v5 v6 v7 v9 W' := by
  obtain ⟨h4, h5, h8⟩ := h.n3 h3
  have hg := h.s.lg
  have hlo := h.s.lo
  have hz := h.s.ra.2.2
  have hfar : ∀ {u : Value} {k : Nat}, (∀ b, u.ownBlock = some b → W.heap.size ≤ b ∧ b < W'.heap.size) → k < W.heap.size → u.ownBlock ≠ some k := fun hu hk e => by have := (hu _ e).1; omega
  have hfp := fun {k : Nat} (hk : k < W.heap.size) => hfar (fun b e => hp.blk b e) hk
  have hfq := fun {k : Nat} (hk : k < W.heap.size) => hfar (fun b e => hq.blk b e) hk
  have h6 : d 6 = false := by
    cases e : d 6
    · rfl
    · exact absurd (h.o6 e) (by rw [h4]; simp)
  exact { h with
    s := h.s.below hb
    r := h.r.below hb
    c3 := fun _ => rfl
    c4 := fun e => by rw [show d 4 = true from e] at h4; cases h4
    c5 := fun e => by rw [show d 5 = true from e] at h5; cases h5
    c6 := fun e => by rw [show d 6 = true from e] at h6; cases h6
    o4 := fun _ => rfl
    o5 := fun _ => rfl
    p2 := fun _ => hp.mono (by omega)
    q2 := fun _ => hq.mono (by omega)
    ap := fun _ => hap
    np := fun _ => ⟨hfp hz, hfq hz⟩
    av := fun _ => hav
    bx := fun e e8 => (h.bx e e8).below hb
    by_ := fun e => by rw [show d 8 = true from e] at h8; cases h8
    nb := fun e _ => ⟨hfp (h.bx e h8).2.2, hfq (h.bx e h8).2.2⟩
    o32 := fun _ => h2 }
theorem LrJ.step7 (h : LrJ w g ba l op m P Q pm P2 Q2 ans l2 op2 m2 b8 pp d v0 v1 v2 v3 v4 v5 v6 v7 v9 W) (h7 : d 7 = false) : LrJ w g ba l op m P Q pm P2 Q2 ans l2 op2 m2 W.heap.size pp (fun j => j == 7 || d j) v0 v1 v2 v3 v4 v5 v6 (.pointer (some ⟨W.heap.size, 0, none⟩)) v9 (W.alloc (.cells #[.slice none 0 0, .int .i64 0, .slice none 0 0] 26)) := by
  have h8 := h.n8' h7
  have hb := (Below.refl W.heap.size W).alloc (Nat.le_refl _) (.cells #[.slice none 0 0, .int .i64 0, .slice none 0 0] 26)
  exact { h with
    s := h.s.alloc _
    r := h.r.alloc _
    c7 := fun _ => rfl
    p2 := fun e => (h.p2 e).alloc _
    q2 := fun e => (h.q2 e).alloc _
    bx := fun _ _ => Row3.new
    by_ := fun e => by rw [show d 8 = true from e] at h8; cases h8
    bn := fun _ => h.s.ra.2.2
    nb := fun _ e => ⟨fun e2 => by have := ((h.p2 e).blk _ e2).2; omega, fun e2 => by have := ((h.q2 e).blk _ e2).2; omega⟩
    o8 := fun e => by rw [show d 8 = true from e] at h8; cases h8
    nq := fun _ => ⟨fun e2 => by have := (h.s.hp.blk _ e2).2; omega, fun e2 => by have := (h.s.hq.blk _ e2).2; omega⟩ }
theorem LrJ.step8 (h : LrJ w g ba l op m P Q pm P2 Q2 ans l2 op2 m2 b8 pp d v0 v1 v2 v3 v4 v5 v6 v7 v9 W) (h8 : d 8 = false) (h3 : d 3 = true) (h5 : d 5 = true) (h7 : d 7 = true) : LrJ w g ba l op m P Q pm P2 Q2 ans l2 op2 m2 b8 pp (fun j => j == 8 || d j) v0 v1 v2 v3 v4 v5 v6 v7 v9 (((W.setCell ⟨b8, 0, none⟩ P2).setCell ⟨b8, 1, none⟩ (.int .i64 op2)).setCell ⟨b8, 2, none⟩ Q2) := by
  have hbn := h.bn h7
  obtain ⟨nb1, nb2⟩ := h.nb h7 h3
  have hlo := h.s.lo
  have hlg := h.s.lg
  have hx : ∀ {W0 : World} {i : Nat} {u : Value}, ArcS w g ba l op m P Q W0 → P.ownBlock ≠ some b8 → Q.ownBlock ≠ some b8 → ArcS w g ba l op m P Q (W0.setCell ⟨b8, i, none⟩ u) := fun hs n1 n2 =>
    { hs with
      only := hs.only.setNew (by show w.heap.size ≤ b8; omega) _
      r0 := hs.r0.other (by show b8 ≠ w.heap.size; omega) _
      ra := hs.ra.other (by show b8 ≠ ba; omega) _
      hp := hs.hp.setOther n1 _
      hq := hs.hq.setOther n2 _ }
  obtain ⟨n1, n2⟩ := h.nq h7
  exact { h with
    s := hx (hx (hx h.s n1 n2) n1 n2) n1 n2
    r := ((h.r.setNew (by show g < b8; omega) _).setNew (by show g < b8; omega) _).setNew (by show g < b8; omega) _
    p2 := fun e => (((h.p2 e).setOther nb1 _).setOther nb1 _).setOther nb1 _
    q2 := fun e => (((h.q2 e).setOther nb2 _).setOther nb2 _).setOther nb2 _
    bx := fun _ e => by cases e
    by_ := fun _ => (((h.bx h7 h8).set0 _).set1 _).set2 _
    o8 := fun _ => ⟨h5, h7⟩ }
end
theorem ArcS.set1 {w : World} {g ba : Nat} {l : List Pc} {op : Int} {m : List Vr} {P Q : Value} {W : World} (h : ArcS w g ba l op m P Q W) (op' : Int) : ArcS w g ba l op' m P Q (W.setCell ⟨ba, 1, none⟩ (.int .i64 op')) := by
  have h1 := h.lo
  have h2 := h.lg
  exact { h with
    only := h.only.setNew (by show w.heap.size ≤ ba; omega) _
    r0 := h.r0.other (by show ba ≠ w.heap.size; omega) _
    ra := h.ra.set1 _
    hp := h.hp.setOther h.nP _
    hq := h.hq.setOther h.nQ _ }
theorem ArcS.set0 {w : World} {g ba : Nat} {l l' : List Pc} {op : Int} {m : List Vr} {P P' Q : Value} {W : World} (h : ArcS w g ba l op m P Q W) (hp : Own W (w.heap.size + 1) 57 2 encP P' l') (hap : ApartV P' Q) (nP : P'.ownBlock ≠ some ba) : ArcS w g ba l' op m P' Q (W.setCell ⟨ba, 0, none⟩ P') := by
  have h1 := h.lo
  have h2 := h.lg
  exact { only := h.only.setNew (by show w.heap.size ≤ ba; omega) _
          r0 := h.r0.other (by show ba ≠ w.heap.size; omega) _
          ra := h.ra.set0 _
          hp := hp.setOther nP _
          hq := h.hq.setOther h.nQ _
          ap := hap, nP := nP, nQ := h.nQ, lo := h.lo, lg := h.lg }
theorem ArcS.set2 {w : World} {g ba : Nat} {l : List Pc} {op : Int} {m m' : List Vr} {P Q Q' : Value} {W W' : World} (h : ArcS w g ba l op m P Q W) (hq : Own W' (w.heap.size + 1) 45 3 encV Q' m') (hb : Below (w.heap.size + 1) W W') (hg : Grew Q W W') (hk : Kin Q W Q') : ArcS w g ba l op m' P Q' (W'.setCell ⟨ba, 2, none⟩ Q') := by
  have h1 := h.lo
  have h2 := h.lg
  have hnP : P.ownBlock ≠ some ba := h.nP
  have hnQ : Q'.ownBlock ≠ some ba := hk ba h.ra.2.2 h.nQ
  have hap : ApartV P Q' := fun b hb2 hq2 => hk b ((h.hp.blk b hb2).2) (fun e => h.ap b hb2 e) hq2
  have ho : Only g w W' := ⟨hb.os.trans h.only.os, hb.tape.trans h.only.tape, hb.output.trans h.only.output, Nat.le_trans h.only.size hb.size, fun k hk hne => (hb.block k (by omega)).trans (h.only.block k hk hne)⟩
  have hnr : Q.ownBlock ≠ some w.heap.size := fun e => by have := (h.hq.blk _ e).1; omega
  exact { only := ho.setNew (by show w.heap.size ≤ ba; omega) _
          r0 := (h.r0.grew hg hnr).other (by show ba ≠ w.heap.size; omega) _
          ra := (h.ra.grew hg h.nQ).set2 _
          hp := (h.hp.keepG hg h.ap).setOther hnP _
          hq := hq.setOther hnQ _
          ap := hap, nP := hnP, nQ := hnQ, lo := h.lo, lg := h.lg }
theorem fitV_more {m : List Vr} {y : Vr} (h : FitV m) (hy : y.2.2.size ≤ 16777216) : FitV (m ++ [y]) := fun v hv => by
  rcases List.mem_append.1 hv with h1 | h1
  · exact h v h1
  · rw [List.mem_singleton] at h1; subst h1; exact hy
theorem fitP_of_store {l : List Pc} (h : storeV l = true) : FitP l := fun q hq => Nat.le_trans (store_fit60 h q hq) (by omega)
theorem arc_end {w W : World} {g ba p p' : Nat} {l : List Pc} {op : Int} {m : List Vr} {P Q : Value} (h : ArcS w g ba l op m P Q W) (hr : Rdr W g p') (hok : ArOk ⟨l, op, m⟩) (hle : p' ≤ p + 80) :
    ArcRes w g p (.returned (.agg #[P, .int .i64 op, Q])) (((W.setCell ⟨w.heap.size, 0, none⟩ P).setCell ⟨w.heap.size, 1, none⟩ (.int .i64 op)).setCell ⟨w.heap.size, 2, none⟩ Q) := by
  have hlg := h.lg
  refine ⟨_, ⟨l, op, m⟩, p', rfl, ⟨P, Q, rfl, ?_, ?_, h.ap⟩, hok, ?_, ?_, hle⟩
  · exact (((h.hp.setBelow (by simp) _).setBelow (by simp) _).setBelow (by simp) _).mono (by omega)
  · exact (((h.hq.setBelow (by simp) _).setBelow (by simp) _).setBelow (by simp) _).mono (by omega)
  · exact ((h.only.setNew (Nat.le_refl _) _).setNew (Nat.le_refl _) _).setNew (Nat.le_refl _) _
  · exact ((hr.setNew hlg _).setNew hlg _).setNew hlg _
set_option maxHeartbeats 16000000 in
set_option maxRecDepth 100000 in
theorem l20Archive_any (n : Int) (g p : Nat) (w : World) (hr : Rdr w g p) (hp : p ≤ 700000000) (hn : n ≤ 1000000000) : Calls Tryd.prog 14 #[.pointer (some ⟨g, 0, none⟩), .int .i64 n] w (ArcRes w g p) := by
  have HR := Lib.hid hr
  have hlt := hr.lt
  have hNEW := fun W A => sNewArchive_any (some A) 0 [] W (fun h => absurd h (by simp)) (by intro h; cases h) (Nat.le_refl _) (by simp) (by intro q hq; cases hq)
  have hav := newA_ok new_start
  have hgd := newA_good (good_nil (fun _ => True))
  have hok := new_start
  have hnl := (newA_len []).2
  unfold NaRes ArV at hNEW
  generalize newA [] = NA at *
  obtain ⟨⟨l0, x0, m0⟩, ok0⟩ := NA
  simp only at *
  subst hok
  have HAV0 := Lib.hid hav.1
  have HGD0 := Lib.hid hgd
  have HNEW := Lib.hid (fun W A => show Calls Tryd.prog 35 #[.slice (some A) 0 0] W fun e w' => ∃ v, e = .returned (.tuple #[v, .bool true]) ∧ (∃ p q, v = .agg #[p, .int .i64 x0, q] ∧ Own w' W.heap.size 57 2 encP p l0 ∧ Own w' W.heap.size 45 3 encV q m0 ∧ ApartV p q) ∧ Below W.heap.size W w' from hNEW W A)
  clear hr hNEW hav hnl hgd
  go_enter Tryd.func14, Tryd.ntmps14
  go_wp2_with fail
  refine (HNEW.out _ _).mono ?_
  rintro e w1 ⟨v1, rfl, ⟨P, Q, rfl, hp1, hq1, hap1⟩, hb1⟩
  obtain ⟨A1, c1, e1, _⟩ := hp1.sl
  obtain ⟨B1, d1, e2, _⟩ := hq1.sl
  subst e1 e2
  have hz1 : w.heap.size + 2 ≤ w1.heap.size := by have := hb1.size; simp at this; omega
  have hr0 := Row3.new.below (w' := w1) (Below_of_alloc hb1)
  have HR1 := Lib.hid (HR.out.below (Below_of_alloc (Below_of_alloc hb1)))
  have hst : ArcS w g w1.heap.size l0 x0 m0 (.slice A1 l0.length c1) (.slice B1 m0.length d1) (w1.alloc (.cells #[.slice A1 l0.length c1, .int .i64 x0, .slice B1 m0.length d1] 26)) :=
    ⟨(Only.of_below (Below_of_alloc (Below_of_alloc hb1))).alloc _, hr0.below ((Below.refl _ _).alloc (Nat.le_refl _) _), Row3.new, (hp1.mono (by simp)).alloc _, (hq1.mono (by simp)).alloc _, hap1, (fun e => by have := (hp1.blk _ e).2; omega), (fun e => by have := (hq1.blk _ e).2; omega), by omega, hlt⟩
  have HST := Lib.hid hst
  clear hr0 hst hb1 hp1 hq1 hap1
  go_wp2_with fail
  refine (pick_any 6 _ _ _ (HR1.out.alloc _) (by omega) (by omega)).mono ?_
  rintro e w2 ⟨k0, rfl, hk0, ho2, hr2⟩
  have HS2 := Lib.hid (HST.out.onl ho2)
  have HR2 := Lib.hid hr2
  have hbl : w.heap.size + 1 ≤ w1.heap.size := by omega
  generalize hba : w1.heap.size = ba at *
  clear ho2 hr2 HST HR1 hba hz1
  go_wp2_with fail
  go_loopw [7] (fun vk wr => ∃ (k : Nat) (l : List Pc) (op : Int) (m : List Vr) (P Q : Value) (p1 : Nat), k ≤ 5 ∧ vk = .int .i64 k ∧ p1 + 10 * k ≤ p + 60 ∧ Hid (archV ⟨l, op, m⟩ = true) ∧ Hid (Good (fun _ => True) l) ∧ Hid (ArcS w g ba l op m P Q wr) ∧ Hid (Rdr wr g p1)) (fun vk _ => (intOf vk).toNat)
  case atStart => exact ⟨k0, l0, x0, m0, _, _, p + 1, by omega, rfl, by omega, HAV0.out, HGD0.out, HS2.out, HR2.out⟩
  case round =>
    obtain ⟨k, l, op, m, P, Q, p1, hk, rfl, hp1, HAV, HGD, HS, HRD⟩ := hrel
    obtain ⟨A5, c5, e5, hle5, _⟩ := HS.out.hp.sl
    obtain ⟨B5, d5, e6, hle6, _⟩ := HS.out.hq.sl
    subst e5 e6
    by_cases hk0 : k = 0
    · subst hk0
      have hkz : ¬ (0 : Int) > 0 := by decide
      have HOK := Lib.hid (ArOk.valid HAV.out HGD.out)
      go_wp2_with fail
      refine (odd_any _ _ _ _ HRD.out (by omega) (by omega)).mono ?_
      rintro e wa ⟨bo, pa, rfl, hoa, hra, hpa⟩
      have HSA := Lib.hid (HS.out.onl hoa)
      have HRA := Lib.hid hra
      clear hoa hra
      cases bo
      · obtain ⟨⟨a0, a1, a2⟩, _, _⟩ := HSA.out.ra
        obtain ⟨⟨y0, y1, y2⟩, yf, _⟩ := HSA.out.r0
        go_wp2_with fail
        exact bodyPost_ret (v := .agg #[.slice A5 l.length c5, .int .i64 op, .slice B5 m.length d5]) (by simp [results, Tryd.results14, go_sem, y0, y1, y2]) rfl (arc_end HSA.out HRA.out HOK.out (by omega))
      · go_wp2_with fail
        refine (pick_any 3 _ _ _ HRA.out (by omega) (by omega)).mono ?_
        rintro e wb ⟨x, rfl, hx, hob, hrb⟩
        have HSB := Lib.hid (HSA.out.onl hob)
        have HRB := Lib.hid hrb
        clear hob hrb
        by_cases hx0 : x = 0
        · have e0 : ((x : Int) == 0) = true := by rw [beq_iff_eq]; omega
          go_wp2_with fail
          refine (pick_int 2 (-1) 7 HRB.out (by omega) rfl (by omega) (by omega) (by decide)).mono ?_
          rintro e wc ⟨y, z, rfl, hy, hcz, hlo, hhi, hoc, hrc⟩
          have HSC := Lib.hid (HSB.out.onl hoc)
          have HRC := Lib.hid hrc
          clear hoc hrc
          obtain ⟨⟨a0, a1, a2⟩, af, _⟩ := HSC.out.ra
          have HSD := Lib.hid (HSC.out.set1 z)
          obtain ⟨⟨b0, b1, b2⟩, _, _⟩ := HSD.out.ra
          obtain ⟨⟨y0, y1, y2⟩, yf, _⟩ := HSD.out.r0
          have HRD2 := Lib.hid (HRC.out.setNew (q := ⟨ba, 1, none⟩) (by show g < ba; have := HSC.out.lo; omega) (.int .i64 z))
          have HOK2 := Lib.hid (show ArOk ⟨l, z, m⟩ from ⟨HOK.out.good, HOK.out.fitP, HOK.out.fitV, HOK.out.lp, HOK.out.lv⟩)
          go_wp2_with fail
          exact bodyPost_ret (v := .agg #[.slice A5 l.length c5, .int .i64 z, .slice B5 m.length d5]) (by simp [results, Tryd.results14, go_sem, y0, y1, y2]) rfl (arc_end HSD.out HRD2.out HOK2.out (by omega))
        · have e0 : ((x : Int) == 0) = false := by rw [beq_eq_false_iff_ne]; omega
          by_cases hx1 : x = 1
          · have e1 : ((x : Int) == 1) = true := by rw [beq_iff_eq]; omega
            have HSC := Lib.hid (HSB.out.alloc (.cells #[] 57))
            have hlo := HSB.out.lo
            have hzb := HSB.out.ra.2.2
            obtain ⟨⟨a0, a1, a2⟩, af, _⟩ := HSC.out.ra
            have HSD := Lib.hid (HSC.out.set0 (l' := []) (P' := .slice (some ⟨wb.heap.size, 0, none⟩) 0 0) (Own.made (by omega)) (fun b hb hq => by
              have hb : some wb.heap.size = some b := hb
              injection hb with hb; subst hb
              exact absurd ((HSB.out.hq.blk _ hq).2) (Nat.lt_irrefl _)) (by
              intro e
              have e : some wb.heap.size = some ba := e
              injection e with e; omega))
            have hsd := HSD.out
            rw [World.setCell_alloc_past _ ba 0 _ hzb] at hsd
            clear HSD
            have HSD := Lib.hid hsd
            clear hsd
            obtain ⟨⟨b0, b1, b2⟩, _, _⟩ := HSD.out.ra
            obtain ⟨⟨y0, y1, y2⟩, yf, _⟩ := HSD.out.r0
            have HRD2 := Lib.hid ((HRB.out.setNew (q := ⟨ba, 0, none⟩) (by show g < ba; omega) (.slice (some ⟨wb.heap.size, 0, none⟩) 0 0)).alloc (.cells #[] 57))
            have HOK2 := Lib.hid (show ArOk ⟨[], op, m⟩ from ⟨good_nil _, by simp, HOK.out.fitV, by simp, HOK.out.lv⟩)
            go_wp2_with fail
            have hend := arc_end HSD.out HRD2.out HOK2.out (show pa + 1 ≤ p + 80 by omega)
            refine bodyPost_ret (v := .agg #[.slice (some ⟨wb.heap.size, 0, none⟩) 0 0, .int .i64 op, .slice B5 m.length d5]) ?_ rfl hend
            simp [results, Tryd.results14, go_sem, y0, y1, y2]
          · have e1 : ((x : Int) == 1) = false := by rw [beq_eq_false_iff_ne]; omega
            obtain ⟨⟨a0, a1, a2⟩, af, _⟩ := HSB.out.ra
            have hlo := HSB.out.lo
            have hzb := HSB.out.ra.2.2
            obtain ⟨i0, hi0, hz0, hz1, hz2⟩ := info_parts encV_info
            have hml : m.length ≤ 12 := versV_len (archV_iff.1 HAV.out).2.1
            go_wp2_with (at_builtin; refine wpList_app3 (enc := encV) (w0 := wb) (B := w.heap.size + 1) Tryd.underlying24 hi0 hz0 hz1 hz2 rfl (by decide) (by decide) rfl _ _ rfl (by rfl) (by rfl) HSB.out.hq (Below.refl _ _) (Nat.le_refl _) (by omega) (by omega) (7, -1, ⟨#[97]⟩) _ rfl rfl (oneV _) ?_; intro v6 w6 hown6 hb6 hg6 hk6; obtain ⟨X6, c6, e6, _⟩ := hown6.sl; rw [List.length_append, List.length_singleton] at e6; subst e6; have HSD := Lib.hid (HSB.out.set2 hown6 hb6 hg6 hk6); have HRD2 := Lib.hid ((HRB.out.under (show g < w.heap.size + 1 by omega) hb6).setNew (q := ⟨ba, 2, none⟩) (by show g < ba; omega) (.slice X6 (m.length + 1) c6)); obtain ⟨⟨b0, b1, b2⟩, _, _⟩ := HSD.out.ra; obtain ⟨⟨y0, y1, y2⟩, yf, _⟩ := HSD.out.r0; obtain ⟨⟨q0, q1, q2⟩, qf, _⟩ := HSB.out.ra.grew hg6 HSB.out.nQ; clear hown6 hb6 hg6 hk6)
            exact bodyPost_ret (v := .agg #[.slice A5 l.length c5, .int .i64 op, .slice X6 (m.length + 1) c6]) (by simp [results, Tryd.results14, go_sem, y0, y1, y2]) rfl (arc_end HSD.out HRD2.out (show ArOk ⟨l, op, m ++ [(7, -1, ⟨#[97]⟩)]⟩ from ⟨HOK.out.good, HOK.out.fitP, fitV_more HOK.out.fitV (by decide), HOK.out.lp, by show (m ++ [_]).length ≤ 13; rw [List.length_append, List.length_singleton]; omega⟩) (by omega))
    · have hkp : (k : Int) > 0 := by omega
      have hl40 : l.length ≤ 40 := storeV_len (archV_iff.1 HAV.out).1
      have hm12 : m.length ≤ 12 := versV_len (archV_iff.1 HAV.out).2.1
      have HAL := Lib.hid (fun (line : ByteArray) (hl : line.size ≤ 40) W (h : Sl W encP 2 A5 l) (h2 : Sl W encV 3 B5 m) => sArchiveLine_any A5 B5 c5 d5 l m op line W h HS.out.hp.cz hle5 (by omega) (fitP_of_store (archV_iff.1 HAV.out).1) h2 HS.out.hq.cz (by omega) (fitV_valid (archV_iff.1 HAV.out).2.1) (by omega))
      have HLG := Lib.hid (fun line => show archV (archL ⟨l, op, m⟩ line).1 = true ∧ Good (fun _ => True) (archL ⟨l, op, m⟩ line).1.ps from ⟨(archL_ok HAV.out line).valid, archL_good (fun _ => trivial) HGD.out line⟩)
      obtain ⟨⟨a0, a1, a2⟩, _, _⟩ := HS.out.ra
      go_wp2_with fail
      refine wp_region_inv (by kernel_rfl) (by kernel_rfl) (fun a0 d a W => ∃ (v18 v0 v1 v2 v3 v4 v5 v6 v7 v9 : Value) (P2 Q2 : Value) (ans : ByteArray) (l2 : List Pc) (op2 : Int) (m2 : List Vr) (b8 pp : Nat), a = ⟨#[.pointer (some ⟨g, 0, none⟩), .int .i64 n, undef, undef, .pointer (some ⟨w.heap.size, 0, none⟩), .pointer (some ⟨ba, 0, none⟩), .bool true, .int .i64 (k : Int), v7, v9, .tuple #[.agg #[.slice A1 l0.length c1, .int .i64 x0, .slice B1 m0.length d1], .bool true], .slice (some ⟨w.heap.size + 1, 0, none⟩) 0 0, .tuple #[.agg #[.slice A1 l0.length c1, .int .i64 x0, .slice B1 m0.length d1], .bool true], .agg #[.slice A1 l0.length c1, .int .i64 x0, .slice B1 m0.length d1], .bool true, .pointer (some ⟨g, 0, none⟩), .int .i64 (k0 : Int), .int .i64 (k : Int), v18, u19, u20, v4, v0, v1, v2, v3, v5, v6, u28, undef, undef, undef, undef, undef, undef, undef, undef, undef, undef, undef, undef, undef, undef, undef, undef, undef, undef, undef, undef, undef, undef, undef, undef], []⟩ ∧ LrJ w g ba l op m (.slice A5 l.length c5) (.slice B5 m.length d5) (p1 + 6) P2 Q2 ans l2 op2 m2 b8 pp d v0 v1 v2 v3 v4 v5 v6 v7 v9 W) ?_ ?_ ?_
      · refine ⟨_, _, _, _, _, _, _, _, _, _, .slice none 0 0, .slice none 0 0, ⟨#[]⟩, [], 0, [], 0, p1, rfl, ?_⟩
        exact { s := HS.out.drew, r := HRD.out.below (Below_drewN (Below.refl _ _) 1), le := Nat.le_add_right _ _, c0 := nofun, c1 := nofun, c2 := nofun, c3 := nofun, c4 := nofun, c5 := nofun, c6 := nofun, c7 := nofun, o4 := nofun, o5 := nofun, p2 := nofun, q2 := nofun, ap := nofun, np := nofun, av := nofun, bx := nofun, by_ := nofun, bn := nofun, nb := nofun, o8 := nofun, nq := nofun, o6 := nofun, le2 := fun _ => Nat.le_refl _, o32 := nofun }
      · refine ⟨?_, ?_, ?_, ?_, ?_, ?_, ?_, ?_, ?_, ?_, trivial⟩
        all_goals
          intro d a W K hd hdep hJ hK
          obtain ⟨v18, v0, v1, v2, v3, v4, v5, v6, v7, v9, P2, Q2, ans, l2, op2, m2, b8, pp, rfl, hj⟩ := hJ
          have HJ := Lib.hid hj
          have HK := Lib.hid hK
          have HD := Lib.hid hd
          have HDEP := Lib.hid hdep
          clear hj hK hd hdep
        · obtain ⟨⟨a0, a1, a2⟩, _, _⟩ := HJ.out.s.ra
          go_simp
          exact HK.out _ _ ⟨_, _, _, _, _, _, _, _, _, _, _, _, _, _, _, _, _, _, rfl, { HJ.out with c0 := fun _ => rfl }⟩
        · go_simp
          exact HK.out _ _ ⟨_, _, _, _, _, _, _, _, _, _, _, _, _, _, _, _, _, _, rfl, { HJ.out with c1 := fun _ => rfl }⟩
        · obtain rfl := HJ.out.c1 (HDEP.out { on := 1, ground := Ground.data } (by simp) rfl)
          have h3 : d 3 = false := by
            cases e : d 3
            · rfl
            · exact absurd (HJ.out.o32 e) (by rw [HD.out]; simp)
          have hle := HJ.out.le2 HD.out
          go_simp
          refine (l20Line_any _ _ _ HJ.out.r (by omega)).mono ?_
          rintro e w2 ⟨v2', p2, rfl, ⟨line, rfl, hln⟩, ho2, hr2, hp2⟩
          go_simp
          exact HK.out _ _ ⟨_, _, _, _, _, _, _, _, _, _, _, _, _, _, _, _, _, _, rfl, HJ.out.step2 hln h3 ho2 hr2 (by omega)⟩
        · obtain ⟨line, rfl, hln⟩ := HJ.out.c2 (HDEP.out { on := 2, ground := Ground.data } (by simp) rfl)
          obtain rfl := HJ.out.c0 (HDEP.out { on := 0, ground := Ground.data } (by simp) rfl)
          have hlg := HLG.out (bs line)
          have hal := HAL.out line hln W HJ.out.s.hp.sl' HJ.out.s.hq.sl'
          unfold AlRes ArV at hal
          generalize archL ⟨l, op, m⟩ (bs line) = R at *
          obtain ⟨⟨l3, op3, m3⟩, ans3⟩ := R
          simp only at hal hlg
          have HX := Lib.hid hal
          have HLG3 := Lib.hid hlg
          clear hal hlg
          go_simp
          refine HX.out.mono ?_
          rintro e w3 ⟨v3', rfl, ⟨P3, Q3, rfl, hp3, hq3, hap3⟩, hb3⟩
          obtain ⟨X3, k3, e3, _⟩ := hp3.sl
          obtain ⟨Y3, j3, e4, _⟩ := hq3.sl
          subst e3 e4
          go_simp
          exact HK.out _ _ ⟨_, _, _, _, _, _, _, _, _, _, _, _, _, _, _, _, _, _, rfl, HJ.out.step3 HD.out (HDEP.out { on := 2, ground := Ground.data } (by simp) rfl) hb3 hp3 hq3 hap3 HLG3.out⟩
        · obtain rfl := HJ.out.c3 (HDEP.out { on := 3, ground := Ground.data } (by simp) rfl)
          go_simp
          exact HK.out _ _ ⟨_, _, _, _, _, _, _, _, _, _, _, _, _, _, _, _, _, _, rfl, { HJ.out with c4 := fun _ => rfl, o4 := fun _ => (HDEP.out { on := 3, ground := Ground.data } (by simp) rfl), o6 := fun e => rfl }⟩
        · obtain rfl := HJ.out.c4 (HDEP.out { on := 4, ground := Ground.data } (by simp) rfl)
          go_simp
          exact HK.out _ _ ⟨_, _, _, _, _, _, _, _, _, _, _, _, _, _, _, _, _, _, rfl, { HJ.out with c5 := fun _ => rfl, o5 := fun _ => HJ.out.o4 (HDEP.out { on := 4, ground := Ground.data } (by simp) rfl), o8 := fun e => ⟨rfl, (HJ.out.o8 e).2⟩ }⟩
        · obtain rfl := HJ.out.c4 (HDEP.out { on := 4, ground := Ground.data } (by simp) rfl)
          go_simp
          exact HK.out _ _ ⟨_, _, _, _, _, _, _, _, _, _, _, _, _, _, _, _, _, _, rfl, { HJ.out with c6 := fun _ => rfl, o6 := fun _ => (HDEP.out { on := 4, ground := Ground.data } (by simp) rfl) }⟩
        · go_simp
          exact HK.out _ _ ⟨_, _, _, _, _, _, _, _, _, _, _, _, _, _, _, _, _, _, rfl, HJ.out.step7 HD.out⟩
        · obtain rfl := HJ.out.c5 (HDEP.out { on := 5, ground := Ground.data } (by simp) rfl)
          obtain rfl := HJ.out.c7 (HDEP.out { on := 7, ground := Ground.data } (by simp) rfl)
          have h3 := HJ.out.o5 (HDEP.out { on := 5, ground := Ground.data } (by simp) rfl)
          obtain ⟨X3, k3, e3, _⟩ := (HJ.out.p2 h3).sl
          obtain ⟨Y3, j3, e4, _⟩ := (HJ.out.q2 h3).sl
          subst e3 e4
          obtain ⟨⟨x0, x1, x2⟩, xf, _⟩ := HJ.out.bx (HDEP.out { on := 7, ground := Ground.data } (by simp) rfl) HD.out
          go_simp
          exact HK.out _ _ ⟨_, _, _, _, _, _, _, _, _, _, _, _, _, _, _, _, _, _, rfl, HJ.out.step8 HD.out h3 (HDEP.out { on := 5, ground := Ground.data } (by simp) rfl) (HDEP.out { on := 7, ground := Ground.data } (by simp) rfl)⟩
        · obtain rfl := HJ.out.c6 (HDEP.out { on := 6, ground := Ground.data } (by simp) rfl)
          go_simp
          exact HK.out _ _ ⟨_, _, _, _, _, _, _, _, _, _, _, _, _, _, _, _, _, _, rfl, { HJ.out with s := HJ.out.s }⟩
      · intro d a W hd hJ
        obtain ⟨v18, v0, v1, v2, v3, v4, v5, v6, v7, v9, P2, Q2, ans, l2, op2, m2, b8, pp, rfl, hj⟩ := hJ
        have h3 := hd 3 (by decide)
        obtain rfl := hj.c7 (hd 7 (by decide))
        obtain ⟨⟨x0, x1, x2⟩, xf, _⟩ := hj.by_ (hd 8 (by decide))
        obtain ⟨hav, hgd⟩ := hj.av h3
        have HAV2 := Lib.hid hav
        have HGD2 := Lib.hid hgd
        have hnp := hj.np h3
        obtain ⟨X3, k3, e3, _⟩ := (hj.p2 h3).sl
        obtain ⟨Y3, j3, e4, _⟩ := (hj.q2 h3).sl
        subst e3 e4
        have HPUT := Lib.hid (hj.s.put (hj.p2 h3) (hj.q2 h3) (hj.ap h3) hnp.1 hnp.2 (op' := op2))
        have hlg := hj.s.lg
        have hlo := hj.s.lo
        have HRD2 := Lib.hid (((hj.r.setNew (q := ⟨ba, 0, none⟩) (by show g < ba; omega) (.slice X3 l2.length k3)).setNew (q := ⟨ba, 1, none⟩) (by show g < ba; omega) (.int .i64 op2)).setNew (q := ⟨ba, 2, none⟩) (by show g < ba; omega) (.slice Y3 m2.length j3))
        have hle := hj.le
        obtain ⟨⟨a0, a1, a2⟩, af, _⟩ := hj.s.ra
        clear hj hd
        have hw1 : IntKind.i64.wrap ((k : Int) - 1) = (k : Int) - 1 := IntWalk.i64_in _ (by omega)
        go_wp2
        go_roundw
        case rel => exact ⟨k - 1, l2, op2, m2, _, _, pp, by omega, by go_num, by omega, HAV2.out, HGD2.out, HPUT.out, HRD2.out⟩
        case measure => first | (simp [intOf]; done) | (simp [intOf]; omega)
end Go.Proofs.YtkglfmgmmnfmbaaDoor
