/- Texts in one: AmS, Aml, Bx, Ams, Amn. -/
import Derived.Test.YtkglfmgmmnfmbaaGreatDoorGb9
import Derived.Test.YtkglfmgmmnfmbaaGreatDoorGa6
import Derived.Test.YtkglfmgmmnfmbaaGreatDoorGb4
import Derived.Test.YtkglfmgmmnfmbaaGreatDoorLr
import Derived.Test.YtkglfmgmmnfmbaaGreatDoorAli
/- Archives and answers, line after line: what stands while lines are taken. -/
set_option linter.unusedVariables false
namespace Go.Proofs.YtkglfmgmmnfmbaaGreatDoor
open Go.RowKit
/-- An archive and answers, each in memory of its own. -/
def AmRes (r : Ar × List Bs) (w : World) (e : Ending) (w' : World) : Prop :=
  ∃ p q u, e = .returned (.tuple #[.agg #[p, .int .i64 r.1.op, q], u]) ∧ Own w' w.heap.size 107 2 encP p r.1.ps ∧ Own w' w.heap.size 63 3 encV q r.1.vs ∧ Own w' w.heap.size 9 1 encS u (r.2.map mk) ∧ ApartV p q ∧ ApartV p u ∧ ApartV q u ∧ Below w.heap.size w w'
structure AmS (w : World) (ba : Nat) (l : List Pc) (op : Int) (m : List Vr) (P Q V : Value) (acc : List ByteArray) (W : World) : Prop where
  bel : Below w.heap.size w W
  r1 : Row3 W (w.heap.size + 1) (.slice none 0 0) (.int .i64 0) (.slice none 0 0)
  ra : Row3 W ba P (.int .i64 op) Q
  hp : Own W (w.heap.size + 2) 107 2 encP P l
  hq : Own W (w.heap.size + 2) 63 3 encV Q m
  hv : Own W w.heap.size 9 1 encS V acc
  ap : ApartV P Q
  apv : ApartV P V
  aqv : ApartV Q V
  nP : P.ownBlock ≠ some ba
  nQ : Q.ownBlock ≠ some ba
  nV : V.ownBlock ≠ some ba
  nV1 : V.ownBlock ≠ some (w.heap.size + 1)
  lo : w.heap.size + 2 ≤ ba
section
variable {w : World} {ba : Nat} {l l' : List Pc} {op op' : Int} {m m' : List Vr} {P Q V P' Q' V' : Value} {acc : List ByteArray} {W W' : World}
theorem AmS.below (h : AmS w ba l op m P Q V acc W) (hb : Below W.heap.size W W') : AmS w ba l op m P Q V acc W' :=
  { h with bel := Below_then h.bel hb (Nat.le_refl _), r1 := h.r1.below hb, ra := h.ra.below hb, hp := h.hp.below hb, hq := h.hq.below hb, hv := h.hv.below hb }
theorem AmS.alloc (h : AmS w ba l op m P Q V acc W) (o : Obj) : AmS w ba l op m P Q V acc (W.alloc o) := h.below ((Below.refl _ _).alloc (Nat.le_refl _) o)
/-- Another archive is laid into the box. -/
theorem AmS.put (h : AmS w ba l op m P Q V acc W) (hp : Own W (w.heap.size + 2) 107 2 encP P' l') (hq : Own W (w.heap.size + 2) 63 3 encV Q' m') (hap : ApartV P' Q') (hpv : ApartV P' V) (hqv : ApartV Q' V) (nP : P'.ownBlock ≠ some ba) (nQ : Q'.ownBlock ≠ some ba) :
    AmS w ba l' op' m' P' Q' V acc (((W.setCell ⟨ba, 0, none⟩ P').setCell ⟨ba, 1, none⟩ (.int .i64 op')).setCell ⟨ba, 2, none⟩ Q') := by
  have h1 := h.lo
  have hb : w.heap.size ≤ ba := by omega
  have hne : ba ≠ w.heap.size + 1 := by omega
  exact { bel := ((h.bel.setCell hb _).setCell hb _).setCell hb _
          r1 := ((h.r1.other hne _).other hne _).other hne _
          ra := ((h.ra.set0 _).set1 _).set2 _
          hp := ((hp.setOther nP _).setOther nP _).setOther nP _
          hq := ((hq.setOther nQ _).setOther nQ _).setOther nQ _
          hv := ((h.hv.setOther h.nV _).setOther h.nV _).setOther h.nV _
          ap := hap, apv := hpv, aqv := hqv, nP := nP, nQ := nQ, nV := h.nV, nV1 := h.nV1, lo := h.lo }
/-- An answer more. -/
theorem AmS.app {acc' : List ByteArray} (h : AmS w ba l op m P Q V acc W) (hv : Own W' w.heap.size 9 1 encS V' acc') (hb : Below w.heap.size w W') (hg : Grew V W W') (hk : Kin V W V') : AmS w ba l op m P Q V' acc' W' := by
  have h1 := h.lo
  have hz := h.ra.2.2
  have hsz := h.r1.2.2
  exact { bel := hb
          r1 := h.r1.grew hg h.nV1
          ra := h.ra.grew hg h.nV
          hp := h.hp.keepG hg h.apv
          hq := h.hq.keepG hg h.aqv
          hv := hv
          ap := h.ap
          apv := fun b e => hk b (h.hp.blk b e).2 (h.apv b e)
          aqv := fun b e => hk b (h.hq.blk b e).2 (h.aqv b e)
          nP := h.nP, nQ := h.nQ, nV := hk ba hz h.nV, nV1 := hk _ hsz h.nV1, lo := h.lo }
/-- The end: what is answered. -/
theorem AmS.done {R : Ar × List Bs} (h : AmS w ba l op m P Q V acc W) {accB : List Bs} (hR : R = (⟨l, op, m⟩, accB)) (ha : acc = accB.map Go.Proofs.YtkglfmgmmnfmbaaGreatDoor.mk) :
    AmRes R w (.returned (.tuple #[.agg #[P, .int .i64 op, Q], V])) (((W.setCell ⟨w.heap.size + 1, 0, none⟩ P).setCell ⟨w.heap.size + 1, 1, none⟩ (.int .i64 op)).setCell ⟨w.heap.size + 1, 2, none⟩ Q) := by
  subst hR ha
  have hb : w.heap.size ≤ w.heap.size + 1 := by omega
  exact ⟨P, Q, V, rfl, (((h.hp.setBelow (by simp) _).setBelow (by simp) _).setBelow (by simp) _).mono (by omega), (((h.hq.setBelow (by simp) _).setBelow (by simp) _).setBelow (by simp) _).mono (by omega), ((h.hv.setOther h.nV1 _).setOther h.nV1 _).setOther h.nV1 _, h.ap, h.apv, h.aqv, ((h.bel.setCell hb _).setCell hb _).setCell hb _⟩
end
/-! ### plain: line after line -/
theorem archLs_snoc {a b : Ar} {ls acc : List Bs} {s : Bs} (h : archLs a ls = (b, acc)) : archLs a (ls ++ [s]) = ((archL b s).1, acc ++ [(archL b s).2]) := by
  rw [archLs_append, h]; rfl
theorem archLs_take {a b : Ar} {ls : List ByteArray} {acc : List Bs} {k : Nat} (hk : k < ls.length) (h : archLs a ((ls.take k).map bs) = (b, acc)) {b' : Ar} {t : Bs} (h2 : archL b (bs ls[k]) = (b', t)) : archLs a ((ls.take (k + 1)).map bs) = (b', acc ++ [t]) := by
  rw [List.take_add_one, List.getElem?_eq_getElem hk, Option.toList_some, List.map_append, List.map_singleton, archLs_snoc h, h2]
theorem archM_good {a : Ar} {ls : List Bs} (hv : archV a = true) (hl : ls.length ≤ 12) : archM a ls = archLs a ls := by
  unfold archM; rw [hv, decide_eq_true hl]; rfl
theorem mapmk_snoc (acc : List Bs) (t : Bs) : acc.map mk ++ [mk t] = (acc ++ [t]).map mk := by rw [List.map_append]; rfl
end Go.Proofs.YtkglfmgmmnfmbaaGreatDoor

/- How much lines of an archive make. Plain Lean. -/
set_option linter.unusedVariables false
namespace Go.Proofs.YtkglfmgmmnfmbaaGreatDoor
theorem archLs_len : ∀ (ls : List Bs) (a : Ar), (archLs a ls).2.length = ls.length
  | [], a => rfl
  | s :: r, a => by rw [archLs, List.length_cons, List.length_cons, archLs_len r]
theorem archM_len (a : Ar) (ls : List Bs) : (archM a ls).1.ps.length ≤ 40 ∧ (archM a ls).1.vs.length ≤ 12 ∧ (archM a ls).2.length ≤ 12 := by
  by_cases h : archV a = true ∧ ls.length ≤ 12
  · rw [archM_good h.1 h.2]
    obtain ⟨h1, h2, _, _⟩ := archV_iff.1 (archLs_valid ls a h.1)
    exact ⟨storeV_len h1, versV_len h2, by rw [archLs_len]; exact h.2⟩
  · have hb : archV a = false ∨ ¬ ls.length ≤ 12 := by
      cases hv : archV a
      · exact .inl rfl
      · exact .inr fun h2 => h ⟨hv, h2⟩
    rw [archM_bad hb]; simp
theorem archM_valid {a : Ar} {ls : List Bs} (hv : archV a = true) (hl : ls.length ≤ 12) : archV (archM a ls).1 = true := by rw [archM_good hv hl]; exact archLs_valid ls a hv
end Go.Proofs.YtkglfmgmmnfmbaaGreatDoor

/- A call that answers an archive and more, kept in a new box, in a region that draws its order: what holds, whatever has come up. -/
set_option linter.unusedVariables false
namespace Go.Proofs.YtkglfmgmmnfmbaaGreatDoor
open Go.RowKit
/-- An answer beside an archive: a text, or texts in memory of their own. -/
def AnsV (base : Nat) (W : World) (r : ByteArray ⊕ List ByteArray) (v : Value) : Prop :=
  match r with
  | .inl s => v = .string s
  | .inr l => Own W base 9 1 encS v l
section
variable {base base' : Nat} {W W' : World} {r : ByteArray ⊕ List ByteArray} {v : Value}
theorem AnsV.below (h : AnsV base W r v) (hb : Below W.heap.size W W') : AnsV base W' r v := by
  cases r with
  | inl s => exact h
  | inr l => exact Own.below h hb
theorem AnsV.alloc (h : AnsV base W r v) (o : Obj) : AnsV base (W.alloc o) r v := h.below ((Below.refl _ _).alloc (Nat.le_refl _) o)
theorem AnsV.mono (h : AnsV base W r v) (hb : base' ≤ base) : AnsV base' W r v := by
  cases r with
  | inl s => exact h
  | inr l => exact Own.mono h hb
theorem AnsV.other (h : AnsV base W r v) {b i : Nat} (hb : v.ownBlock ≠ some b) (u : Value) : AnsV base (W.setCell ⟨b, i, none⟩ u) r v := by
  cases r with
  | inl s => exact h
  | inr l => exact Own.setOther h hb u
theorem AnsV.blk (h : AnsV base W r v) : ∀ g, v.ownBlock = some g → base ≤ g ∧ g < W.heap.size := by
  cases r with
  | inl s => intro g hg; have h : v = .string s := h; subst h; cases hg
  | inr l => exact Own.blk h
end
/-- What holds around such a call: tC, tA, tS say whether the call, the new box, the store have come up. -/
structure BxC (w0 : World) (l2 : List Pc) (op2 : Int) (m2 : List Vr) (r : ByteArray ⊕ List ByteArray) (tC tM t0 t1 tA tS : Bool) (vC vM v0 v1 vA : Value) (P2 Q2 V2 : Value) (b8 : Nat) (W : World) : Prop where
  bel : Below w0.heap.size w0 W
  cC : tC = true → vC = .tuple #[.agg #[P2, .int .i64 op2, Q2], V2]
  pC : tC = true → Own W w0.heap.size 107 2 encP P2 l2
  qC : tC = true → Own W w0.heap.size 63 3 encV Q2 m2
  ap : tC = true → ApartV P2 Q2
  vO : tC = true → AnsV w0.heap.size W r V2
  cA : tA = true → vA = .pointer (some ⟨b8, 0, none⟩) ∧ w0.heap.size ≤ b8
  bx : tA = true → tS = false → Row3 W b8 (.slice none 0 0) (.int .i64 0) (.slice none 0 0)
  bs : tS = true → Row3 W b8 P2 (.int .i64 op2) Q2
  nb : tA = true → tC = true → P2.ownBlock ≠ some b8 ∧ Q2.ownBlock ≠ some b8 ∧ V2.ownBlock ≠ some b8
  oS : tS = true → tC = true ∧ tA = true
  cM : tM = true → vM = .tuple #[.agg #[P2, .int .i64 op2, Q2], V2] ∧ tC = true
  c0 : t0 = true → v0 = .agg #[P2, .int .i64 op2, Q2] ∧ tC = true
  c1 : t1 = true → v1 = V2 ∧ tC = true
section
variable {w0 : World} {l2 : List Pc} {op2 : Int} {m2 : List Vr} {r : ByteArray ⊕ List ByteArray} {tC tM t0 t1 tA tS : Bool} {vC vM v0 v1 vA : Value} {P2 Q2 V2 : Value} {b8 : Nat} {W W' : World}
theorem BxC.start : BxC w0 l2 op2 m2 r false false false false false false vC vM v0 v1 vA P2 Q2 V2 b8 w0.drew :=
  { bel := Below_drewN (Below.refl _ _) 1, cC := nofun, pC := nofun, qC := nofun, ap := nofun, vO := nofun, cA := nofun, bx := nofun, bs := nofun, nb := nofun, oS := nofun, cM := nofun, c0 := nofun, c1 := nofun }
theorem BxC.nS (h : BxC w0 l2 op2 m2 r tC tM t0 t1 tA tS vC vM v0 v1 vA P2 Q2 V2 b8 W) (hn : tC = false ∨ tA = false) : tS = false := by
  cases e : tS
  · rfl
  · obtain ⟨h1, h2⟩ := h.oS e
    rcases hn with hn | hn
    · rw [h1] at hn; cases hn
    · rw [h2] at hn; cases hn
theorem BxC.below (h : BxC w0 l2 op2 m2 r tC tM t0 t1 tA tS vC vM v0 v1 vA P2 Q2 V2 b8 W) (hb : Below W.heap.size W W') : BxC w0 l2 op2 m2 r tC tM t0 t1 tA tS vC vM v0 v1 vA P2 Q2 V2 b8 W' :=
  { h with
    bel := Below_then h.bel hb (Nat.le_refl _)
    pC := fun e => (h.pC e).below hb
    qC := fun e => (h.qC e).below hb
    vO := fun e => (h.vO e).below hb
    bx := fun e e2 => (h.bx e e2).below hb
    bs := fun e => (h.bs e).below hb }
/-- The call has come up. -/
theorem BxC.call {P3 Q3 V3 : Value} (h : BxC w0 l2 op2 m2 r tC tM t0 t1 tA tS vC vM v0 v1 vA P2 Q2 V2 b8 W) (hn : tC = false) (hb : Below W.heap.size W W') (hp : Own W' W.heap.size 107 2 encP P3 l2) (hq : Own W' W.heap.size 63 3 encV Q3 m2) (hap : ApartV P3 Q3) (hv : AnsV W.heap.size W' r V3) :
    BxC w0 l2 op2 m2 r true tM t0 t1 tA tS (.tuple #[.agg #[P3, .int .i64 op2, Q3], V3]) vM v0 v1 vA P3 Q3 V3 b8 W' := by
  have hS := h.nS (.inl hn)
  have hs := h.bel.size
  subst hS hn
  exact { h with
    bel := Below_then h.bel hb (Nat.le_refl _)
    cC := fun _ => rfl
    pC := fun _ => hp.mono hs
    qC := fun _ => hq.mono hs
    ap := fun _ => hap
    vO := fun _ => hv.mono hs
    bx := fun e e2 => (h.bx e e2).below hb
    bs := nofun
    nb := fun e _ => by
      have h1 := (h.bx e rfl).2.2
      exact ⟨fun e2 => by have := (hp.blk _ e2).1; omega, fun e2 => by have := (hq.blk _ e2).1; omega, fun e2 => by have := (hv.blk _ e2).1; omega⟩
    oS := nofun
    cM := fun e => absurd (h.cM e).2 (by simp)
    c0 := fun e => absurd (h.c0 e).2 (by simp)
    c1 := fun e => absurd (h.c1 e).2 (by simp) }
theorem BxC.move (h : BxC w0 l2 op2 m2 r tC tM t0 t1 tA tS vC vM v0 v1 vA P2 Q2 V2 b8 W) (hC : tC = true) : BxC w0 l2 op2 m2 r tC true t0 t1 tA tS vC vC v0 v1 vA P2 Q2 V2 b8 W := { h with cM := fun _ => ⟨h.cC hC, hC⟩ }
theorem BxC.ext0 (h : BxC w0 l2 op2 m2 r tC tM t0 t1 tA tS vC vM v0 v1 vA P2 Q2 V2 b8 W) (hC : tC = true) : BxC w0 l2 op2 m2 r tC tM true t1 tA tS vC vM (.agg #[P2, .int .i64 op2, Q2]) v1 vA P2 Q2 V2 b8 W := { h with c0 := fun _ => ⟨rfl, hC⟩ }
theorem BxC.ext1 (h : BxC w0 l2 op2 m2 r tC tM t0 t1 tA tS vC vM v0 v1 vA P2 Q2 V2 b8 W) (hC : tC = true) : BxC w0 l2 op2 m2 r tC tM t0 true tA tS vC vM v0 V2 vA P2 Q2 V2 b8 W := { h with c1 := fun _ => ⟨rfl, hC⟩ }
/-- The box has come up. -/
theorem BxC.box (h : BxC w0 l2 op2 m2 r tC tM t0 t1 tA tS vC vM v0 v1 vA P2 Q2 V2 b8 W) (hn : tA = false) : BxC w0 l2 op2 m2 r tC tM t0 t1 true tS vC vM v0 v1 (.pointer (some ⟨W.heap.size, 0, none⟩)) P2 Q2 V2 W.heap.size (W.alloc (.cells #[.slice none 0 0, .int .i64 0, .slice none 0 0] 30)) := by
  have hS := h.nS (.inr hn)
  subst hS
  exact { h with
    bel := h.bel.alloc h.bel.size _
    pC := fun e => (h.pC e).alloc _
    qC := fun e => (h.qC e).alloc _
    vO := fun e => (h.vO e).alloc _
    cA := fun _ => ⟨rfl, h.bel.size⟩
    bx := fun _ _ => Row3.new
    bs := nofun
    nb := fun _ e => ⟨fun e2 => by have := ((h.pC e).blk _ e2).2; omega, fun e2 => by have := ((h.qC e).blk _ e2).2; omega, fun e2 => by have := ((h.vO e).blk _ e2).2; omega⟩
    oS := nofun }
/-- The store has come up. -/
theorem BxC.store (h : BxC w0 l2 op2 m2 r tC tM t0 t1 tA tS vC vM v0 v1 vA P2 Q2 V2 b8 W) (hn : tS = false) (hC : tC = true) (hA : tA = true) : BxC w0 l2 op2 m2 r tC tM t0 t1 tA true vC vM v0 v1 vA P2 Q2 V2 b8 (((W.setCell ⟨b8, 0, none⟩ P2).setCell ⟨b8, 1, none⟩ (.int .i64 op2)).setCell ⟨b8, 2, none⟩ Q2) := by
  obtain ⟨n1, n2, n3⟩ := h.nb hA hC
  have hle := (h.cA hA).2
  exact { h with
    bel := ((h.bel.setCell hle _).setCell hle _).setCell hle _
    pC := fun e => (((h.pC e).setOther n1 _).setOther n1 _).setOther n1 _
    qC := fun e => (((h.qC e).setOther n2 _).setOther n2 _).setOther n2 _
    vO := fun e => (((h.vO e).other n3 _).other n3 _).other n3 _
    bx := fun _ e => by cases e
    bs := fun _ => (((h.bx hA hn).set0 _).set1 _).set2 _
    oS := fun _ => ⟨hC, hA⟩ }
end
end Go.Proofs.YtkglfmgmmnfmbaaGreatDoor

/- ArchiveLines of the program, walked. -/
set_option linter.unusedVariables false
namespace Go.Proofs.YtkglfmgmmnfmbaaGreatDoor
open Go.RowKit
set_option maxHeartbeats 4000000 in
set_option maxRecDepth 100000 in
theorem iArchiveLines_any (A B LA : Option Addr) (c dd lc : Nat) (l : List Pc) (m : List Vr) (x : Int) (ls : List ByteArray) (w : World) (hs : Sl w encP 2 A l) (hcz : A = none → c = 0) (hl : l.length ≤ 16777216) (hf : FitP l) (ht : Sl w encV 3 B m) (hcz2 : B = none → dd = 0) (hl2 : m.length ≤ 16777216) (hf2 : FitV m) (hls : Sl w encS 1 LA ls) (hll : ls.length ≤ 16777216) (hsz : ∀ s ∈ ls, s.size ≤ 1048576) (htz : TzL w) (hmx : MaxL w) :
    Calls Tryz.prog 19 #[.agg #[.slice A l.length c, .int .i64 x, .slice B m.length dd], .slice LA ls.length lc] w (AmRes (archM ⟨l, x, m⟩ (ls.map bs)) w) := by
  have HS := Lib.hid hs
  have HT := Lib.hid ht
  have HLS := Lib.hid hls
  have HSZ := Lib.hid hsz
  have HCZ := Lib.hid hcz
  have HCZ2 := Lib.hid hcz2
  have HTZ := Lib.hid htz
  have HMX := Lib.hid hmx
  have hAV := fun W h h2 h3 h4 => iArchiveValid_any A B c dd l m x W h hl hf h2 hl2 hf2 h3 h4
  have hCP := fun W h h2 => icopyArchive_any A B c dd l m x W h hcz hl h2 hcz2 hl2
  clear hs ht hcz hcz2 hf hf2 htz hmx hls hsz
  cases hv : archV ⟨l, x, m⟩
  · have HR := Lib.hid (show archM ⟨l, x, m⟩ (ls.map bs) = (⟨[], 0, []⟩, []) from archM_bad (.inl hv))
    rw [hv] at hAV
    have HAV := Lib.hid hAV
    clear hAV hCP hv
    generalize archM ⟨l, x, m⟩ (ls.map bs) = R at *
    go_enter Tryz.func19, Tryz.ntmps19
    go_wp2_with fail
    refine (HAV.out _ ((HS.out.alloc _).alloc _) ((HT.out.alloc _).alloc _) (HTZ.out.below (alloc2_below _ _)) (HMX.out.below (alloc2_below _ _))).mono ?_
    rintro e w1 ⟨rfl, hb1⟩
    have hr1 := Row3.new.below hb1
    rw [World.alloc_size_] at hr1
    obtain ⟨⟨y0', y1', y2'⟩, yf, _⟩ := hr1
    have HB1 := Lib.hid (Below_of_alloc (Below_of_alloc hb1))
    clear hb1
    have hb : w.heap.size ≤ w.heap.size + 1 := by omega
    go_wp2_with fail
    exact bodyPost_ret (v := .tuple #[.agg #[.slice none 0 0, .int .i64 0, .slice none 0 0], .slice none 0 0]) (by simp [results, Tryz.results19, go_sem, y0', y1', y2']) rfl (by rw [HR.out]; exact ⟨_, _, _, rfl, Own.nil, Own.nil, Own.nil, ApartV.nil _, ApartV.nil _, ApartV.nil _, ((HB1.out.setCell hb _).setCell hb _).setCell hb _⟩)
  · rw [hv] at hAV
    have HAV := Lib.hid hAV
    have HCP := Lib.hid hCP
    have HVL := Lib.hid (fun ls => archLs_valid ls ⟨l, x, m⟩ hv)
    by_cases h12 : ls.length ≤ 12
    case neg =>
      have HR := Lib.hid (show archM ⟨l, x, m⟩ (ls.map bs) = (⟨[], 0, []⟩, []) from archM_bad (.inr (by rw [List.length_map]; exact h12)))
      have hgt : (ls.length : Int) > 12 := by omega
      clear hAV hCP hv HCP HVL
      generalize archM ⟨l, x, m⟩ (ls.map bs) = R at *
      go_enter Tryz.func19, Tryz.ntmps19
      go_wp2_with fail
      refine (HAV.out _ ((HS.out.alloc _).alloc _) ((HT.out.alloc _).alloc _) (HTZ.out.below (alloc2_below _ _)) (HMX.out.below (alloc2_below _ _))).mono ?_
      rintro e w1 ⟨rfl, hb1⟩
      have hr1 := Row3.new.below hb1
      rw [World.alloc_size_] at hr1
      obtain ⟨⟨y0', y1', y2'⟩, yf, _⟩ := hr1
      have HB1 := Lib.hid (Below_of_alloc (Below_of_alloc hb1))
      clear hb1
      have hb : w.heap.size ≤ w.heap.size + 1 := by omega
      go_wp2_with fail
      exact bodyPost_ret (v := .tuple #[.agg #[.slice none 0 0, .int .i64 0, .slice none 0 0], .slice none 0 0]) (by simp [results, Tryz.results19, go_sem, y0', y1', y2']) rfl (by rw [HR.out]; exact ⟨_, _, _, rfl, Own.nil, Own.nil, Own.nil, ApartV.nil _, ApartV.nil _, ApartV.nil _, ((HB1.out.setCell hb _).setCell hb _).setCell hb _⟩)
    case pos =>
      have HR := Lib.hid (show archM ⟨l, x, m⟩ (ls.map bs) = archLs ⟨l, x, m⟩ ((ls.take ls.length).map bs) by rw [List.take_length]; exact archM_good hv (by rw [List.length_map]; exact h12))
      have hgt : ¬ (ls.length : Int) > 12 := by omega
      clear hAV hCP hv
      generalize archM ⟨l, x, m⟩ (ls.map bs) = R at *
      go_enter Tryz.func19, Tryz.ntmps19
      go_wp2_with fail
      refine (HAV.out _ ((HS.out.alloc _).alloc _) ((HT.out.alloc _).alloc _) (HTZ.out.below (alloc2_below _ _)) (HMX.out.below (alloc2_below _ _))).mono ?_
      rintro e w1 ⟨rfl, hb1⟩
      have hr0 := Row3.new.below (w' := w1) (Below_of_alloc hb1)
      have hr1 := Row3.new.below hb1
      rw [World.alloc_size_] at hr1
      have HB1 := Lib.hid (Below_of_alloc (Below_of_alloc hb1))
      have hz1 : w.heap.size + 2 ≤ w1.heap.size := by have := hb1.size; simp at this; omega
      have HR1 := Lib.hid hr1
      obtain ⟨⟨a0, a1, a2⟩, _, _⟩ := hr0
      clear hb1 hr1
      go_wp2_with fail
      refine (HCP.out _ (HS.out.below HB1.out) (HT.out.below HB1.out)).mono ?_
      rintro e w2 ⟨v2, rfl, ⟨OP, OQ, rfl, hop2, hoq2, hap2⟩, hb2⟩
      obtain ⟨P2, k2, e1, _⟩ := hop2.sl
      obtain ⟨Q2, j2, e2, _⟩ := hoq2.sl
      subst e1 e2
      have hz2 : w1.heap.size ≤ w2.heap.size := hb2.size
      have HST := Lib.hid (show AmS w w2.heap.size l x m (.slice P2 l.length k2) (.slice Q2 m.length j2) (.slice none 0 0) [] (w2.alloc (.cells #[.slice P2 l.length k2, .int .i64 x, .slice Q2 m.length j2] 30)) from
        { bel := (Below_then HB1.out hb2 (Nat.le_refl _)).alloc (by omega) _
          r1 := (HR1.out.below hb2).below ((Below.refl _ _).alloc (Nat.le_refl _) _)
          ra := Row3.new
          hp := (hop2.mono hz1).alloc _
          hq := (hoq2.mono hz1).alloc _
          hv := Own.nil
          ap := hap2
          apv := nofun
          aqv := nofun
          nP := fun e => by have := (hop2.blk _ e).2; omega
          nQ := fun e => by have := (hoq2.blk _ e).2; omega
          nV := nofun
          nV1 := nofun
          lo := by omega })
      have hlo : w.heap.size + 2 ≤ w2.heap.size := by omega
      generalize hba : w2.heap.size = ba at *
      clear hop2 hoq2 hap2 hb2 HR1 HB1 HCP HAV HS HT
      go_wp2_with fail
      go_loopw [7, 25] (fun va vi wr => ∃ (k : Nat) (l' : List Pc) (op : Int) (m' : List Vr) (P Q : Value) (accB : List Bs) (acc : List ByteArray), k ≤ ls.length ∧ vi = .int .i64 k ∧ Hid (archLs ⟨l, x, m⟩ ((ls.take k).map bs) = (⟨l', op, m'⟩, accB)) ∧ Hid (acc = accB.map mk) ∧ Hid (acc.length = k) ∧ Hid (AmS w ba l' op m' P Q va acc wr)) (fun _ vi _ => ls.length - (intOf vi).toNat)
      case atStart => exact ⟨0, l, x, m, _, _, [], [], Nat.zero_le _, rfl, rfl, rfl, rfl, HST.out⟩
      case round =>
        obtain ⟨k, l', op, m', P, Q, accB, acc, hk, rfl, HAR, HAC, HLEN, HA⟩ := hrel
        obtain ⟨A5, c5, e5, _⟩ := HA.out.hp.sl
        obtain ⟨B5, d5, e6, _⟩ := HA.out.hq.sl
        obtain ⟨V5, v5, e7, _⟩ := HA.out.hv.sl
        subst e5 e6 e7
        obtain ⟨⟨b0, b1, b2⟩, _, _⟩ := HA.out.ra
        by_cases hlt : k < ls.length
        · obtain ⟨b, o, rfl, hc⟩ := (HLS.out.below HA.out.bel).getS hlt
          have hav : archV ⟨l', op, m'⟩ = true := by have := HVL.out ((ls.take k).map bs); rwa [HAR.out] at this
          obtain ⟨hsv, hvv, _, _⟩ := archV_iff.1 hav
          have hl40 : l'.length ≤ 40 := storeV_len hsv
          have hm12 : m'.length ≤ 12 := versV_len hvv
          have hnext := fun b' t h => archLs_take (b' := b') (t := t) hlt HAR.out h
          have hal := fun W h h2 h3 h4 => iArchiveLine_any A5 B5 c5 d5 l' m' op ls[k] W h HA.out.hp.cz (by omega) (fitP_of_store hsv) h2 HA.out.hq.cz (by omega) (fitV_valid hvv) (HSZ.out _ (List.getElem_mem hlt)) h3 h4
          have hl8 : acc.length ≤ 12 := by have := HLEN.out; omega
          have HLN := Lib.hid (show acc.length + 1 = k + 1 by rw [HLEN.out])
          generalize ls[k] = s0 at *
          unfold AlRes ArV at hal
          generalize hR2 : archL ⟨l', op, m'⟩ (bs s0) = R2 at *
          obtain ⟨⟨l3, op3, m3⟩, ans3⟩ := R2
          have HNEXT := Lib.hid (hnext _ _ rfl)
          simp only at hal
          have HMK := Lib.hid (show acc ++ [mk ans3] = (accB ++ [ans3]).map mk by rw [HAC.out]; exact mapmk_snoc _ _)
          generalize mk ans3 = s3 at *
          have HAL := Lib.hid hal
          clear hal hnext hav hsv hvv hR2
          go_wp2_with fail
          refine (HAL.out _ HA.out.hp.sl' HA.out.hq.sl' (HTZ.out.below HA.out.bel) (HMX.out.below HA.out.bel)).mono ?_
          rintro e w3 ⟨v3, rfl, ⟨P3, Q3, rfl, hp3, hq3, hap3⟩, hb3⟩
          obtain ⟨X3, k3, e3, _⟩ := hp3.sl
          obtain ⟨Y3, j3, e4, _⟩ := hq3.sl
          subst e3 e4
          clear b0 b1 b2
          have hz3 : wr.heap.size + 2 ≤ wr.heap.size + 2 := Nat.le_refl _
          have HS3 := Lib.hid ((HA.out.below hb3).alloc (.cells #[.slice X3 l3.length k3, .int .i64 op3, .slice Y3 m3.length j3] 30))
          have hbz := HA.out.ra.2.2
          have hloz : w.heap.size + 2 ≤ wr.heap.size := Nat.le_trans HA.out.lo (Nat.le_of_lt hbz)
          have HPUT := Lib.hid (HS3.out.put (op' := op3) ((hp3.mono hloz).alloc _) ((hq3.mono hloz).alloc _) hap3
            (fun g h1 h2 => by have a1 := (hp3.blk g h1).1; have a2 := (HA.out.hv.blk g h2).2; omega)
            (fun g h1 h2 => by have a1 := (hq3.blk g h1).1; have a2 := (HA.out.hv.blk g h2).2; omega)
            (fun e => by have a1 := (hp3.blk _ e).1; omega)
            (fun e => by have a1 := (hq3.blk _ e).1; omega))
          obtain ⟨⟨b0, b1, b2⟩, bf, _⟩ := HS3.out.ra
          clear hp3 hq3 hap3 hb3 HS3
          go_wp2_with (at_builtin; refine app_str3 (w0 := w) (l := acc) (y := s3) rfl rfl rfl (by simp only [setCell_size, World.alloc_size_]; rfl) HPUT.out.hv HPUT.out.bel (by omega) ?_; intro v6 w6 hown6 hb6 hg6 hk6; have HA6 := Lib.hid (HPUT.out.app hown6 hb6 hg6 hk6); clear hown6 hb6 hg6 hk6)
          go_roundw
          case rel => exact ⟨k + 1, l3, op3, m3, _, _, accB ++ [ans3], acc ++ [s3], by omega, by go_num, HNEXT.out, HMK.out, (by rw [List.length_append, List.length_singleton]; exact HLN.out), HA6.out⟩
          case measure => simp [intOf]; omega
        · have hkl : k = ls.length := by omega
          subst hkl
          obtain ⟨⟨y0', y1', y2'⟩, yf, _⟩ := HA.out.r1
          have HEND := Lib.hid (HA.out.done (HR.out.trans HAR.out) HAC.out)
          clear HAR HAC HA
          go_wp2_with fail
          exact bodyPost_ret (v := .tuple #[.agg #[.slice A5 l'.length c5, .int .i64 op, .slice B5 m'.length d5], .slice V5 acc.length v5]) (by simp [results, Tryz.results19, go_sem, y0', y1', y2']) rfl HEND.out
end Go.Proofs.YtkglfmgmmnfmbaaGreatDoor

/- ArchiveLines of the reference, walked. -/
set_option linter.unusedVariables false
namespace Go.Proofs.YtkglfmgmmnfmbaaGreatDoor
open Go.RowKit
set_option maxHeartbeats 4000000 in
set_option maxRecDepth 100000 in
theorem sArchiveLines_any (A B LA : Option Addr) (c dd lc : Nat) (l : List Pc) (m : List Vr) (x : Int) (ls : List ByteArray) (w : World) (hs : Sl w encP 2 A l) (hcz : A = none → c = 0) (hl : l.length ≤ 16777216) (hf : FitP l) (ht : Sl w encV 3 B m) (hcz2 : B = none → dd = 0) (hl2 : m.length ≤ 16777216) (hf2 : FitV m) (hls : Sl w encS 1 LA ls) (hll : ls.length ≤ 16777216) (hsz : ∀ s ∈ ls, s.size ≤ 1048576) :
    Calls Tryz.prog 17 #[.agg #[.slice A l.length c, .int .i64 x, .slice B m.length dd], .slice LA ls.length lc] w (AmRes (archM ⟨l, x, m⟩ (ls.map bs)) w) := by
  have HS := Lib.hid hs
  have HT := Lib.hid ht
  have HLS := Lib.hid hls
  have HSZ := Lib.hid hsz
  have HCZ := Lib.hid hcz
  have HCZ2 := Lib.hid hcz2
  have hAV := fun W h h2 => sArchiveValid_any A B c dd l m x W h hl hf h2 hl2 hf2
  have hCP := fun W h h2 => sl34Copy_any A B c dd l m x W h hcz hl h2 hcz2 hl2
  clear hs ht hcz hcz2 hf hf2 hls hsz
  cases hv : archV ⟨l, x, m⟩
  · have HR := Lib.hid (show archM ⟨l, x, m⟩ (ls.map bs) = (⟨[], 0, []⟩, []) from archM_bad (.inl hv))
    rw [hv] at hAV
    have HAV := Lib.hid hAV
    clear hAV hCP hv
    generalize archM ⟨l, x, m⟩ (ls.map bs) = R at *
    go_enter Tryz.func17, Tryz.ntmps17
    go_wp2_with fail
    refine (HAV.out _ (((HS.out.alloc _).alloc _).alloc _) (((HT.out.alloc _).alloc _).alloc _)).mono ?_
    rintro e w1 ⟨rfl, hb1⟩
    have hv1 := (Own.made (w := (w.alloc (.cells #[.slice A l.length c, .int .i64 x, .slice B m.length dd] 30)).alloc (.cells #[.slice none 0 0, .int .i64 0, .slice none 0 0] 30)) (base := w.heap.size) (enc := encS) (size := 1) (E := 9) (by simp; omega)).below hb1
    have hr1 := Row3.new.below (Below_of_alloc hb1)
    rw [World.alloc_size_] at hr1
    simp only [World.alloc_size_] at hv1
    obtain ⟨⟨y0', y1', y2'⟩, yf, _⟩ := hr1
    have HB1 := Lib.hid (Below_of_alloc (Below_of_alloc (Below_of_alloc hb1)))
    have HV1 := Lib.hid hv1
    clear hb1 hv1
    have hb : w.heap.size ≤ w.heap.size + 1 := by omega
    have hv2 : (Value.slice (some ⟨w.heap.size + 2, 0, none⟩) 0 0).ownBlock ≠ some (w.heap.size + 1) := fun e => by have e : some (w.heap.size + 2) = some (w.heap.size + 1) := e; injection e with e; omega
    go_wp2_with fail
    exact bodyPost_ret (v := .tuple #[.agg #[.slice none 0 0, .int .i64 0, .slice none 0 0], .slice (some ⟨w.heap.size + 2, 0, none⟩) 0 0]) (by simp [results, Tryz.results17, go_sem, y0', y1', y2']) rfl (by rw [HR.out]; exact ⟨_, _, _, rfl, Own.nil, Own.nil, ((HV1.out.setOther hv2 _).setOther hv2 _).setOther hv2 _, ApartV.nil _, nofun, nofun, ((HB1.out.setCell hb _).setCell hb _).setCell hb _⟩)
  · rw [hv] at hAV
    have HAV := Lib.hid hAV
    have HCP := Lib.hid hCP
    have HVL := Lib.hid (fun ls => archLs_valid ls ⟨l, x, m⟩ hv)
    by_cases h12 : ls.length ≤ 12
    case neg =>
      have HR := Lib.hid (show archM ⟨l, x, m⟩ (ls.map bs) = (⟨[], 0, []⟩, []) from archM_bad (.inr (by rw [List.length_map]; exact h12)))
      have hgt : (ls.length : Int) > 12 := by omega
      clear hAV hCP hv HCP HVL
      generalize archM ⟨l, x, m⟩ (ls.map bs) = R at *
      go_enter Tryz.func17, Tryz.ntmps17
      go_wp2_with fail
      refine (HAV.out _ (((HS.out.alloc _).alloc _).alloc _) (((HT.out.alloc _).alloc _).alloc _)).mono ?_
      rintro e w1 ⟨rfl, hb1⟩
      have hv1 := (Own.made (w := (w.alloc (.cells #[.slice A l.length c, .int .i64 x, .slice B m.length dd] 30)).alloc (.cells #[.slice none 0 0, .int .i64 0, .slice none 0 0] 30)) (base := w.heap.size) (enc := encS) (size := 1) (E := 9) (by simp; omega)).below hb1
      have hr1 := Row3.new.below (Below_of_alloc hb1)
      rw [World.alloc_size_] at hr1
      simp only [World.alloc_size_] at hv1
      obtain ⟨⟨y0', y1', y2'⟩, yf, _⟩ := hr1
      have HB1 := Lib.hid (Below_of_alloc (Below_of_alloc (Below_of_alloc hb1)))
      have HV1 := Lib.hid hv1
      clear hb1 hv1
      have hb : w.heap.size ≤ w.heap.size + 1 := by omega
      have hv2 : (Value.slice (some ⟨w.heap.size + 2, 0, none⟩) 0 0).ownBlock ≠ some (w.heap.size + 1) := fun e => by have e : some (w.heap.size + 2) = some (w.heap.size + 1) := e; injection e with e; omega
      go_wp2_with fail
      exact bodyPost_ret (v := .tuple #[.agg #[.slice none 0 0, .int .i64 0, .slice none 0 0], .slice (some ⟨w.heap.size + 2, 0, none⟩) 0 0]) (by simp [results, Tryz.results17, go_sem, y0', y1', y2']) rfl (by rw [HR.out]; exact ⟨_, _, _, rfl, Own.nil, Own.nil, ((HV1.out.setOther hv2 _).setOther hv2 _).setOther hv2 _, ApartV.nil _, nofun, nofun, ((HB1.out.setCell hb _).setCell hb _).setCell hb _⟩)
    case pos =>
      have HR := Lib.hid (show archM ⟨l, x, m⟩ (ls.map bs) = archLs ⟨l, x, m⟩ ((ls.take ls.length).map bs) by rw [List.take_length]; exact archM_good hv (by rw [List.length_map]; exact h12))
      have hgt : ¬ (ls.length : Int) > 12 := by omega
      clear hAV hCP hv
      generalize archM ⟨l, x, m⟩ (ls.map bs) = R at *
      go_enter Tryz.func17, Tryz.ntmps17
      go_wp2_with fail
      refine (HAV.out _ (((HS.out.alloc _).alloc _).alloc _) (((HT.out.alloc _).alloc _).alloc _)).mono ?_
      rintro e w1 ⟨rfl, hb1⟩
      have hr0 := Row3.new.below (w' := w1) (Below_of_alloc (Below_of_alloc hb1))
      have hv1 := (Own.made (w := (w.alloc (.cells #[.slice A l.length c, .int .i64 x, .slice B m.length dd] 30)).alloc (.cells #[.slice none 0 0, .int .i64 0, .slice none 0 0] 30)) (base := w.heap.size) (enc := encS) (size := 1) (E := 9) (by simp; omega)).below hb1
      have hr1 := Row3.new.below (Below_of_alloc hb1)
      rw [World.alloc_size_] at hr1
      simp only [World.alloc_size_] at hv1
      have HV1 := Lib.hid hv1
      have HB1 := Lib.hid (Below_of_alloc (Below_of_alloc (Below_of_alloc hb1)))
      have hz3 : w.heap.size + 3 ≤ w1.heap.size := by have := hb1.size; simp at this; omega
      have hz1 : w.heap.size + 2 ≤ w1.heap.size := by omega
      have HR1 := Lib.hid hr1
      obtain ⟨⟨a0, a1, a2⟩, _, _⟩ := hr0
      clear hb1 hr1 hv1
      go_wp2_with fail
      refine (HCP.out _ (HS.out.below HB1.out) (HT.out.below HB1.out)).mono ?_
      rintro e w2 ⟨v2, rfl, ⟨OP, OQ, rfl, hop2, hoq2, hap2⟩, hb2⟩
      obtain ⟨P2, k2, e1, _⟩ := hop2.sl
      obtain ⟨Q2, j2, e2, _⟩ := hoq2.sl
      subst e1 e2
      have hz2 : w1.heap.size ≤ w2.heap.size := hb2.size
      have HST := Lib.hid (show AmS w w2.heap.size l x m (.slice P2 l.length k2) (.slice Q2 m.length j2) (.slice (some ⟨w.heap.size + 2, 0, none⟩) 0 0) [] (w2.alloc (.cells #[.slice P2 l.length k2, .int .i64 x, .slice Q2 m.length j2] 30)) from
        { bel := (Below_then HB1.out hb2 (Nat.le_refl _)).alloc (by omega) _
          r1 := (HR1.out.below hb2).below ((Below.refl _ _).alloc (Nat.le_refl _) _)
          ra := Row3.new
          hp := (hop2.mono hz1).alloc _
          hq := (hoq2.mono hz1).alloc _
          hv := (HV1.out.below hb2).alloc _
          ap := hap2
          apv := fun g h1 h2 => by have h2 : some (w.heap.size + 2) = some g := h2; injection h2 with h2; have := (hop2.blk _ h1).1; omega
          aqv := fun g h1 h2 => by have h2 : some (w.heap.size + 2) = some g := h2; injection h2 with h2; have := (hoq2.blk _ h1).1; omega
          nP := fun e => by have := (hop2.blk _ e).2; omega
          nQ := fun e => by have := (hoq2.blk _ e).2; omega
          nV := fun e => by have e : some (w.heap.size + 2) = some w2.heap.size := e; injection e with e; omega
          nV1 := fun e => by have e : some (w.heap.size + 2) = some (w.heap.size + 1) := e; injection e with e; omega
          lo := by omega })
      have hlo : w.heap.size + 2 ≤ w2.heap.size := by omega
      generalize hba : w2.heap.size = ba at *
      clear hop2 hoq2 hap2 hb2 HR1 HB1 HCP HAV HS HT
      go_wp2_with fail
      go_loopw [6, 8] (fun va vi wr => ∃ (k : Nat) (l' : List Pc) (op : Int) (m' : List Vr) (P Q : Value) (accB : List Bs) (acc : List ByteArray), k ≤ ls.length ∧ vi = .int .i64 k ∧ Hid (archLs ⟨l, x, m⟩ ((ls.take k).map bs) = (⟨l', op, m'⟩, accB)) ∧ Hid (acc = accB.map mk) ∧ Hid (acc.length = k) ∧ Hid (AmS w ba l' op m' P Q va acc wr)) (fun _ vi _ => ls.length - (intOf vi).toNat)
      case atStart => exact ⟨0, l, x, m, _, _, [], [], Nat.zero_le _, rfl, rfl, rfl, rfl, HST.out⟩
      case round =>
        obtain ⟨k, l', op, m', P, Q, accB, acc, hk, rfl, HAR, HAC, HLEN, HA⟩ := hrel
        obtain ⟨A5, c5, e5, hle5, _⟩ := HA.out.hp.sl
        obtain ⟨B5, d5, e6, _⟩ := HA.out.hq.sl
        obtain ⟨V5, v5, e7, _⟩ := HA.out.hv.sl
        subst e5 e6 e7
        obtain ⟨⟨b0, b1, b2⟩, _, _⟩ := HA.out.ra
        by_cases hlt : k < ls.length
        · obtain ⟨b, o, rfl, hc⟩ := (HLS.out.below HA.out.bel).getS hlt
          have hav : archV ⟨l', op, m'⟩ = true := by have := HVL.out ((ls.take k).map bs); rwa [HAR.out] at this
          obtain ⟨hsv, hvv, _, _⟩ := archV_iff.1 hav
          have hl40 : l'.length ≤ 40 := storeV_len hsv
          have hm12 : m'.length ≤ 12 := versV_len hvv
          have hnext := fun b' t h => archLs_take (b' := b') (t := t) hlt HAR.out h
          have hal := fun W h h2 => sArchiveLine_any A5 B5 c5 d5 l' m' op ls[k] W h HA.out.hp.cz hle5 (by omega) (fitP_of_store hsv) h2 HA.out.hq.cz (by omega) (fitV_valid hvv) (HSZ.out _ (List.getElem_mem hlt))
          have hl8 : acc.length ≤ 12 := by have := HLEN.out; omega
          have HLN := Lib.hid (show acc.length + 1 = k + 1 by rw [HLEN.out])
          generalize ls[k] = s0 at *
          unfold AlRes ArV at hal
          generalize hR2 : archL ⟨l', op, m'⟩ (bs s0) = R2 at *
          obtain ⟨⟨l3, op3, m3⟩, ans3⟩ := R2
          have HNEXT := Lib.hid (hnext _ _ rfl)
          simp only at hal
          have HMK := Lib.hid (show acc ++ [mk ans3] = (accB ++ [ans3]).map mk by rw [HAC.out]; exact mapmk_snoc _ _)
          generalize mk ans3 = s3 at *
          have HAL := Lib.hid hal
          clear hal hnext hav hsv hvv hR2
          generalize hw11 : w.heap.size + 1 + 1 = ww at *
          have HPRE := Lib.hid hc
          clear hc
          go_wp2_with fail
          refine wp_region_inv (by kernel_rfl) (by kernel_rfl) (fun a0 d a W => ∃ (v9 v10 v30 v31 v32 v33 v34 v35 v36 v37 v38 P3 Q3 V3 : Value) (b8 : Nat), a = ⟨#[.agg #[.slice A l.length c, .int .i64 x, .slice B m.length dd], .slice (some ⟨b, o, none⟩) ls.length lc, .pointer (some ⟨w.heap.size, 0, none⟩), undef, .pointer (some ⟨w.heap.size + 1, 0, none⟩), .slice none 0 0, .slice V5 acc.length v5, .pointer (some ⟨ba, 0, none⟩), .int .i64 (k : Int), v9, v10, .slice (some ⟨ww, 0, none⟩) 0 0, .agg #[.slice A l.length c, .int .i64 x, .slice B m.length dd], .bool true, .bool false, .bool false, .slice (some ⟨b, o, none⟩) ls.length lc, .int .i64 (ls.length : Int), .bool (decide (12 < (ls.length : Int))), .bool (decide (12 < (ls.length : Int))), undef, undef, .agg #[.slice A l.length c, .int .i64 x, .slice B m.length dd], .agg #[.slice P2 l.length k2, .int .i64 x, .slice Q2 m.length j2], .int .i64 (k : Int), .slice (some ⟨b, o, none⟩) ls.length lc, .int .i64 (ls.length : Int), .bool true, u28, u29, v30, v31, v32, v33, v34, v35, v36, v37, v38, u39, u40, u41, u42, u43, undef, undef], []⟩ ∧ ((d 0 = true → v31 = .agg #[.slice A5 l'.length c5, .int .i64 op, .slice B5 m'.length d5]) ∧ (d 1 = true → v32 = .slice (some ⟨b, o, none⟩) ls.length lc) ∧ (d 2 = true → v33 = .int .i64 (k : Int)) ∧ (d 3 = true → v34 = .pointer (some ⟨b, o + k, none⟩)) ∧ (d 4 = true → v35 = .string s0) ∧ (d 11 = true → v10 = .string s3 ∧ d 8 = true)) ∧ BxC wr l3 op3 m3 (.inl s3) (d 5) (d 6) (d 7) (d 8) (d 9) (d 10) v36 v30 v37 v38 v9 P3 Q3 V3 b8 W) ?_ ?_ ?_
          · exact ⟨_, _, _, _, _, _, _, _, _, _, _, .slice none 0 0, .slice none 0 0, .slice none 0 0, 0, rfl, ⟨nofun, nofun, nofun, nofun, nofun, nofun⟩, BxC.start⟩
          · refine ⟨?_, ?_, ?_, ?_, ?_, ?_, ?_, ?_, ?_, ?_, ?_, ?_, trivial⟩
            all_goals
              intro d a W K hd hdep hJ hK
              obtain ⟨v9, v10, v30, v31, v32, v33, v34, v35, v36, v37, v38, P3, Q3, V3, b8, rfl, hp, hx⟩ := hJ
              have HP := Lib.hid hp
              have HX := Lib.hid hx
              have HK := Lib.hid hK
              have HD := Lib.hid hd
              have HDEP := Lib.hid hdep
              clear hp hx hK hd hdep
            · obtain ⟨⟨a0, a1, a2⟩, _, _⟩ := HA.out.ra.below HX.out.bel
              go_simp
              exact HK.out _ _ ⟨_, _, _, _, _, _, _, _, _, _, _, _, _, _, _, rfl, ⟨fun _ => rfl, HP.out.2⟩, HX.out⟩
            · go_simp
              exact HK.out _ _ ⟨_, _, _, _, _, _, _, _, _, _, _, _, _, _, _, rfl, ⟨HP.out.1, fun _ => rfl, HP.out.2.2⟩, HX.out⟩
            · go_simp
              exact HK.out _ _ ⟨_, _, _, _, _, _, _, _, _, _, _, _, _, _, _, rfl, ⟨HP.out.1, HP.out.2.1, fun _ => rfl, HP.out.2.2.2⟩, HX.out⟩
            · obtain rfl := HP.out.2.1 (HDEP.out { on := 1, ground := Ground.data } (by simp) rfl)
              obtain rfl := HP.out.2.2.1 (HDEP.out { on := 2, ground := Ground.data } (by simp) rfl)
              go_simp
              exact HK.out _ _ ⟨_, _, _, _, _, _, _, _, _, _, _, _, _, _, _, rfl, ⟨HP.out.1, HP.out.2.1, HP.out.2.2.1, fun _ => rfl, HP.out.2.2.2.2⟩, HX.out⟩
            · obtain rfl := HP.out.2.2.2.1 (HDEP.out { on := 3, ground := Ground.data } (by simp) rfl)
              have hcw := Below_cells HX.out.bel _ _ _ HPRE.out
              go_simp
              exact HK.out _ _ ⟨_, _, _, _, _, _, _, _, _, _, _, _, _, _, _, rfl, ⟨HP.out.1, HP.out.2.1, HP.out.2.2.1, HP.out.2.2.2.1, fun _ => rfl, HP.out.2.2.2.2.2⟩, HX.out⟩
            · obtain rfl := HP.out.1 (HDEP.out { on := 0, ground := Ground.data } (by simp) rfl)
              obtain rfl := HP.out.2.2.2.2.1 (HDEP.out { on := 4, ground := Ground.data } (by simp) rfl)
              have hsl := HA.out.hp.sl'.below HX.out.bel
              have hsv := HA.out.hq.sl'.below HX.out.bel
              have HSL := Lib.hid hsl
              have HSV := Lib.hid hsv
              clear hsl hsv
              go_simp
              refine (HAL.out _ HSL.out HSV.out).mono ?_
              rintro e w3 ⟨v3', rfl, ⟨P3', Q3', rfl, hp3, hq3, hap3⟩, hb3⟩
              obtain ⟨X3, k3, e3, _⟩ := hp3.sl
              obtain ⟨Y3, j3, e4, _⟩ := hq3.sl
              subst e3 e4
              go_simp
              exact HK.out _ _ ⟨_, _, _, _, _, _, _, _, _, _, _, _, _, _, _, rfl, HP.out, HX.out.call HD.out hb3 hp3 hq3 hap3 (show AnsV W.heap.size w3 (.inl s3) (.string s3) from rfl)⟩
            · have h5 := HDEP.out { on := 5, ground := Ground.data } (by simp) rfl
              go_simp
              exact HK.out _ _ ⟨_, _, _, _, _, _, _, _, _, _, _, _, _, _, _, rfl, HP.out, HX.out.move h5⟩
            · obtain ⟨rfl, h5⟩ := HX.out.cM (HDEP.out { on := 6, ground := Ground.data } (by simp) rfl)
              go_simp
              exact HK.out _ _ ⟨_, _, _, _, _, _, _, _, _, _, _, _, _, _, _, rfl, HP.out, HX.out.ext0 h5⟩
            · obtain ⟨rfl, h5⟩ := HX.out.cM (HDEP.out { on := 6, ground := Ground.data } (by simp) rfl)
              go_simp
              exact HK.out _ _ ⟨_, _, _, _, _, _, _, _, _, _, _, _, _, _, _, rfl, ⟨HP.out.1, HP.out.2.1, HP.out.2.2.1, HP.out.2.2.2.1, HP.out.2.2.2.2.1, fun e => ⟨(HP.out.2.2.2.2.2 e).1, rfl⟩⟩, HX.out.ext1 h5⟩
            · go_simp
              exact HK.out _ _ ⟨_, _, _, _, _, _, _, _, _, _, _, _, _, _, _, rfl, HP.out, HX.out.box HD.out⟩
            · obtain ⟨rfl, h5⟩ := HX.out.c0 (HDEP.out { on := 7, ground := Ground.data } (by simp) rfl)
              have h9 := HDEP.out { on := 9, ground := Ground.data } (by simp) rfl
              obtain ⟨rfl, _⟩ := HX.out.cA h9
              obtain ⟨X3, k3, e3, _⟩ := (HX.out.pC h5).sl
              obtain ⟨Y3, j3, e4, _⟩ := (HX.out.qC h5).sl
              subst e3 e4
              obtain ⟨⟨x0, x1, x2⟩, xf, _⟩ := HX.out.bx h9 HD.out
              go_simp
              exact HK.out _ _ ⟨_, _, _, _, _, _, _, _, _, _, _, _, _, _, _, rfl, HP.out, HX.out.store HD.out h5 h9⟩
            · obtain ⟨rfl, h5⟩ := HX.out.c1 (HDEP.out { on := 8, ground := Ground.data } (by simp) rfl)
              obtain rfl := HX.out.vO h5
              go_simp
              exact HK.out _ _ ⟨_, _, _, _, _, _, _, _, _, _, _, _, _, _, _, rfl, ⟨HP.out.1, HP.out.2.1, HP.out.2.2.1, HP.out.2.2.2.1, HP.out.2.2.2.2.1, fun _ => ⟨rfl, (HDEP.out { on := 8, ground := Ground.data } (by simp) rfl)⟩⟩, HX.out⟩
          · intro d a W hd hJ
            obtain ⟨v9, v10, v30, v31, v32, v33, v34, v35, v36, v37, v38, P3, Q3, V3, b8, rfl, hp, hx⟩ := hJ
            have h5 := hd 5 (by decide)
            obtain ⟨rfl, _⟩ := hp.2.2.2.2.2 (hd 11 (by decide))
            obtain ⟨rfl, hb8⟩ := hx.cA (hd 9 (by decide))
            obtain ⟨⟨x0, x1, x2⟩, xf, _⟩ := hx.bs (hd 10 (by decide))
            have hp3 := hx.pC h5
            have hq3 := hx.qC h5
            have hap3 := hx.ap h5
            obtain ⟨X3, k3, e3, _⟩ := hp3.sl
            obtain ⟨Y3, j3, e4, _⟩ := hq3.sl
            subst e3 e4
            have hbz := HA.out.ra.2.2
            have hloz : w.heap.size + 2 ≤ wr.heap.size := Nat.le_trans HA.out.lo (Nat.le_of_lt hbz)
            have HS3 := Lib.hid (HA.out.below hx.bel)
            have HPUT := Lib.hid (HS3.out.put (op' := op3) (hp3.mono hloz) (hq3.mono hloz) hap3
              (fun g h1 h2 => by have a1 := (hp3.blk g h1).1; have a2 := (HA.out.hv.blk g h2).2; omega)
              (fun g h1 h2 => by have a1 := (hq3.blk g h1).1; have a2 := (HA.out.hv.blk g h2).2; omega)
              (fun e => by have a1 := (hp3.blk _ e).1; omega)
              (fun e => by have a1 := (hq3.blk _ e).1; omega))
            obtain ⟨⟨b0, b1, b2⟩, bf, _⟩ := HS3.out.ra
            have hw1 : IntKind.i64.wrap ((k : Int) + 1) = (k : Int) + 1 := IntWalk.i64_in _ (by omega)
            clear hp hx hp3 hq3 hap3 hd HS3
            go_wp2_with (at_builtin; refine app_str3 (w0 := w) (l := acc) (y := s3) rfl rfl rfl (by simp only [setCell_size]; rfl) HPUT.out.hv HPUT.out.bel (by omega) ?_; intro v6 w6 hown6 hb6 hg6 hk6; have HA6 := Lib.hid (HPUT.out.app hown6 hb6 hg6 hk6); clear hown6 hb6 hg6 hk6)
            go_roundw
            case rel => exact ⟨k + 1, l3, op3, m3, _, _, accB ++ [ans3], acc ++ [s3], by omega, by go_num, HNEXT.out, HMK.out, (by rw [List.length_append, List.length_singleton]; exact HLN.out), HA6.out⟩
            case measure => simp [intOf]; omega
        · have hkl : k = ls.length := by omega
          subst hkl
          obtain ⟨⟨y0', y1', y2'⟩, yf, _⟩ := HA.out.r1
          have HEND := Lib.hid (HA.out.done (HR.out.trans HAR.out) HAC.out)
          clear HAR HAC HA
          go_wp2_with fail
          exact bodyPost_ret (v := .tuple #[.agg #[.slice A5 l'.length c5, .int .i64 op, .slice B5 m'.length d5], .slice V5 acc.length v5]) (by simp [results, Tryz.results17, go_sem, y0', y1', y2']) rfl HEND.out
end Go.Proofs.YtkglfmgmmnfmbaaGreatDoor
