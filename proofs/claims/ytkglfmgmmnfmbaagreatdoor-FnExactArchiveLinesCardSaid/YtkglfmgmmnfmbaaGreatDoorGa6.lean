/- Texts in one: St, Ap2, Rp, Dm, Tr, Tr2, Tp, Dr2, SVersion, Ap3. -/
import Derived.Test.YtkglfmgmmnfmbaaGreatDoorGa5
import Derived.Test.YtkglfmgmmnfmbaaGreatDoorGa3
import Derived.Laws.AppendOwnNone
import Derived.Test.YtkglfmgmmnfmbaaGreatDoorGa1
/- Words for slices of structs: several cells written one after the other; marks at a number. -/
set_option linter.unusedVariables false
namespace Go.Proofs.YtkglfmgmmnfmbaaGreatDoor
open Go.RowKit

/-- Cells stored one after the other. -/
def setAll (w : World) (g : Nat) : Nat → List Value → World
  | _, [] => w
  | j, u :: r => setAll (w.setCell ⟨g, j, none⟩ u) g (j + 1) r
theorem Filled.stores_of {wr : World} {g N : Nat} {E : TypeId} : ∀ {done : List Value} (us : List Value) {j : Nat}, Filled wr g N E done → done.length = j → j + us.length ≤ N → Filled (setAll wr g j us) g N E (done ++ us) := by
  intro done us
  induction us generalizing wr done with
  | nil => intro j h _ _; rw [List.append_nil]; exact h
  | cons u r ih =>
    intro j h hd hl
    simp only [List.length_cons] at hl
    have h1 := h.store u (by omega)
    rw [hd] at h1
    have h2 := ih h1 (j := j + 1) (by simp; omega) (by omega)
    have e : done ++ u :: r = done ++ [u] ++ r := by simp
    rw [e]; exact h2
theorem Filled.stores {wr : World} {g N : Nat} {E : TypeId} {done : List Value} (h : Filled wr g N E done) (us : List Value) (hl : done.length + us.length ≤ N) : Filled (setAll wr g done.length us) g N E (done ++ us) :=
  Filled.stores_of us h rfl hl
theorem Own.sl' {α : Type} {enc : α → List Value} {w : World} {base size : Nat} {E : TypeId} {A : Option Addr} {n c : Nat} {l : List α} (h : Own w base E size enc (.slice A n c) l) : Sl w enc size A l := by
  obtain ⟨A', c', e, _, hs, _⟩ := h.sl
  injection e with e1 _ _
  rw [e1]; exact hs
theorem Own.up {α : Type} {enc : α → List Value} {w : World} {base size : Nat} {E : TypeId} {v : Value} {l : List α} (h : Own w base E size enc v l) : ∀ g, v.ownBlock = some g → g < w.heap.size := fun g hg => (h.blk g hg).2
theorem apart_of {u v : Value} {m n : Nat} (hu : ∀ g, u.ownBlock = some g → g < m) (hv : ∀ g, v.ownBlock = some g → n ≤ g) (h : m ≤ n) : ∀ g, u.ownBlock = some g → v.ownBlock ≠ some g := fun g h1 h2 => by
  have a := hu g h1; have b := hv g h2; exact absurd a (by omega)
theorem Own.lo {α : Type} {enc : α → List Value} {w : World} {base size : Nat} {E : TypeId} {v : Value} {l : List α} (h : Own w base E size enc v l) : ∀ g, v.ownBlock = some g → base ≤ g := fun g hg => (h.blk g hg).1
theorem markText_at (x : Int) (k : Nat) (hx : x = k) (w : World) (hk : k ≤ 1000000000) :
    Calls Tryz.prog 61 #[.int .i64 x] w fun e w' => e = .returned (.string (mk (markT k))) ∧ Below w.heap.size w w' := by
  subst hx; exact markText_any k w hk
end Go.Proofs.YtkglfmgmmnfmbaaGreatDoor

/- 'append' of a whole slice onto a row of the call's own; 'append' of one struct. -/
set_option linter.unusedVariables false
namespace Go.Proofs.YtkglfmgmmnfmbaaGreatDoor
open Go.RowKit

theorem Own.cz {α : Type} {enc : α → List Value} {w : World} {base size : Nat} {E : TypeId} {A : Option Addr} {n c : Nat} {l : List α} (h : Own w base E size enc (.slice A n c) l) : A = none → c = 0 := by
  rintro rfl
  rcases h.2 with ⟨hv, hn⟩ | ⟨g, cap, cur, hv, hg, hh, hnc, hcm, hsz, ht⟩
  · injection hv
  · injection hv with e; cases e
theorem wpList_appN {P : Program} {α : Type} {enc : α → List Value} {ops : Array Oper} {rest : List Oper} {o : Oper} {a : Act} {Q : Exit → Act → World → Prop} {w0 wr : World} {B base size bytes : Nat} {t E : TypeId} {i : TypeInfo} {z : Value} {v : Value} {l m : List α} {A : Option Addr} {c : Nat}
    (ht : P.underlying t = some (.slice E)) (hi : P.info? E = some i) (hz : i.zero = some z) (hsize : i.size = size) (hby : i.bytes = bytes) (hzs : z.cells.size = size) (hsz : 0 < size) (hb200 : bytes ≤ 256)
    (hgd : o.guard = none) (s x : Operand) (ho : o.op = .call { callee := .builtin .append, args := #[s, x], argTypes := #[t, t] })
    (hown : Own wr base E size enc v l) (hb : Below B w0 wr) (hB : B ≤ base) (hbase : base ≤ wr.heap.size) (hn : l.length + m.length ≤ 33554432)
    (hsl : Sl wr enc size A m) (hcz : A = none → c = 0) (hce : ∀ y, (enc y).length = size) (h1 : ∀ y, ∀ u ∈ enc y, u.oneCell' = true)
    (hs : a.eval s = v) (hx : a.eval x = .slice A m.length c)
    (h : ∀ v' w', Own w' base E size enc v' (l ++ m) → Below B w0 w' → Grew v wr w' → wpList P ops Q rest (a.put o.dst v') w') : wpList P ops Q (o :: rest) a wr := by
  cases A with
  | none =>
    have hm : m = [] := by
      cases m with
      | nil => rfl
      | cons y r => obtain ⟨b, o, e, _⟩ := hsl (by simp); cases e
    subst hm
    rw [hcz rfl] at hx
    refine wpList_append_own_none hgd s x t ho base E i size ht hi v l.length (flat enc l) hs hown hx ?_
    exact h v wr (by rw [List.append_nil]; exact hown) hb (Grew.refl _ _)
  | some ad =>
    refine wpList_append_own _ hgd s x t ho base E i z size bytes ht hi hz hsize hby hzs hsz v l.length (flat enc l) hs hown ad m.length c (flat enc m) hx (flat_length hce m) ?_ ?_ ?_ ?_ hbase ?_
    · intro j u hu
      have hpos : 0 < m.length := by
        have hlt := (List.getElem?_eq_some_iff.1 hu).1
        rw [flat_length hce] at hlt
        cases m with
        | nil => simp at hlt
        | cons y r => simp
      obtain ⟨b, o', e, hc⟩ := hsl hpos
      injection e with e
      subst e
      have hadd : (⟨b, o', none⟩ : Addr).add j = ⟨b, o' + j, none⟩ := by unfold Addr.add; split <;> simp_all
      rw [hadd]; exact hc j u hu
    · intro u hu
      unfold flat at hu
      obtain ⟨y, _, hy⟩ := List.mem_flatMap.1 hu
      exact h1 y u hy
    · unfold maxLen; omega
    · have := Nat.mul_le_mul_left (l.length + m.length) hb200; omega
    · intro v' w' hown' hg _
      refine h v' w' ?_ (hb.grown hg (Nat.le_trans hB hbase) (fun k hk => Nat.le_trans hB (World.ownsRow.lt hown k hk).1)) hg
      show w'.ownsRow base E size v' (l ++ m).length (flat enc (l ++ m))
      rw [flat_append, List.length_append]; exact hown'
theorem oneS : ∀ y, ∀ u ∈ encS y, u.oneCell' = true := by intro y u hu; simp [encS] at hu; subst hu; rfl
theorem oneP : ∀ y, ∀ u ∈ encP y, u.oneCell' = true := by intro y u hu; simp [encP] at hu; rcases hu with rfl | rfl <;> rfl
theorem oneV : ∀ y, ∀ u ∈ encV y, u.oneCell' = true := by intro y u hu; simp [encV] at hu; rcases hu with rfl | rfl | rfl <;> rfl
section
variable {ops : Array Oper} {rest : List Oper} {o : Oper} {a : Act} {Q : Exit → Act → World → Prop} {w0 wr : World} {v : Value}
theorem app_pcN {l m : List Pc} {A : Option Addr} {c : Nat} {s x : Operand} (hgd : o.guard = none) (ho : o.op = .call { callee := .builtin .append, args := #[s, x], argTypes := #[27, 27] })
    (hown : Own wr w0.heap.size 107 2 encP v l) (hb : Below w0.heap.size w0 wr) (hn : l.length + m.length ≤ 33554432) (hsl : Sl wr encP 2 A m) (hcz : A = none → c = 0)
    (hs : a.eval s = v) (hx : a.eval x = .slice A m.length c)
    (h : ∀ v' w', Own w' w0.heap.size 107 2 encP v' (l ++ m) → Below w0.heap.size w0 w' → Grew v wr w' → wpList Tryz.prog ops Q rest (a.put o.dst v') w') : wpList Tryz.prog ops Q (o :: rest) a wr := by
  obtain ⟨i0, hi0, hz0, hz1, hz2⟩ := info_parts pc_info
  exact wpList_appN Tryz.underlying27 hi0 hz0 hz1 hz2 rfl (by decide) (by decide) hgd s x ho hown hb (Nat.le_refl _) hb.size hn hsl hcz (fun _ => rfl) oneP hs hx h
theorem app_strN {l m : List ByteArray} {A : Option Addr} {c : Nat} {s x : Operand} (hgd : o.guard = none) (ho : o.op = .call { callee := .builtin .append, args := #[s, x], argTypes := #[37, 37] })
    (hown : Own wr w0.heap.size 9 1 encS v l) (hb : Below w0.heap.size w0 wr) (hn : l.length + m.length ≤ 33554432) (hsl : Sl wr encS 1 A m) (hcz : A = none → c = 0)
    (hs : a.eval s = v) (hx : a.eval x = .slice A m.length c)
    (h : ∀ v' w', Own w' w0.heap.size 9 1 encS v' (l ++ m) → Below w0.heap.size w0 w' → Grew v wr w' → wpList Tryz.prog ops Q rest (a.put o.dst v') w') : wpList Tryz.prog ops Q (o :: rest) a wr := by
  obtain ⟨i0, hi0, hz0, hz1, hz2⟩ := info_parts str_info
  exact wpList_appN Tryz.underlying37 hi0 hz0 hz1 hz2 rfl (by decide) (by decide) hgd s x ho hown hb (Nat.le_refl _) hb.size hn hsl hcz (fun _ => rfl) oneS hs hx h
end
/-! ### slices.Clone -/
set_option maxHeartbeats 2000000 in
set_option maxRecDepth 100000 in
theorem ClonePc_any (A : Option Addr) (c : Nat) (l : List Pc) (w : World) (hs : Sl w encP 2 A l) (hcz : A = none → c = 0) (hl : l.length ≤ 16777216) :
    Calls Tryz.prog 97 #[.slice A l.length c] w (OwnRes 107 2 encP l w) := by
  have HS := Lib.hid hs
  have HC := Lib.hid hcz
  clear hs hcz
  have hnil := fun (W : World) (A : Option Addr) (n c : Nat) => Lib.run_eql_slice_nil (P := Tryz.prog) W 27 107 A n c 0 0 Tryz.underlying27
  cases A with
  | none =>
    have hm : l = [] := by
      cases l with
      | nil => rfl
      | cons y r => obtain ⟨b, o, e, _⟩ := HS.out (by simp); cases e
    subst hm
    go_enter Tryz.func97, Tryz.ntmps97
    go_wp2
    go_ret
    exact ⟨_, rfl, Own.nil, Below.refl _ _⟩
  | some ad =>
    go_enter Tryz.func97, Tryz.ntmps97
    go_wp2_with (at_builtin; refine app_pcN rfl rfl (Own.made (Nat.le_refl _)) ((Below.refl _ _).alloc (Nat.le_refl _) _) (by simp; omega) (HS.out.alloc _) HC.out (by rfl) (by rfl) ?_; intro v1 w2 hown2 hb2 hg2; have HW2 := Lib.hid hown2; have HB2 := Lib.hid hb2; clear hown2 hb2 hg2)
    go_ret
    exact ⟨_, rfl, by have h := HW2.out; rwa [List.nil_append] at h, HB2.out⟩
end Go.Proofs.YtkglfmgmmnfmbaaGreatDoor

/- Repaired pieces, and free names, in plain Lean. -/
set_option linter.unusedVariables false
namespace Go.Proofs.YtkglfmgmmnfmbaaGreatDoor
--BEGIN
--END
end Go.Proofs.YtkglfmgmmnfmbaaGreatDoor

/- Damaged pieces, walked. -/
set_option linter.unusedVariables false
namespace Go.Proofs.YtkglfmgmmnfmbaaGreatDoor
open Go.RowKit

def FitP (l : List Pc) : Prop := ∀ p ∈ l, p.2.size ≤ 16777216
theorem FitP.at {l : List Pc} (h : FitP l) {k : Nat} (hk : k < l.length) : l[k].2.size ≤ 16777216 := h _ (by simp)

end Go.Proofs.YtkglfmgmmnfmbaaGreatDoor

/- Trees: levels, roots, proofs. -/
set_option linter.unusedVariables false
namespace Go.Proofs.YtkglfmgmmnfmbaaGreatDoor
open Go.RowKit
end Go.Proofs.YtkglfmgmmnfmbaaGreatDoor

/- Trees: valid leaves, the root, and the same of texts. -/
set_option linter.unusedVariables false
namespace Go.Proofs.YtkglfmgmmnfmbaaGreatDoor
open Go.RowKit

theorem lvlUp_length : ∀ (n : Nat) (l : List Int), l.length ≤ n → (lvlUp l).length = (l.length + 1) / 2
  | 0, l, h => by have : l = [] := List.eq_nil_of_length_eq_zero (by omega); subst this; rfl
  | n + 1, l, h => by
    match l, h with
    | [], _ => rfl
    | [a], _ => simp [lvlUp]
    | a :: b :: r, h =>
      have := lvlUp_length n r (by simp at h; omega)
      simp only [lvlUp, List.length_cons, this]; omega
theorem lvlUp_len (l : List Int) : (lvlUp l).length = (l.length + 1) / 2 := lvlUp_length _ l (Nat.le_refl _)
def lenOf : Value → Nat | .slice _ n _ => n | _ => 0
end Go.Proofs.YtkglfmgmmnfmbaaGreatDoor

/- Trees in plain Lean: proofs, roots of proofs; that they meet. -/
set_option linter.unusedVariables false
namespace Go.Proofs.YtkglfmgmmnfmbaaGreatDoor

/-- The root to which a proof leads. -/
def rootF : List Int → Int → Nat → Nat → Int
  | [], p, _, m => if 1 < m then -1 else p
  | x :: r, p, n, m =>
    if m = 1 then -1
    else if m ≤ n ^^^ 1 then (if x = -1 then rootF r p (n / 2) ((m + 1) / 2) else -1)
    else if pv x then rootF r (if n % 2 = 0 then prPair p x else prPair x p) (n / 2) ((m + 1) / 2)
    else -1
theorem proofF_done {f : Nat} {m : List Int} {n : Nat} (h : m.length = 1) : proofF f m n = [] := by
  cases f with
  | zero => rfl
  | succ f => rw [proofF, if_neg (by omega)]
theorem proofF_step {f : Nat} {m : List Int} {n : Nat} (h : 1 < m.length) : proofF (f + 1) m n = (if n ^^^ 1 < m.length then m.getD (n ^^^ 1) 0 else -1) :: proofF f (lvlUp m) (n / 2) := by
  rw [proofF, if_pos h]
theorem proofF_len (f : Nat) : ∀ (m : List Int) (n : Nat), (proofF f m n).length ≤ f := by
  induction f with
  | zero => intro m n; simp [proofF]
  | succ f ih =>
    intro m n; rw [proofF]; split
    · simp; exact ih _ _
    · simp
end Go.Proofs.YtkglfmgmmnfmbaaGreatDoor

/- Drawn inputs: prints, filters. -/
set_option linter.unusedVariables false
namespace Go.Proofs.YtkglfmgmmnfmbaaGreatDoor
open Go.RowKit

def IntIn (lo hi : Int) (v : Value) : Prop := ∃ n : Int, v = .int .i64 n ∧ lo ≤ n ∧ n ≤ hi
theorem IntIn.mono {a b c d : Int} {v : Value} (h : IntIn a b v) (h1 : c ≤ a) (h2 : b ≤ d) : IntIn c d v := by
  obtain ⟨n, e, x, y⟩ := h; exact ⟨n, e, by omega, by omega⟩
theorem Drew.imp {P P' : Value → Prop} {C g p : Nat} {w w' : World} {e : Ending} (h : Drew P C w g p e w') (hP : ∀ v, P v → P' v) : Drew P' C w g p e w' := by
  obtain ⟨v, p', h1, h2, h3⟩ := h; exact ⟨v, p', h1, hP v h2, h3⟩
/-! ### drawn prints -/
end Go.Proofs.YtkglfmgmmnfmbaaGreatDoor

/- Versions: copies, sizes, comparisons and marks of their slices, as laws make them. Written by structgen.py. -/
set_option linter.unusedVariables false
namespace Go.Proofs.YtkglfmgmmnfmbaaGreatDoor
open Go.RowKit

theorem encV_info : (Tryz.prog.info? 63).map (fun i => (i.zero, i.size, i.bytes)) = some (some (.agg #[.int .i64 0, .int .i64 0, .string ⟨#[]⟩]), 3, 32) := by kernel_rfl
set_option maxHeartbeats 4000000 in
set_option maxRecDepth 100000 in
theorem toVersion1 (a0 : Int) (a1 : Int) (a2 : ByteArray) (w : World) :
    Calls Tryz.prog 96 #[.agg #[.int .i64 a0, .int .i64 a1, .string a2]] w fun e w' => e = .returned (.agg #[.int .i64 a0, .int .i64 a1, .string a2]) ∧ Below w.heap.size w w' := by
  go_enter Tryz.func96, Tryz.ntmps96
  go_wp2
  exact bodyPost_ret (v := .agg #[.int .i64 a0, .int .i64 a1, .string a2]) (by simp [results, Tryz.results96, go_sem]) rfl ⟨rfl, below3 _ _ _⟩
set_option maxHeartbeats 4000000 in
set_option maxRecDepth 100000 in
theorem toVersionS_any (A : Option Addr) (c : Nat) (l : List Vr) (w : World) (hs : Sl w encV 3 A l) (hl : l.length ≤ 16777216) :
    Calls Tryz.prog 45 #[.slice A l.length c] w (OwnRes 63 3 encV l w) := by
  obtain ⟨i0, hi0, hz0, hz1, hz2⟩ := info_parts encV_info
  have hmk := make_row (P := Tryz.prog) 28 63 i0 _ Tryz.underlying28 hi0 hz0 l.length hl (by omega)
  rw [hz1] at hmk
  have hfl := fun W : World => Filled.made W (Value.agg #[.int .i64 0, .int .i64 0, .string ⟨#[]⟩]).cells (l.length * 3) 63
  have HFL := Lib.hid hfl
  have HS := Lib.hid hs
  clear hs hfl hi0 hz0 hz1 hz2
  generalize madeCells (Value.agg #[.int .i64 0, .int .i64 0, .string ⟨#[]⟩]).cells (l.length * 3) = M at *
  go_enter Tryz.func45, Tryz.ntmps45
  go_wp2
  clear hmk
  go_loopw [4] (fun i wr => ∃ (k : Nat), k ≤ l.length ∧ i = .int .i64 k ∧ Filled wr w.heap.size (l.length * 3) 63 (flat encV (l.take k)) ∧ Below w.heap.size w wr) (fun i _ => l.length - (intOf i).toNat)
  case atStart => exact ⟨0, Nat.zero_le _, rfl, HFL.out w, (Below.refl _ _).alloc (Nat.le_refl _) _⟩
  case round =>
    obtain ⟨k, hk, rfl, hf, hb⟩ := hrel
    by_cases hlt : k < l.length
    · obtain ⟨b, o, rfl, hc0, hc1, hc2⟩ := (HS.out.below hb).getV hlt
      have hlen : (flat encV (l.take k)).length = k * 3 := by rw [flat_length (size := 3) (fun _ => rfl), List.length_take]; omega
      have HF := Lib.hid hf
      have HB := Lib.hid hb
      clear hf hb
      have hsucc : flat encV (l.take (k + 1)) = flat encV (l.take k) ++ encV l[k] := by rw [List.take_succ_eq_append_getElem hlt, flat_snoc]
      have HSC := Lib.hid hsucc
      have HLN := Lib.hid hlen
      clear hsucc hlen
      generalize l[k] = p at *
      go_wp2_with fail
      refine (toVersion1 _ _ _ _).mono ?_
      rintro e w2 ⟨rfl, hb2⟩
      have hf2 := HF.out.below hb2
      have HB2 := Lib.hid (HB.out.trans (hb2.mono HB.out.size))
      clear hb2
      have HST := Lib.hid (hf2.stores (encV p) (by rw [HLN.out]; simp [encV]; omega))
      obtain ⟨u0, hu0⟩ := hf2.cell (j := k * 3) (by omega)
      have hr0 := hf2.free (k * 3)
      obtain ⟨u1, hu1⟩ := hf2.cell (j := k * 3 + 1) (by omega)
      have hr1 := hf2.free (k * 3 + 1)
      obtain ⟨u2, hu2⟩ := hf2.cell (j := k * 3 + 2) (by omega)
      have hr2 := hf2.free (k * 3 + 2)
      clear hf2
      go_wp2
      go_roundw
      case rel => exact ⟨k + 1, by omega, by go_num, by rw [HSC.out]; have h := HST.out; rw [HLN.out] at h; exact h, Below.setCell (Below.setCell (Below.setCell (HB2.out) (Nat.le_refl _) _) (Nat.le_refl _) _) (Nat.le_refl _) _⟩
      case measure => simp [intOf]; omega
    · go_wp2
      go_ret
      rw [List.take_of_length_le (by omega)] at hf
      exact ⟨_, rfl, hf.own (fun _ => rfl) (Nat.le_refl _) (by unfold maxLen; omega), hb⟩
def FitsVersion (l : List Vr) : Prop := ∀ p ∈ l, p.2.2.size ≤ 1048576
def SizedVersion (l : List Vr) (left : Int) (w : World) (e : Ending) (w' : World) : Prop :=
  ∃ r : Int, e = .returned (.int .i64 r) ∧ r ≤ left ∧ (0 ≤ r → l.length ≤ 1048576 ∧ FitsVersion l) ∧ Below w.heap.size w w'
set_option maxHeartbeats 4000000 in
set_option maxRecDepth 100000 in
theorem szVersion1 (a0 : Int) (a1 : Int) (a2 : ByteArray) (left : Int) (w : World) (hs : a2.size ≤ maxLen) (h0 : 0 ≤ left) (h1 : left ≤ 1048576) :
    Calls Tryz.prog 76 #[.agg #[.int .i64 a0, .int .i64 a1, .string a2], .int .i64 left] w fun e w' => e = .returned (.int .i64 (szT left a2.size)) ∧ Below w.heap.size w w' := by
  unfold maxLen at hs
  by_cases h : left < a2.size
  · have e : szT left a2.size = -1 := by unfold szT; rw [if_pos h]
    rw [e]; clear e
    go_enter Tryz.func76, Tryz.ntmps76
    go_wp2
    go_ret
    exact ⟨rfl, below1 _ 0⟩
  · have e : szT left a2.size = left - a2.size := by unfold szT; rw [if_neg h]
    rw [e]; clear e
    go_enter Tryz.func76, Tryz.ntmps76
    go_wp2
    go_ret
    exact ⟨rfl, below1 _ 0⟩
set_option maxHeartbeats 4000000 in
set_option maxRecDepth 100000 in
theorem szVersionS_any (A : Option Addr) (c : Nat) (l : List Vr) (left : Int) (w : World) (hs : Sl w encV 3 A l) (hl : l.length ≤ maxLen) (hm : ∀ p ∈ l, p.2.2.size ≤ maxLen) (h0 : 0 ≤ left) (h1 : left ≤ 1048576) :
    Calls Tryz.prog 33 #[.slice A l.length c, .int .i64 left] w (SizedVersion l left w) := by
  have HS := Lib.hid hs
  have HM := Lib.hid hm
  unfold maxLen at hl
  clear hs hm
  by_cases hlen : (l.length : Int) ≤ left
  · go_enter Tryz.func33, Tryz.ntmps33
    go_wp2
    go_loopw [1, 5] (fun v i wr => ∃ (k : Nat) (L : Int), k ≤ l.length ∧ i = .int .i64 k ∧ v = .int .i64 L ∧ 0 ≤ L ∧ L ≤ left ∧ Hid (FitsVersion (l.take k)) ∧ Below w.heap.size w wr) (fun _ i _ => l.length - (intOf i).toNat)
    case atStart => exact ⟨0, left - l.length, Nat.zero_le _, rfl, rfl, by omega, by omega, (by intro p hp; simp at hp), Below.refl _ _⟩
    case round =>
      obtain ⟨k, L, hk, rfl, rfl, hL0, hL1, hft, hb⟩ := hrel
      by_cases hlt : k < l.length
      · obtain ⟨b, o, rfl, hc0, hc1, hc2⟩ := (HS.out.below hb).getV hlt
        have hms := HM.out l[k] (by simp)
        have hms2 := hms
        unfold maxLen at hms2
        have hnext : l[k].2.2.size ≤ 1048576 → FitsVersion (l.take (k + 1)) := fun h p hp => by
          rw [List.take_succ_eq_append_getElem hlt, List.mem_append, List.mem_singleton] at hp
          rcases hp with hp | rfl
          · exact hft.out p hp
          · exact h
        have HN := Lib.hid hnext
        have HB := Lib.hid hb
        clear hnext hb
        generalize l[k] = p at *
        have hz := szVersion1 p.1 p.2.1 p.2.2 L
        by_cases hsz : (p.2.2.size : Int) ≤ L
        · rw [show szT L p.2.2.size = L - p.2.2.size from by unfold szT; rw [if_neg (by omega)]] at hz
          have HZ := Lib.hid hz
          clear hz
          go_wp2_with fail
          refine (HZ.out _ hms hL0 (by omega)).mono ?_
          rintro e w2 ⟨rfl, hb2⟩
          have HB2 := Lib.hid (Below_then HB.out hb2 (Nat.le_refl _))
          clear hb2
          go_wp2
          go_roundw
          case rel => exact ⟨k + 1, _, by omega, by go_num, rfl, by omega, by omega, HN.out (by omega), HB2.out⟩
          case measure => simp [intOf]; omega
        · rw [show szT L p.2.2.size = -1 from by unfold szT; rw [if_pos (by omega)]] at hz
          have HZ := Lib.hid hz
          clear hz
          go_wp2_with fail
          refine (HZ.out _ hms hL0 (by omega)).mono ?_
          rintro e w2 ⟨rfl, hb2⟩
          have HB2 := Lib.hid (Below_then HB.out hb2 (Nat.le_refl _))
          clear hb2
          go_wp2
          go_ret
          exact ⟨-1, rfl, by omega, fun h => absurd h (by omega), HB2.out⟩
      · go_wp2
        go_ret
        refine ⟨L, rfl, hL1, fun _ => ⟨by omega, ?_⟩, hb⟩
        have h := hft.out; rwa [List.take_of_length_le (by omega)] at h
  · go_enter Tryz.func33, Tryz.ntmps33
    go_wp2
    go_ret
    exact ⟨-1, rfl, by omega, fun h => absurd h (by omega), Below.refl _ _⟩
set_option maxHeartbeats 4000000 in
set_option maxRecDepth 100000 in
theorem eqVersion1 (a0 : Int) (a1 : Int) (a2 : ByteArray) (w : World) :
    Calls Tryz.prog 114 #[.agg #[.int .i64 a0, .int .i64 a1, .string a2], .agg #[.int .i64 a0, .int .i64 a1, .string a2]] w fun e w' => e = .returned (.bool true) ∧ Below w.heap.size w w' := by
  go_enter Tryz.func114, Tryz.ntmps114
  go_wp2
  go_ret
  exact ⟨rfl, ((Below.refl _ _).alloc (Nat.le_refl _) _).alloc (by simp) _⟩
set_option maxHeartbeats 4000000 in
set_option maxRecDepth 100000 in
theorem eqVersionS_same (A B : Option Addr) (c d : Nat) (l : List Vr) (w : World) (ha : Sl w encV 3 A l) (hb : Sl w encV 3 B l) (hl : l.length ≤ 16777216) :
    Calls Tryz.prog 56 #[.slice A l.length c, .slice B l.length d] w fun e w' => e = .returned (.bool true) ∧ Below w.heap.size w w' := by
  have HA := Lib.hid ha
  have HB := Lib.hid hb
  clear ha hb
  go_enter Tryz.func56, Tryz.ntmps56
  go_wp2
  go_loopw [5] (fun i wr => ∃ (k : Nat), k ≤ l.length ∧ i = .int .i64 k ∧ Below w.heap.size w wr) (fun i _ => l.length - (intOf i).toNat)
  case atStart => exact ⟨0, Nat.zero_le _, rfl, Below.refl _ _⟩
  case round =>
    obtain ⟨k, hk, rfl, hbw⟩ := hrel
    have HW := Lib.hid hbw
    clear hbw
    by_cases hlt : k < l.length
    · obtain ⟨b1, o1, rfl, hc0, hc1, hc2⟩ := (HA.out.below HW.out).getV hlt
      obtain ⟨b2, o2, rfl, hd0, hd1, hd2⟩ := (HB.out.below HW.out).getV hlt
      generalize l[k] = p at *
      replace hc0 := far_cell hc0
      replace hc1 := far_cell hc1
      replace hc2 := far_cell hc2
      replace hd0 := far_cell hd0
      replace hd1 := far_cell hd1
      replace hd2 := far_cell hd2
      go_wp2
      refine wp_region_far (by kernel_rfl) (by kernel_rfl) ?_
      repeat (go_big_quiet_step ((go_at_call 114; exact far_call (eqVersion1 _ _ _ _))))
      refine wpQuiet_nil ?_
      intro _ hwF
      obtain ⟨pF, hwF⟩ := hwF
      subst hwF
      go_wp2
      go_roundw
      case rel => exact ⟨k + 1, by omega, by go_num, Below_then HW.out (far_below _ _) (Nat.le_refl _)⟩
      case measure => simp [intOf]; omega
    · go_wp2
      go_ret
      exact ⟨rfl, HW.out⟩
def markVersionL (k n : Nat) : List Vr := (List.range n).map fun j => (((k + 3 * j + 0 : Nat) : Int), ((k + 3 * j + 1 : Nat) : Int), mk (markT (k + 3 * j + 2)))
theorem markVersionL_len (k n : Nat) : (markVersionL k n).length = n := by simp [markVersionL]
theorem markVersionL_succ (k n : Nat) : markVersionL k (n + 1) = markVersionL k n ++ [(((k + 3 * n + 0 : Nat) : Int), ((k + 3 * n + 1 : Nat) : Int), mk (markT (k + 3 * n + 2)))] := by simp [markVersionL, List.range_succ]
theorem markVersionL_at {k n j : Nat} (h : j < n) : (markVersionL k n)[j]'(by rw [markVersionL_len]; exact h) = (((k + 3 * j + 0 : Nat) : Int), ((k + 3 * j + 1 : Nat) : Int), mk (markT (k + 3 * j + 2))) := by simp [markVersionL]
set_option maxHeartbeats 4000000 in
set_option maxRecDepth 100000 in
theorem markVersionS_any (base : Nat) (v : Value) (l : List Vr) (k : Nat) (w : World) (h : Own w base 63 3 encV v l) (hl : l.length ≤ 16777216) (hk : k ≤ 100000000) :
    Calls Tryz.prog 58 #[v, .int .i64 k] w (Marked 63 3 encV base v (markVersionL k l.length) (k + 3 * l.length) w) := by
  by_cases h0 : 0 < l.length
  · obtain ⟨g, cap, rfl, hg, hlc, hcm, hf⟩ := h.row h0
    have HF := Lib.hid hf
    have hcm' := hcm
    unfold maxLen at hcm'
    clear hf h
    go_enter Tryz.func58, Tryz.ntmps58
    go_wp2
    go_loopw [1, 5] (fun sk si wr => ∃ (j K : Nat), j ≤ l.length ∧ si = .int .i64 (j : Int) ∧ sk = .int .i64 (K : Int) ∧ Hid (K = k + 3 * j) ∧ K ≤ 300000000 ∧ Filled wr g (cap * 3) 63 (flat encV (markVersionL k j)) ∧ Grew (.slice (some ⟨g, 0, none⟩) l.length cap) w wr) (fun _ si _ => l.length - (intOf si).toNat)
    case atStart => exact ⟨0, k, Nat.zero_le _, rfl, rfl, rfl, by omega, HF.out, Grew.refl _ _⟩
    case round =>
      obtain ⟨j, K, hj, rfl, rfl, hK, hKb, hf, hg2⟩ := hrel
      by_cases hlt : j < l.length
      · have hlen : (flat encV (markVersionL k j)).length = j * 3 := by rw [flat_length (size := 3) (fun _ => rfl), markVersionL_len]
        have hsucc : flat encV (markVersionL k (j + 1)) = flat encV (markVersionL k j) ++ [Value.int .i64 ((K + 0 : Nat) : Int), Value.int .i64 ((K + 1 : Nat) : Int), .string (mk (markT (K + 2)))] := by
          rw [markVersionL_succ, flat_snoc]; have := hK.out; subst this; rfl
        have HSC := Lib.hid hsucc
        have HLN := Lib.hid hlen
        have HK := hK
        have HF0 := Lib.hid hf
        have HG0 := Lib.hid hg2
        clear hsucc hlen hK hf hg2
        generalize flat encV (markVersionL k j) = D at *
        obtain ⟨u0, hu0⟩ := HF0.out.cell (j := j * 3) (by omega)
        have hr0 := HF0.out.free (j * 3)
        obtain ⟨u1, hu1⟩ := HF0.out.cell (j := j * 3 + 1) (by omega)
        have hr1 := HF0.out.free (j * 3 + 1)
        go_wp2_with fail
        refine (markText_at _ (K + 2) (by omega) _ (by omega)).mono ?_
        rintro e w3 ⟨rfl, hb3⟩
        have hst2 := Filled.stores_of [Value.int .i64 ((K + 0 : Nat) : Int), Value.int .i64 ((K + 1 : Nat) : Int)] (j := j * 3) HF0.out (by simp [HLN.out]) (by simp; omega)
        have HF3 := Lib.hid (hst2.below hb3)
        have HG3 := Lib.hid ((Grew.set (Grew.set (HG0.out) rfl _) rfl _).trans (Grew.below hb3))
        clear hb3 hu0 hr0 hu1 hr1 hst2
        obtain ⟨u2, hu2⟩ := HF3.out.cell (j := j * 3 + 2) (by omega)
        have hr2 := HF3.out.free (j * 3 + 2)
        have HST := Lib.hid (Filled.stores_of [.string (mk (markT (K + 2)))] (j := j * 3 + 2) HF3.out (by simp [HLN.out]) (by simp; omega))
        go_wp2
        go_roundw
        case rel => exact ⟨j + 1, K + 3, by omega, by go_num, by go_num, by show _ = _; rw [HK.out]; omega, by have := HK.out; omega, by rw [HSC.out]; have h := HST.out; simpa [setAll, Nat.add_assoc, Int.add_assoc] using h, Grew.set (HG3.out) rfl _⟩
        case measure => simp [intOf]; omega
      · have hjl : j = l.length := by omega
        subst hjl
        have HG2 := Lib.hid hg2
        have HF2 := Lib.hid hf
        clear hg2 hf
        go_wp2
        go_ret
        have ho := HF2.out.ownc (base := base) (fun _ => rfl) hg hcm (by rw [markVersionL_len]; exact hlc)
        rw [markVersionL_len] at ho
        exact ⟨ret_int (by rw [hK.out]), ho, HG2.out⟩
  · have hz : l.length = 0 := by omega
    obtain ⟨A, c, hv, _, _, _⟩ := h.sl
    subst hv
    rw [hz] at h ⊢
    have H := Lib.hid h
    clear h
    go_enter Tryz.func58, Tryz.ntmps58
    go_wp2
    go_loopw [1, 5] (fun sk si wr => si = .int .i64 0 ∧ sk = .int .i64 (k : Int) ∧ w = wr) (fun _ _ _ => 0)
    case atStart => exact ⟨rfl, rfl, rfl⟩
    case round =>
      obtain ⟨rfl, rfl, rfl⟩ := hrel
      go_wp2
      go_ret
      exact ⟨rfl, H.out.empty hz (by rw [markVersionL_len]), Grew.refl _ _⟩
set_option maxHeartbeats 4000000 in
set_option maxRecDepth 100000 in
theorem heldVersionS_any (A : Option Addr) (c : Nat) (k n : Nat) (w : World) (hs : Sl w encV 3 A (markVersionL k n)) (hn : n ≤ 16777216) (hk : k ≤ 100000000) :
    Calls Tryz.prog 60 #[.slice A n c, .int .i64 k] w fun e w' => e = .returned (.int .i64 ((k + 3 * n : Nat) : Int)) ∧ Below w.heap.size w w' := by
  have HS := Lib.hid hs
  clear hs
  go_enter Tryz.func60, Tryz.ntmps60
  go_wp2
  go_loopw [1, 5] (fun sk si wr => ∃ (j K : Nat), j ≤ n ∧ si = .int .i64 (j : Int) ∧ sk = .int .i64 (K : Int) ∧ Hid (K = k + 3 * j) ∧ K ≤ 300000000 ∧ Below w.heap.size w wr) (fun _ si _ => n - (intOf si).toNat)
  case atStart => exact ⟨0, k, Nat.zero_le _, rfl, rfl, rfl, by omega, Below.refl _ _⟩
  case round =>
    obtain ⟨j, K, hj, rfl, rfl, hK, hKb, hb⟩ := hrel
    have HB0 := Lib.hid hb
    clear hb
    by_cases hlt : j < n
    · have HK := hK
      have hat := markVersionL_at (k := k) hlt
      rw [← hK.out] at hat
      clear hK
      obtain ⟨b, o, rfl, hc0, hc1, hc2⟩ := (HS.out.below HB0.out).getV (k := j) (by rw [markVersionL_len]; exact hlt)
      rw [hat] at hc0 hc1 hc2
      clear hat
      go_wp2
      have hf0 := far_cell hc0
      have hf1 := far_cell hc1
      have hf2 := far_cell hc2
      have HC := Lib.hid (And.intro hc0 (And.intro hc1 hc2))
      clear hc0 hc1 hc2
      refine wp_region_far (by kernel_rfl) (by kernel_rfl) ?_
      repeat (go_big_quiet_step ((go_at_call 61; exact far_call (markText_at _ (K + 2) (by omega) _ (by omega)))))
      refine wpQuiet_nil ?_
      intro _ hwF
      obtain ⟨pF, hwF⟩ := hwF
      subst hwF
      have HB3 := Lib.hid (Below_then HB0.out (far_below _ pF) (Nat.le_refl _))
      obtain ⟨hc0, hc1, hc2⟩ := HC.out
      replace hc0 := hf0 pF
      replace hc1 := hf1 pF
      replace hc2 := hf2 pF
      clear hf0 hf1 hf2 HC
      generalize far _ pF = wF2 at *
      go_wp2
      go_roundw
      case rel => exact ⟨j + 1, K + 3, by omega, by go_num, by go_num, by show _ = _; rw [HK.out]; omega, by have := HK.out; omega, HB3.out⟩
      case measure => simp [intOf]; omega
    · have hjl : j = n := by omega
      subst hjl
      go_wp2
      go_ret
      exact ⟨ret_int (by rw [hK.out]), HB0.out⟩
/-- What is told of a slice of such structs that came in. -/
def VersionsIn (w : World) (A : Option Addr) (n c : Nat) : Prop := ∃ l : List Vr, l.length = n ∧ n ≤ c ∧ c ≤ maxLen ∧ Sl w encV 3 A l ∧ ∀ p ∈ l, p.2.2.size ≤ maxLen
end Go.Proofs.YtkglfmgmmnfmbaaGreatDoor

/- 'append' of one element onto a row of the call's own, telling what else stayed and where the new row lies. -/
set_option linter.unusedVariables false
namespace Go.Proofs.YtkglfmgmmnfmbaaGreatDoor
open Go.RowKit

/-- v' owns no block that was there and that v did not own. -/
def Kin (v : Value) (wr : World) (v' : Value) : Prop := ∀ b, b < wr.heap.size → v.ownBlock ≠ some b → v'.ownBlock ≠ some b
def LtA (A : Option Addr) (n : Nat) : Prop := ∀ b o, A = some ⟨b, o, none⟩ → b < n
theorem Apart.kin {A : Option Addr} {v v' : Value} {wr : World} (h : Apart A v) (hA : LtA A wr.heap.size) (hk : Kin v wr v') : Apart A v' := fun b o e => hk b (hA b o e) (h b o e)
theorem LtA.mono {A : Option Addr} {m n : Nat} (h : LtA A m) (hmn : m ≤ n) : LtA A n := fun b o e => Nat.lt_of_lt_of_le (h b o e) hmn
theorem Own.ltA {α : Type} {enc : α → List Value} {w : World} {base size : Nat} {E : TypeId} {A : Option Addr} {n c : Nat} {l : List α} (h : Own w base E size enc (.slice A n c) l) : LtA A w.heap.size := by
  obtain ⟨A', c', e, _, _, hg⟩ := h.sl
  injection e with e1 _ _
  subst e1
  intro b o e
  rcases hg with ⟨_, h⟩ | ⟨g, h, _, hlt⟩
  · rw [h] at e; cases e
  · rw [h] at e; injection e with e; injection e with e1 _; omega
theorem Own.apart {α : Type} {enc : α → List Value} {w : World} {base size : Nat} {E : TypeId} {A : Option Addr} {n c : Nat} {l : List α} (h : Own w base E size enc (.slice A n c) l) {v : Value} (hv : ∀ g, v.ownBlock = some g → g < base) : Apart A v := by
  obtain ⟨A', c', e, _, _, hg⟩ := h.sl
  injection e with e1 _ _
  subst e1
  intro b o e hb
  have := hv b hb
  rcases hg with ⟨_, h⟩ | ⟨g, h, hlo, hlt⟩
  · rw [h] at e; cases e
  · rw [h] at e; injection e with e; injection e with e1 _; omega
theorem wpList_app3 {P : Program} {α : Type} {enc : α → List Value} {ops : Array Oper} {rest : List Oper} {o : Oper} {a : Act} {Q : Exit → Act → World → Prop} {w0 wr : World} {B base size bytes : Nat} {t E : TypeId} {i : TypeInfo} {z : Value} {v : Value} {l : List α}
    (ht : P.underlying t = some (.slice E)) (hi : P.info? E = some i) (hz : i.zero = some z) (hsize : i.size = size) (hby : i.bytes = bytes) (hzs : z.cells.size = size) (hsz : 0 < size) (hb200 : bytes ≤ 256)
    (hgd : o.guard = none) (s x : Operand) (ho : o.op = .call { callee := .builtin .append, args := #[s, x], argTypes := #[t, t] })
    (hs : a.eval s = v) (hx : a.eval x = .slice (some ⟨wr.heap.size, 0, none⟩) 1 1)
    (hown : Own wr base E size enc v l) (hb : Below B w0 wr) (hB : B ≤ base) (hbase : base ≤ wr.heap.size) (hn : l.length ≤ 16777216) (y : α) (cells : Array Value) (hcl : cells = (enc y).toArray) (hce : (enc y).length = size) (h1 : ∀ u ∈ enc y, u.oneCell' = true)
    (h : ∀ v' w', Own w' base E size enc v' (l ++ [y]) → Below B w0 w' → Grew v wr w' → Kin v wr v' → wpList P ops Q rest (a.put o.dst v') w') : wpList P ops Q (o :: rest) a (wr.alloc (.cells cells E)) := by
  subst hcl
  refine wpList_append_own_at _ hgd s x t ho base E i z size bytes ht hi hz hsize hby hzs hsz v l.length (flat enc l) hs (World.ownsRow.alloc hown _) ⟨wr.heap.size, 0, none⟩ 1 1 (enc y) hx (by rw [hce, Nat.one_mul]) ?_ h1 ?_ ?_ ?_ ?_
  · intro j u hu
    have hadd : (⟨wr.heap.size, 0, none⟩ : Addr).add j = ⟨wr.heap.size, j, none⟩ := by unfold Addr.add; split <;> simp_all
    rw [hadd, cell_of_row _ _ j _ E (0, 0) (heap_alloc_new wr _)]
    simpa using hu
  · unfold maxLen; omega
  · have := Nat.mul_le_mul_left (l.length + 1) hb200; omega
  · simp; omega
  · intro v' w' hown' hg _ hat
    refine h v' w' ?_ ((hb.alloc (Nat.le_trans hB hbase) _).grown hg (by simp; omega) (fun k hk => ?_)) ?_ ?_
    · show w'.ownsRow base E size v' (l ++ [y]).length (flat enc (l ++ [y]))
      rw [flat_snoc, List.length_append]; exact hown'
    · exact Nat.le_trans hB (World.ownsRow.lt hown k hk).1
    · exact ⟨hg.os, hg.tape, hg.output, Nat.le_trans (by simp) hg.size, fun k hk hne => (hg.block k (by simp; omega) hne).trans (Below.heap_alloc wr _ k hk)⟩
    · intro b hb2 hne hv'
      rcases hat with hat | hat
      · exact hne (hat ▸ hv')
      · rw [hat] at hv'; injection hv' with e; simp at e; omega
section
variable {ops : Array Oper} {rest : List Oper} {o : Oper} {a : Act} {Q : Exit → Act → World → Prop} {w0 wr : World} {v : Value}
theorem app_str3 {l : List ByteArray} {y : ByteArray} {s x : Operand} (hgd : o.guard = none) (ho : o.op = .call { callee := .builtin .append, args := #[s, x], argTypes := #[37, 37] })
    (hs : a.eval s = v) (hx : a.eval x = .slice (some ⟨wr.heap.size, 0, none⟩) 1 1)
    (hown : Own wr w0.heap.size 9 1 encS v l) (hb : Below w0.heap.size w0 wr) (hn : l.length ≤ 16777216)
    (h : ∀ v' w', Own w' w0.heap.size 9 1 encS v' (l ++ [y]) → Below w0.heap.size w0 w' → Grew v wr w' → Kin v wr v' → wpList Tryz.prog ops Q rest (a.put o.dst v') w') :
    wpList Tryz.prog ops Q (o :: rest) a (wr.alloc (.cells #[.string y] 9)) := by
  obtain ⟨i0, hi0, hz0, hz1, hz2⟩ := info_parts str_info
  exact wpList_app3 Tryz.underlying37 hi0 hz0 hz1 hz2 rfl (by decide) (by decide) hgd s x ho hs hx hown hb (Nat.le_refl _) hb.size hn y _ rfl rfl (by intro u hu; simp [encS] at hu; subst hu; rfl) h
end
end Go.Proofs.YtkglfmgmmnfmbaaGreatDoor
