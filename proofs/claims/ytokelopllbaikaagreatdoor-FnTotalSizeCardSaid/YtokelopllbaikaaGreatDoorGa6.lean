/- Texts in one: St, Ap2, Rp, Dm, Tr, Tr2, Tp, Dr2, SVersion, Ap3. -/
import Derived.Test.YtokelopllbaikaaGreatDoorGa5
import Derived.Test.YtokelopllbaikaaGreatDoorGa3
import Derived.Laws.AppendOwnNone
import Derived.Test.YtokelopllbaikaaGreatDoorGa1
/- Words for slices of structs: several cells written one after the other; marks at a number. -/
set_option linter.unusedVariables false
namespace Go.Proofs.YtokelopllbaikaaGreatDoor
open Go.RowKit

/-- Cells stored one after the other. -/
def setAll (w : World) (g : Nat) : Nat → List Value → World
  | _, [] => w
  | j, u :: r => setAll (w.setCell ⟨g, j, none⟩ u) g (j + 1) r
theorem Own.sl' {α : Type} {enc : α → List Value} {w : World} {base size : Nat} {E : TypeId} {A : Option Addr} {n c : Nat} {l : List α} (h : Own w base E size enc (.slice A n c) l) : Sl w enc size A l := by
  obtain ⟨A', c', e, _, hs, _⟩ := h.sl
  injection e with e1 _ _
  rw [e1]; exact hs
theorem Own.up {α : Type} {enc : α → List Value} {w : World} {base size : Nat} {E : TypeId} {v : Value} {l : List α} (h : Own w base E size enc v l) : ∀ g, v.ownBlock = some g → g < w.heap.size := fun g hg => (h.blk g hg).2
theorem apart_of {u v : Value} {m n : Nat} (hu : ∀ g, u.ownBlock = some g → g < m) (hv : ∀ g, v.ownBlock = some g → n ≤ g) (h : m ≤ n) : ∀ g, u.ownBlock = some g → v.ownBlock ≠ some g := fun g h1 h2 => by
  have a := hu g h1; have b := hv g h2; exact absurd a (by omega)
end Go.Proofs.YtokelopllbaikaaGreatDoor

/- 'append' of a whole slice onto a row of the call's own; 'append' of one struct. -/
set_option linter.unusedVariables false
namespace Go.Proofs.YtokelopllbaikaaGreatDoor
open Go.RowKit

theorem Own.cz {α : Type} {enc : α → List Value} {w : World} {base size : Nat} {E : TypeId} {A : Option Addr} {n c : Nat} {l : List α} (h : Own w base E size enc (.slice A n c) l) : A = none → c = 0 := by
  rintro rfl
  rcases h.2 with ⟨hv, hn⟩ | ⟨g, cap, cur, hv, hg, hh, hnc, hcm, hsz, ht⟩
  · injection hv
  · injection hv with e; cases e
theorem wpList_appN {P : Program} {α : Type} {enc : α → List Value} {ops : Array Oper} {rest : List Oper} {o : Oper} {a : Act} {Q : Exit → Act → World → Prop} {w0 wr : World} {B base size bytes : Nat} {t E : TypeId} {i : TypeInfo} {z : Value} {v : Value} {l m : List α} {A : Option Addr} {c : Nat}
    (ht : P.underlying t = some (.slice E)) (hi : P.info? E = some i) (hz : i.zero = some z) (hsize : i.size = size) (hby : i.bytes = bytes) (hzs : z.cells.size = size) (hsz : 0 < size) (hb200 : bytes ≤ 256)
    (hgd : o.guard = none) (s x : Operand) (ho : o.op = .call { callee := .builtin .append, args := #[s, x], argTypes := #[t, t] })
    (hown : Own wr base E size enc v l) (hb : Below B w0 wr) (hB : B ≤ base) (hbase : base ≤ wr.heap.size) (hn : l.length + m.length ≤ 33554432)
    (hsl : Sl wr enc size A m) (hcz : A = none → c = 0) (hce : ∀ y, (enc y).length = size) (h1 : ∀ y, ∀ u ∈ enc y, u.oneCell' = true)
    (hs : a.eval s = v) (hx : a.eval x = .slice A m.length c)
    (h : ∀ v' w', Own w' base E size enc v' (l ++ m) → Below B w0 w' → Grew v wr w' → wpList P ops Q rest (a.put o.dst v') w') : wpList P ops Q (o :: rest) a wr := by
  cases A with
  | none =>
    have hm : m = [] := by
      cases m with
      | nil => rfl
      | cons y r => obtain ⟨b, o, e, _⟩ := hsl (by simp); cases e
    subst hm
    rw [hcz rfl] at hx
    refine wpList_append_own_none hgd s x t ho base E i size ht hi v l.length (flat enc l) hs hown hx ?_
    exact h v wr (by rw [List.append_nil]; exact hown) hb (Grew.refl _ _)
  | some ad =>
    refine wpList_append_own _ hgd s x t ho base E i z size bytes ht hi hz hsize hby hzs hsz v l.length (flat enc l) hs hown ad m.length c (flat enc m) hx (flat_length hce m) ?_ ?_ ?_ ?_ hbase ?_
    · intro j u hu
      have hpos : 0 < m.length := by
        have hlt := (List.getElem?_eq_some_iff.1 hu).1
        rw [flat_length hce] at hlt
        cases m with
        | nil => simp at hlt
        | cons y r => simp
      obtain ⟨b, o', e, hc⟩ := hsl hpos
      injection e with e
      subst e
      have hadd : (⟨b, o', none⟩ : Addr).add j = ⟨b, o' + j, none⟩ := by unfold Addr.add; split <;> simp_all
      rw [hadd]; exact hc j u hu
    · intro u hu
      unfold flat at hu
      obtain ⟨y, _, hy⟩ := List.mem_flatMap.1 hu
      exact h1 y u hy
    · unfold maxLen; omega
    · have := Nat.mul_le_mul_left (l.length + m.length) hb200; omega
    · intro v' w' hown' hg _
      refine h v' w' ?_ (hb.grown hg (Nat.le_trans hB hbase) (fun k hk => Nat.le_trans hB (World.ownsRow.lt hown k hk).1)) hg
      show w'.ownsRow base E size v' (l ++ m).length (flat enc (l ++ m))
      rw [flat_append, List.length_append]; exact hown'
theorem oneS : ∀ y, ∀ u ∈ encS y, u.oneCell' = true := by intro y u hu; simp [encS] at hu; subst hu; rfl
theorem oneP : ∀ y, ∀ u ∈ encP y, u.oneCell' = true := by intro y u hu; simp [encP] at hu; rcases hu with rfl | rfl <;> rfl
section
variable {ops : Array Oper} {rest : List Oper} {o : Oper} {a : Act} {Q : Exit → Act → World → Prop} {w0 wr : World} {v : Value}
theorem app_pcN {l m : List Pc} {A : Option Addr} {c : Nat} {s x : Operand} (hgd : o.guard = none) (ho : o.op = .call { callee := .builtin .append, args := #[s, x], argTypes := #[23, 23] })
    (hown : Own wr w0.heap.size 38 2 encP v l) (hb : Below w0.heap.size w0 wr) (hn : l.length + m.length ≤ 33554432) (hsl : Sl wr encP 2 A m) (hcz : A = none → c = 0)
    (hs : a.eval s = v) (hx : a.eval x = .slice A m.length c)
    (h : ∀ v' w', Own w' w0.heap.size 38 2 encP v' (l ++ m) → Below w0.heap.size w0 w' → Grew v wr w' → wpList Tryz.prog ops Q rest (a.put o.dst v') w') : wpList Tryz.prog ops Q (o :: rest) a wr := by
  obtain ⟨i0, hi0, hz0, hz1, hz2⟩ := info_parts pc_info
  exact wpList_appN Tryz.underlying23 hi0 hz0 hz1 hz2 rfl (by decide) (by decide) hgd s x ho hown hb (Nat.le_refl _) hb.size hn hsl hcz (fun _ => rfl) oneP hs hx h
theorem app_strN {l m : List ByteArray} {A : Option Addr} {c : Nat} {s x : Operand} (hgd : o.guard = none) (ho : o.op = .call { callee := .builtin .append, args := #[s, x], argTypes := #[33, 33] })
    (hown : Own wr w0.heap.size 9 1 encS v l) (hb : Below w0.heap.size w0 wr) (hn : l.length + m.length ≤ 33554432) (hsl : Sl wr encS 1 A m) (hcz : A = none → c = 0)
    (hs : a.eval s = v) (hx : a.eval x = .slice A m.length c)
    (h : ∀ v' w', Own w' w0.heap.size 9 1 encS v' (l ++ m) → Below w0.heap.size w0 w' → Grew v wr w' → wpList Tryz.prog ops Q rest (a.put o.dst v') w') : wpList Tryz.prog ops Q (o :: rest) a wr := by
  obtain ⟨i0, hi0, hz0, hz1, hz2⟩ := info_parts str_info
  exact wpList_appN Tryz.underlying33 hi0 hz0 hz1 hz2 rfl (by decide) (by decide) hgd s x ho hown hb (Nat.le_refl _) hb.size hn hsl hcz (fun _ => rfl) oneS hs hx h
end
/-! ### slices.Clone -/
set_option maxHeartbeats 2000000 in
set_option maxRecDepth 100000 in
theorem ClonePc_any (A : Option Addr) (c : Nat) (l : List Pc) (w : World) (hs : Sl w encP 2 A l) (hcz : A = none → c = 0) (hl : l.length ≤ 16777216) :
    Calls Tryz.prog 22 #[.slice A l.length c] w (OwnRes 38 2 encP l w) := by
  have HS := Lib.hid hs
  have HC := Lib.hid hcz
  clear hs hcz
  have hnil := fun (W : World) (A : Option Addr) (n c : Nat) => Lib.run_eql_slice_nil (P := Tryz.prog) W 23 38 A n c 0 0 Tryz.underlying23
  cases A with
  | none =>
    have hm : l = [] := by
      cases l with
      | nil => rfl
      | cons y r => obtain ⟨b, o, e, _⟩ := HS.out (by simp); cases e
    subst hm
    go_enter Tryz.func22, Tryz.ntmps22
    go_wp2
    go_ret
    exact ⟨_, rfl, Own.nil, Below.refl _ _⟩
  | some ad =>
    go_enter Tryz.func22, Tryz.ntmps22
    go_wp2_with (at_builtin; refine app_pcN rfl rfl (Own.made (Nat.le_refl _)) ((Below.refl _ _).alloc (Nat.le_refl _) _) (by simp; omega) (HS.out.alloc _) HC.out (by rfl) (by rfl) ?_; intro v1 w2 hown2 hb2 hg2; have HW2 := Lib.hid hown2; have HB2 := Lib.hid hb2; clear hown2 hb2 hg2)
    go_ret
    exact ⟨_, rfl, by have h := HW2.out; rwa [List.nil_append] at h, HB2.out⟩
end Go.Proofs.YtokelopllbaikaaGreatDoor

/- Repaired pieces, and free names, in plain Lean. -/
set_option linter.unusedVariables false
namespace Go.Proofs.YtokelopllbaikaaGreatDoor
--BEGIN
--END
end Go.Proofs.YtokelopllbaikaaGreatDoor

/- Damaged pieces, walked. -/
set_option linter.unusedVariables false
namespace Go.Proofs.YtokelopllbaikaaGreatDoor
open Go.RowKit

def FitP (l : List Pc) : Prop := ∀ p ∈ l, p.2.size ≤ 16777216
theorem FitP.at {l : List Pc} (h : FitP l) {k : Nat} (hk : k < l.length) : l[k].2.size ≤ 16777216 := h _ (by simp)

end Go.Proofs.YtokelopllbaikaaGreatDoor

/- Trees: levels, roots, proofs. -/
set_option linter.unusedVariables false
namespace Go.Proofs.YtokelopllbaikaaGreatDoor
open Go.RowKit
end Go.Proofs.YtokelopllbaikaaGreatDoor

/- Trees: valid leaves, the root, and the same of texts. -/
set_option linter.unusedVariables false
namespace Go.Proofs.YtokelopllbaikaaGreatDoor
open Go.RowKit

theorem lvlUp_length : ∀ (n : Nat) (l : List Int), l.length ≤ n → (lvlUp l).length = (l.length + 1) / 2
  | 0, l, h => by have : l = [] := List.eq_nil_of_length_eq_zero (by omega); subst this; rfl
  | n + 1, l, h => by
    match l, h with
    | [], _ => rfl
    | [a], _ => simp [lvlUp]
    | a :: b :: r, h =>
      have := lvlUp_length n r (by simp at h; omega)
      simp only [lvlUp, List.length_cons, this]; omega
theorem lvlUp_len (l : List Int) : (lvlUp l).length = (l.length + 1) / 2 := lvlUp_length _ l (Nat.le_refl _)
def lenOf : Value → Nat | .slice _ n _ => n | _ => 0
end Go.Proofs.YtokelopllbaikaaGreatDoor

/- Trees in plain Lean: proofs, roots of proofs; that they meet. -/
set_option linter.unusedVariables false
namespace Go.Proofs.YtokelopllbaikaaGreatDoor

/-- The root to which a proof leads. -/
def rootF : List Int → Int → Nat → Nat → Int
  | [], p, _, m => if 1 < m then -1 else p
  | x :: r, p, n, m =>
    if m = 1 then -1
    else if m ≤ n ^^^ 1 then (if x = -1 then rootF r p (n / 2) ((m + 1) / 2) else -1)
    else if pv x then rootF r (if n % 2 = 0 then prPair p x else prPair x p) (n / 2) ((m + 1) / 2)
    else -1
theorem proofF_done {f : Nat} {m : List Int} {n : Nat} (h : m.length = 1) : proofF f m n = [] := by
  cases f with
  | zero => rfl
  | succ f => rw [proofF, if_neg (by omega)]
theorem proofF_step {f : Nat} {m : List Int} {n : Nat} (h : 1 < m.length) : proofF (f + 1) m n = (if n ^^^ 1 < m.length then m.getD (n ^^^ 1) 0 else -1) :: proofF f (lvlUp m) (n / 2) := by
  rw [proofF, if_pos h]
theorem proofF_len (f : Nat) : ∀ (m : List Int) (n : Nat), (proofF f m n).length ≤ f := by
  induction f with
  | zero => intro m n; simp [proofF]
  | succ f ih =>
    intro m n; rw [proofF]; split
    · simp; exact ih _ _
    · simp
end Go.Proofs.YtokelopllbaikaaGreatDoor

/- Drawn inputs: prints, filters. -/
set_option linter.unusedVariables false
namespace Go.Proofs.YtokelopllbaikaaGreatDoor
open Go.RowKit

def IntIn (lo hi : Int) (v : Value) : Prop := ∃ n : Int, v = .int .i64 n ∧ lo ≤ n ∧ n ≤ hi
theorem three_cells {a b c : Int} (ha : 0 ≤ a ∧ a ≤ 16777212) (hb : 0 ≤ b ∧ b ≤ 16777212) (hc : 0 ≤ c ∧ c ≤ 16777212) (m : Nat) (hm : m < 3) :
    ∃ u : Int, (#[Value.int .i64 a, .int .i64 b, .int .i64 c] : Array Value)[m]? = some (.int .i64 u) ∧ 0 ≤ u ∧ u ≤ 16777212 := by
  match m, hm with
  | 0, _ => exact ⟨a, rfl, ha⟩
  | 1, _ => exact ⟨b, rfl, hb⟩
  | 2, _ => exact ⟨c, rfl, hc⟩

/-- What 'odd(n)' may answer. -/
def OddQ (Q : Bool → Prop) (n : Int) (g p : Nat) : Prop :=
  ∀ W, Rdr W g p → Calls Tryz.prog 50 #[.pointer (some ⟨g, 0, none⟩), .int .i64 n] W fun e w' => ∃ (x : Bool) (p1 : Nat), e = .returned (.bool x) ∧ Q x ∧ Only g W w' ∧ Rdr w' g p1 ∧ p1 ≤ p + 1
theorem oddq_any (n : Int) (g p : Nat) (hp : p ≤ 1000000000) (hn : n ≤ 1000000000) : OddQ (fun _ => True) n g p := fun W hr =>
  (odd_any n g p W hr hp hn).mono fun e w' ⟨x, p', h1, h2, h3, h4⟩ => ⟨x, p', h1, trivial, h2, h3, h4⟩
set_option maxHeartbeats 2000000 in
set_option maxRecDepth 100000 in
theorem l20Print_q (Q : Bool → Prop) (n : Int) (g p : Nat) (w : World) (hr : Rdr w g p) (hp : p ≤ 900000000) (hodd : OddQ Q n g p) :
    Calls Tryz.prog 51 #[.pointer (some ⟨g, 0, none⟩), .int .i64 n] w (Drew (fun v => ∃ x, Q x ∧ if x then IntIn (-1) 16777213 v else IntIn 0 16777212 v) 4 w g p) := by
  have HR := Lib.hid hr
  have HO := Lib.hid hodd
  clear hr hodd
  go_enter Tryz.func51, Tryz.ntmps51
  go_wp2_with fail
  refine (HO.out _ HR.out).mono ?_
  rintro e w1 ⟨x, p1, rfl, hq, ho1, hr1, hp1⟩
  have HQ := Lib.hid hq
  clear hq
  have HR1 := Lib.hid hr1
  have HO1 := Lib.hid ho1
  clear hr1 ho1
  cases x
  · go_wp2_with fail
    refine (pick_any _ _ _ _ HR1.out (by omega) (by omega)).mono ?_
    rintro e w2 ⟨a, rfl, ha, ho2, hr2⟩
    have HR2 := Lib.hid hr2
    have HO2 := Lib.hid ho2
    have ha' : (a : Int) ≤ 99 := by omega
    clear hr2 ho2 ha
    go_wp2_with fail
    refine (pick_any _ _ _ _ HR2.out (by omega) (by omega)).mono ?_
    rintro e w3 ⟨b, rfl, hb, ho3, hr3⟩
    have HR3 := Lib.hid hr3
    have HO3 := Lib.hid ho3
    have hb' : (b : Int) ≤ 255 := by omega
    clear hr3 ho3 hb
    go_wp2_with fail
    refine (pick_int 7 0 2 (HR3.out.alloc _) (by omega) rfl (by omega) (by omega) (by decide)).mono ?_
    rintro e w4 ⟨y, m, rfl, hy, hc, hm0, hm1, ho4, hr4⟩
    obtain ⟨m, rfl⟩ := Int.eq_ofNat_of_zero_le hm0
    have hg3 := HR3.out.lt
    obtain ⟨u, hu, hu0, hu1⟩ := three_cells (a := (a : Int)) (b := (b : Int) * 65000) (c := 16777212) (by omega) (by omega) (by omega) m (by omega)
    have hcu := lit_cell ho4 hg3 hu
    have hc2 : w4.cell? ⟨w3.heap.size + 1, y, none⟩ = some (.int .i64 (m : Int)) := by simpa using hc
    have HR4 := Lib.hid hr4
    have HO4 := Lib.hid (((Only.of_below ((Below.refl _ _).alloc (Nat.le_refl w3.heap.size) _)).trans ho4))
    clear hr4 ho4 hc hu
    go_wp2_with fail
    go_ret
    exact ⟨_, _, rfl, ⟨_, HQ.out, _, rfl, hu0, hu1⟩, HO1.out.trans (HO2.out.trans (HO3.out.trans HO4.out)), HR4.out, by omega⟩
  · go_wp2_with fail
    refine (pick_int 2 (-1) 16777213 HR1.out (by omega) rfl (by omega) (by omega) (by decide)).mono ?_
    rintro e w2 ⟨y, m, rfl, hy, hc, hm0, hm1, ho2, hr2⟩
    have HR2 := Lib.hid hr2
    have HO2 := Lib.hid ho2
    clear hr2 ho2
    go_wp2_with fail
    go_ret
    exact ⟨_, _, rfl, ⟨_, HQ.out, _, rfl, hm0, hm1⟩, HO1.out.trans HO2.out, HR2.out, by omega⟩

theorem IntIn.mono {a b c d : Int} {v : Value} (h : IntIn a b v) (h1 : c ≤ a) (h2 : b ≤ d) : IntIn c d v := by
  obtain ⟨n, e, x, y⟩ := h; exact ⟨n, e, by omega, by omega⟩
theorem Drew.imp {P P' : Value → Prop} {C g p : Nat} {w w' : World} {e : Ending} (h : Drew P C w g p e w') (hP : ∀ v, P v → P' v) : Drew P' C w g p e w' := by
  obtain ⟨v, p', h1, h2, h3⟩ := h; exact ⟨v, p', h1, hP v h2, h3⟩
theorem l20Print_any (n : Int) (g p : Nat) (w : World) (hr : Rdr w g p) (hp : p ≤ 900000000) (hn : n ≤ 1000000000) :
    Calls Tryz.prog 51 #[.pointer (some ⟨g, 0, none⟩), .int .i64 n] w (Drew (IntIn (-1) 16777213) 4 w g p) :=
  (l20Print_q _ n g p w hr hp (oddq_any n g p (by omega) hn)).mono fun e w' h => h.imp fun v ⟨x, _, hv⟩ => by
    cases x
    · exact IntIn.mono hv (by omega) (by omega)
    · exact hv
/-! ### drawn prints -/
end Go.Proofs.YtokelopllbaikaaGreatDoor

/- Versions: copies, sizes, comparisons and marks of their slices, as laws make them. Written by structgen.py. -/
set_option linter.unusedVariables false
namespace Go.Proofs.YtokelopllbaikaaGreatDoor
open Go.RowKit

end Go.Proofs.YtokelopllbaikaaGreatDoor

/- 'append' of one element onto a row of the call's own, telling what else stayed and where the new row lies. -/
set_option linter.unusedVariables false
namespace Go.Proofs.YtokelopllbaikaaGreatDoor
open Go.RowKit

/-- v' owns no block that was there and that v did not own. -/
def Kin (v : Value) (wr : World) (v' : Value) : Prop := ∀ b, b < wr.heap.size → v.ownBlock ≠ some b → v'.ownBlock ≠ some b
def LtA (A : Option Addr) (n : Nat) : Prop := ∀ b o, A = some ⟨b, o, none⟩ → b < n
theorem Apart.kin {A : Option Addr} {v v' : Value} {wr : World} (h : Apart A v) (hA : LtA A wr.heap.size) (hk : Kin v wr v') : Apart A v' := fun b o e => hk b (hA b o e) (h b o e)
theorem LtA.mono {A : Option Addr} {m n : Nat} (h : LtA A m) (hmn : m ≤ n) : LtA A n := fun b o e => Nat.lt_of_lt_of_le (h b o e) hmn
theorem Own.ltA {α : Type} {enc : α → List Value} {w : World} {base size : Nat} {E : TypeId} {A : Option Addr} {n c : Nat} {l : List α} (h : Own w base E size enc (.slice A n c) l) : LtA A w.heap.size := by
  obtain ⟨A', c', e, _, _, hg⟩ := h.sl
  injection e with e1 _ _
  subst e1
  intro b o e
  rcases hg with ⟨_, h⟩ | ⟨g, h, _, hlt⟩
  · rw [h] at e; cases e
  · rw [h] at e; injection e with e; injection e with e1 _; omega
theorem Own.apart {α : Type} {enc : α → List Value} {w : World} {base size : Nat} {E : TypeId} {A : Option Addr} {n c : Nat} {l : List α} (h : Own w base E size enc (.slice A n c) l) {v : Value} (hv : ∀ g, v.ownBlock = some g → g < base) : Apart A v := by
  obtain ⟨A', c', e, _, _, hg⟩ := h.sl
  injection e with e1 _ _
  subst e1
  intro b o e hb
  have := hv b hb
  rcases hg with ⟨_, h⟩ | ⟨g, h, hlo, hlt⟩
  · rw [h] at e; cases e
  · rw [h] at e; injection e with e; injection e with e1 _; omega
theorem wpList_app3 {P : Program} {α : Type} {enc : α → List Value} {ops : Array Oper} {rest : List Oper} {o : Oper} {a : Act} {Q : Exit → Act → World → Prop} {w0 wr : World} {B base size bytes : Nat} {t E : TypeId} {i : TypeInfo} {z : Value} {v : Value} {l : List α}
    (ht : P.underlying t = some (.slice E)) (hi : P.info? E = some i) (hz : i.zero = some z) (hsize : i.size = size) (hby : i.bytes = bytes) (hzs : z.cells.size = size) (hsz : 0 < size) (hb200 : bytes ≤ 256)
    (hgd : o.guard = none) (s x : Operand) (ho : o.op = .call { callee := .builtin .append, args := #[s, x], argTypes := #[t, t] })
    (hs : a.eval s = v) (hx : a.eval x = .slice (some ⟨wr.heap.size, 0, none⟩) 1 1)
    (hown : Own wr base E size enc v l) (hb : Below B w0 wr) (hB : B ≤ base) (hbase : base ≤ wr.heap.size) (hn : l.length ≤ 16777216) (y : α) (cells : Array Value) (hcl : cells = (enc y).toArray) (hce : (enc y).length = size) (h1 : ∀ u ∈ enc y, u.oneCell' = true)
    (h : ∀ v' w', Own w' base E size enc v' (l ++ [y]) → Below B w0 w' → Grew v wr w' → Kin v wr v' → wpList P ops Q rest (a.put o.dst v') w') : wpList P ops Q (o :: rest) a (wr.alloc (.cells cells E)) := by
  subst hcl
  refine wpList_append_own_at _ hgd s x t ho base E i z size bytes ht hi hz hsize hby hzs hsz v l.length (flat enc l) hs (World.ownsRow.alloc hown _) ⟨wr.heap.size, 0, none⟩ 1 1 (enc y) hx (by rw [hce, Nat.one_mul]) ?_ h1 ?_ ?_ ?_ ?_
  · intro j u hu
    have hadd : (⟨wr.heap.size, 0, none⟩ : Addr).add j = ⟨wr.heap.size, j, none⟩ := by unfold Addr.add; split <;> simp_all
    rw [hadd, cell_of_row _ _ j _ E (0, 0) (heap_alloc_new wr _)]
    simpa using hu
  · unfold maxLen; omega
  · have := Nat.mul_le_mul_left (l.length + 1) hb200; omega
  · simp; omega
  · intro v' w' hown' hg _ hat
    refine h v' w' ?_ ((hb.alloc (Nat.le_trans hB hbase) _).grown hg (by simp; omega) (fun k hk => ?_)) ?_ ?_
    · show w'.ownsRow base E size v' (l ++ [y]).length (flat enc (l ++ [y]))
      rw [flat_snoc, List.length_append]; exact hown'
    · exact Nat.le_trans hB (World.ownsRow.lt hown k hk).1
    · exact ⟨hg.os, hg.tape, hg.output, Nat.le_trans (by simp) hg.size, fun k hk hne => (hg.block k (by simp; omega) hne).trans (Below.heap_alloc wr _ k hk)⟩
    · intro b hb2 hne hv'
      rcases hat with hat | hat
      · exact hne (hat ▸ hv')
      · rw [hat] at hv'; injection hv' with e; simp at e; omega
section
variable {ops : Array Oper} {rest : List Oper} {o : Oper} {a : Act} {Q : Exit → Act → World → Prop} {w0 wr : World} {v : Value}
theorem app_pc3 {l : List Pc} {y : Pc} {s x : Operand} (hgd : o.guard = none) (ho : o.op = .call { callee := .builtin .append, args := #[s, x], argTypes := #[23, 23] })
    (hs : a.eval s = v) (hx : a.eval x = .slice (some ⟨wr.heap.size, 0, none⟩) 1 1)
    (hown : Own wr w0.heap.size 38 2 encP v l) (hb : Below w0.heap.size w0 wr) (hn : l.length ≤ 16777216)
    (h : ∀ v' w', Own w' w0.heap.size 38 2 encP v' (l ++ [y]) → Below w0.heap.size w0 w' → Grew v wr w' → Kin v wr v' → wpList Tryz.prog ops Q rest (a.put o.dst v') w') :
    wpList Tryz.prog ops Q (o :: rest) a (wr.alloc (.cells #[.int .i64 y.1, .string y.2] 38)) := by
  obtain ⟨i0, hi0, hz0, hz1, hz2⟩ := info_parts pc_info
  exact wpList_app3 Tryz.underlying23 hi0 hz0 hz1 hz2 rfl (by decide) (by decide) hgd s x ho hs hx hown hb (Nat.le_refl _) hb.size hn y _ rfl rfl (oneP y) h
end
end Go.Proofs.YtokelopllbaikaaGreatDoor
