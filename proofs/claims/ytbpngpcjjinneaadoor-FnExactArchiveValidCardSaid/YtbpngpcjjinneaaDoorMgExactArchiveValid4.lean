/- Written by merge.py: Inv, Ap3, Ps, Ft, Rg, Rj, Gt, Fl, Fw, Fa, Ar, Aw. -/
import Derived.Maps.AppendAt
import Derived.Deep.RegionHeld3
import Derived.Test.YtbpngpcjjinneaaDoorMgExactArchiveValid3
/- Regions that draw their order, by an invariant: one case for each operation, whatever came before it. -/
set_option linter.unusedVariables false
namespace Go.Proofs.YtbpngpcjjinneaaDoor
open Go.RowKit

/-- Each operation waits for earlier ones alone. -/
def afterLow (l : List Oper) : Bool := (List.range l.length).all fun i => ((l[i]?).map fun o => o.after.all fun e => !Region.binds .any e || decide (e.on < i)).getD true
/-- What is asked of each operation: from the invariant to the invariant. -/
def InvSteps (P : Program) (ops : Array Oper) (Q : Exit → Act → World → Prop) (J : (Nat → Bool) → Act → World → Prop) : Nat → List Oper → Prop
  | _, [] => True
  | i, o :: r => (∀ (d : Nat → Bool) (a : Act) (w : World) (K : Act → World → Prop), d i = false → (∀ e ∈ o.after, Region.binds .any e = true → d e.on = true) → J d a w → (∀ a' w', J (fun j => j == i || d j) a' w' → K a' w') →
      if Region.wanted o (yielded ops a.tmps) = true then o.wp P a w K Q else K (a.put o.dst undef) w) ∧ InvSteps P ops Q J (i + 1) r
theorem InvSteps.at {P : Program} {ops : Array Oper} {Q : Exit → Act → World → Prop} {J : (Nat → Bool) → Act → World → Prop} : ∀ (l : List Oper) (k i : Nat) (o : Oper), InvSteps P ops Q J k l → l[i]? = some o →
    ∀ (d : Nat → Bool) (a : Act) (w : World) (K : Act → World → Prop), d (k + i) = false → (∀ e ∈ o.after, Region.binds .any e = true → d e.on = true) → J d a w → (∀ a' w', J (fun j => j == k + i || d j) a' w' → K a' w') →
      if Region.wanted o (yielded ops a.tmps) = true then o.wp P a w K Q else K (a.put o.dst undef) w
  | [], _, _, _, _, h => by simp at h
  | x :: r, k, 0, o, hs, h => by
    simp at h; subst h; exact hs.1
  | x :: r, k, i + 1, o, hs, h => by
    have h1 := InvSteps.at r (k + 1) i o hs.2 (by simpa using h)
    have e : k + 1 + i = k + (i + 1) := by omega
    rw [e] at h1; exact h1
theorem dn_set {listed : Array Bool} {i : Nat} (hi : i < listed.size) : (fun j => (listed.setIfInBounds i true).getD j false) = fun j => j == i || listed.getD j false := by
  funext j
  by_cases e : j = i
  · subst e; simp [hi]
  · have hij : i ≠ j := fun h => e h.symm
    rw [getD_set_ne false hij]; simp [e]
theorem count_set {n : Nat} {listed : Array Bool} {i : Nat} (hs : listed.size = n) (hi : i < n) (h : listed.getD i false = false) :
    (List.range n).countP (fun j => !(listed.setIfInBounds i true).getD j false) + 1 = (List.range n).countP (fun j => !listed.getD j false) := by
  have hf := dn_set (listed := listed) (i := i) (by omega)
  have e : (fun j => !(listed.setIfInBounds i true).getD j false) = fun j => !(j == i || listed.getD j false) := by
    funext j; exact congrArg (fun b => !b) (congrFun hf j)
  rw [e]
  have aux : ∀ l : List Nat, l.Nodup → i ∈ l → l.countP (fun j => !(j == i || listed.getD j false)) + 1 = l.countP (fun j => !listed.getD j false) := by
    intro l
    induction l with
    | nil => intro _ hm; simp at hm
    | cons x r ih =>
      intro hnd hm
      rw [List.nodup_cons] at hnd
      rw [List.countP_cons, List.countP_cons]
      by_cases hx : x = i
      · subst hx
        have hr : r.countP (fun j => !(j == x || listed.getD j false)) = r.countP (fun j => !listed.getD j false) := by
          refine List.countP_congr fun y hy => ?_
          have : y ≠ x := fun e => hnd.1 (e ▸ hy)
          simp [this]
        rw [hr]; simp [h]
      · have hm' : i ∈ r := by
          rcases List.mem_cons.1 hm with e | e
          · exact absurd e.symm hx
          · exact e
        have := ih hnd.2 hm'
        have e2 : (x == i) = false := by simpa using hx
        simp only [e2, Bool.false_or]
        omega
  exact aux _ List.nodup_range (List.mem_range.2 hi)
theorem wpAny_inv {P : Program} {l : List Oper} {Q : Exit → Act → World → Prop} (J : (Nat → Bool) → Act → World → Prop) (hlow : afterLow l = true) (hs : InvSteps P l.toArray Q J 0 l)
    (hend : ∀ d a w, (∀ i, i < l.length → d i = true) → J d a w → Q .normal a w) :
    ∀ (fuel : Nat) (listed : Array Bool) (a : Act) (w : World), listed.size = l.length → (List.range l.length).countP (fun j => !listed.getD j false) ≤ fuel → J (fun j => listed.getD j false) a w → wpAny P .any l.toArray Q fuel listed a w := by
  have hbinds : ∀ e, Region.binds .any e = true ∨ Region.binds .any e = false := fun e => by cases Region.binds .any e <;> simp
  -- where nothing can come up, all has come up
  have hall : ∀ listed : Array Bool, listed.size = l.length → Region.ready .any l.toArray listed = [] → ∀ i, i < l.length → listed.getD i false = true := by
    intro listed hsz hr i
    induction i using Nat.strongRecOn with
    | _ i ih =>
      intro hi
      by_cases h : listed.getD i false = true
      · exact h
      · exfalso
        have hm : i ∈ Region.ready .any l.toArray listed := by
          rw [mem_ready]
          refine ⟨?_, l[i], by simp [hi], fun e he hbe => ?_⟩
          · have hh : listed.getD i false = false := by simpa using h
            rw [Array.getD_eq_getD_getElem?, Array.getElem?_eq_getElem (by omega)] at hh ⊢; simpa using hh
          · unfold afterLow at hlow
            rw [List.all_eq_true] at hlow
            have h1 := hlow i (List.mem_range.2 hi)
            rw [List.getElem?_eq_getElem hi] at h1
            simp only [Option.map_some, Option.getD_some] at h1
            have h3 := Array.all_eq_true_iff_forall_mem.1 h1 e he
            rw [hbe, Bool.not_true, Bool.false_or] at h3
            have h2 := of_decide_eq_true h3
            exact ih _ h2 (by omega)
        rw [hr] at hm; simp at hm
  intro fuel
  induction fuel with
  | zero =>
    intro listed a w hsz hc hJ
    have hz : ∀ i, i < l.length → listed.getD i false = true := by
      intro i hi
      have h0 : (List.range l.length).countP (fun j => !listed.getD j false) = 0 := by omega
      rw [List.countP_eq_zero] at h0
      simpa using h0 i (List.mem_range.2 hi)
    refine ⟨?_, hend _ a w hz hJ⟩
    cases hr : Region.ready .any l.toArray listed with
    | nil => rfl
    | cons x r =>
      exfalso
      have hm : x ∈ Region.ready .any l.toArray listed := by rw [hr]; simp
      rw [mem_ready] at hm
      obtain ⟨h1, o, ho, _⟩ := hm
      have hx : x < l.length := by
        have := (Array.getElem?_eq_some_iff.1 ho).1; simpa using this
      have h2 := hz x hx
      rw [Array.getD_eq_getD_getElem?, Array.getElem?_eq_getElem (by omega)] at h1 h2
      simp at h1 h2; rw [h1] at h2; cases h2
  | succ fuel ih =>
    intro listed a w hsz hc hJ
    refine ⟨fun hr => hend _ a w (hall listed hsz hr) hJ, fun i hi => ?_⟩
    rw [mem_ready] at hi
    obtain ⟨h1, o, ho, haft⟩ := hi
    have hx : i < l.length := by
      have := (Array.getElem?_eq_some_iff.1 ho).1; simpa using this
    have hd : listed.getD i false = false := by
      rw [Array.getD_eq_getD_getElem?, Array.getElem?_eq_getElem (by omega)] at h1 ⊢; simpa using h1
    have hlo : l[i]? = some o := by simpa using ho
    have hcnt := count_set hsz hx hd
    have hstep := InvSteps.at l 0 i o hs hlo (fun j => listed.getD j false) a w (wpAny P .any l.toArray Q fuel (listed.setIfInBounds i true)) (by simpa using hd) haft hJ (fun a' w' hJ' => by
      refine ih _ a' w' (by simpa using hsz) (by omega) ?_
      rw [dn_set (by omega)]
      simpa using hJ')
    unfold wpOp
    simp only [ho]
    split
    · rename_i hw; rw [if_pos hw] at hstep; exact .inl hstep
    · rename_i hw; rw [if_neg hw] at hstep; exact hstep
/-- **A region that draws its order, by an invariant**: 'd' says which operations have come up. -/
theorem wp_region_inv {P : Program} {id : Nat} {Q : Exit → Act → World → Prop} {a : Act} {w : World} {l : List Oper} (hm : P.follows .mixedOrders = true) (hlow : afterLow l = true)
    (J : Act → (Nat → Bool) → Act → World → Prop) (h0 : J a (fun _ => false) a w.drew) (hs : InvSteps P l.toArray Q (J a) 0 l) (hend : ∀ d a' w', (∀ i, i < l.length → d i = true) → J a d a' w' → Q .normal a' w') :
    (Code.region id l.toArray true).wp P Q a w := by
  refine wp_region_any hm (wpAny_inv (J a) hlow hs hend _ _ _ _ (by simp) ?_ ?_)
  · refine Nat.le_trans List.countP_le_length ?_; simp
  · have e : (fun j => (Array.replicate l.toArray.size false).getD j false) = fun _ => false := by
      funext j
      rw [Array.getD_eq_getD_getElem?, Array.getElem?_replicate]
      split <;> rfl
    rw [e]; exact h0
end Go.Proofs.YtbpngpcjjinneaaDoor

/- 'append' of one element onto a row of the call's own, telling what else stayed and where the new row lies. -/
set_option linter.unusedVariables false
namespace Go.Proofs.YtbpngpcjjinneaaDoor
open Go.RowKit

/-- v' owns no block that was there and that v did not own. -/
def Kin (v : Value) (wr : World) (v' : Value) : Prop := ∀ b, b < wr.heap.size → v.ownBlock ≠ some b → v'.ownBlock ≠ some b
def LtA (A : Option Addr) (n : Nat) : Prop := ∀ b o, A = some ⟨b, o, none⟩ → b < n
theorem Apart.kin {A : Option Addr} {v v' : Value} {wr : World} (h : Apart A v) (hA : LtA A wr.heap.size) (hk : Kin v wr v') : Apart A v' := fun b o e => hk b (hA b o e) (h b o e)
theorem LtA.mono {A : Option Addr} {m n : Nat} (h : LtA A m) (hmn : m ≤ n) : LtA A n := fun b o e => Nat.lt_of_lt_of_le (h b o e) hmn
theorem Own.ltA {α : Type} {enc : α → List Value} {w : World} {base size : Nat} {E : TypeId} {A : Option Addr} {n c : Nat} {l : List α} (h : Own w base E size enc (.slice A n c) l) : LtA A w.heap.size := by
  obtain ⟨A', c', e, _, _, hg⟩ := h.sl
  injection e with e1 _ _
  subst e1
  intro b o e
  rcases hg with ⟨_, h⟩ | ⟨g, h, _, hlt⟩
  · rw [h] at e; cases e
  · rw [h] at e; injection e with e; injection e with e1 _; omega
theorem Own.apart {α : Type} {enc : α → List Value} {w : World} {base size : Nat} {E : TypeId} {A : Option Addr} {n c : Nat} {l : List α} (h : Own w base E size enc (.slice A n c) l) {v : Value} (hv : ∀ g, v.ownBlock = some g → g < base) : Apart A v := by
  obtain ⟨A', c', e, _, _, hg⟩ := h.sl
  injection e with e1 _ _
  subst e1
  intro b o e hb
  have := hv b hb
  rcases hg with ⟨_, h⟩ | ⟨g, h, hlo, hlt⟩
  · rw [h] at e; cases e
  · rw [h] at e; injection e with e; injection e with e1 _; omega
theorem wpList_app3 {P : Program} {α : Type} {enc : α → List Value} {ops : Array Oper} {rest : List Oper} {o : Oper} {a : Act} {Q : Exit → Act → World → Prop} {w0 wr : World} {B base size bytes : Nat} {t E : TypeId} {i : TypeInfo} {z : Value} {v : Value} {l : List α}
    (ht : P.underlying t = some (.slice E)) (hi : P.info? E = some i) (hz : i.zero = some z) (hsize : i.size = size) (hby : i.bytes = bytes) (hzs : z.cells.size = size) (hsz : 0 < size) (hb200 : bytes ≤ 256)
    (hgd : o.guard = none) (s x : Operand) (ho : o.op = .call { callee := .builtin .append, args := #[s, x], argTypes := #[t, t] })
    (hs : a.eval s = v) (hx : a.eval x = .slice (some ⟨wr.heap.size, 0, none⟩) 1 1)
    (hown : Own wr base E size enc v l) (hb : Below B w0 wr) (hB : B ≤ base) (hbase : base ≤ wr.heap.size) (hn : l.length ≤ 16777216) (y : α) (cells : Array Value) (hcl : cells = (enc y).toArray) (hce : (enc y).length = size) (h1 : ∀ u ∈ enc y, u.oneCell' = true)
    (h : ∀ v' w', Own w' base E size enc v' (l ++ [y]) → Below B w0 w' → Grew v wr w' → Kin v wr v' → wpList P ops Q rest (a.put o.dst v') w') : wpList P ops Q (o :: rest) a (wr.alloc (.cells cells E)) := by
  subst hcl
  refine wpList_append_own_at _ hgd s x t ho base E i z size bytes ht hi hz hsize hby hzs hsz v l.length (flat enc l) hs (World.ownsRow.alloc hown _) ⟨wr.heap.size, 0, none⟩ 1 1 (enc y) hx (by rw [hce, Nat.one_mul]) ?_ h1 ?_ ?_ ?_ ?_
  · intro j u hu
    have hadd : (⟨wr.heap.size, 0, none⟩ : Addr).add j = ⟨wr.heap.size, j, none⟩ := by unfold Addr.add; split <;> simp_all
    rw [hadd, cell_of_row _ _ j _ E (0, 0) (heap_alloc_new wr _)]
    simpa using hu
  · unfold maxLen; omega
  · have := Nat.mul_le_mul_left (l.length + 1) hb200; omega
  · simp; omega
  · intro v' w' hown' hg _ hat
    refine h v' w' ?_ ((hb.alloc (Nat.le_trans hB hbase) _).grown hg (by simp; omega) (fun k hk => ?_)) ?_ ?_
    · show w'.ownsRow base E size v' (l ++ [y]).length (flat enc (l ++ [y]))
      rw [flat_snoc, List.length_append]; exact hown'
    · exact Nat.le_trans hB (World.ownsRow.lt hown k hk).1
    · exact ⟨hg.os, hg.tape, hg.output, Nat.le_trans (by simp) hg.size, fun k hk hne => (hg.block k (by simp; omega) hne).trans (Below.heap_alloc wr _ k hk)⟩
    · intro b hb2 hne hv'
      rcases hat with hat | hat
      · exact hne (hat ▸ hv')
      · rw [hat] at hv'; injection hv' with e; simp at e; omega
section
variable {ops : Array Oper} {rest : List Oper} {o : Oper} {a : Act} {Q : Exit → Act → World → Prop} {w0 wr : World} {v : Value}
theorem app_str3 {l : List ByteArray} {y : ByteArray} {s x : Operand} (hgd : o.guard = none) (ho : o.op = .call { callee := .builtin .append, args := #[s, x], argTypes := #[49, 49] })
    (hs : a.eval s = v) (hx : a.eval x = .slice (some ⟨wr.heap.size, 0, none⟩) 1 1)
    (hown : Own wr w0.heap.size 9 1 encS v l) (hb : Below w0.heap.size w0 wr) (hn : l.length ≤ 16777216)
    (h : ∀ v' w', Own w' w0.heap.size 9 1 encS v' (l ++ [y]) → Below w0.heap.size w0 w' → Grew v wr w' → Kin v wr v' → wpList Tryd.prog ops Q rest (a.put o.dst v') w') :
    wpList Tryd.prog ops Q (o :: rest) a (wr.alloc (.cells #[.string y] 9)) := by
  obtain ⟨i0, hi0, hz0, hz1, hz2⟩ := info_parts str_info
  exact wpList_app3 Tryd.underlying49 hi0 hz0 hz1 hz2 rfl (by decide) (by decide) hgd s x ho hs hx hown hb (Nat.le_refl _) hb.size hn y _ rfl rfl (by intro u hu; simp [encS] at hu; subst hu; rfl) h
theorem app_pc3 {l : List Pc} {y : Pc} {s x : Operand} (hgd : o.guard = none) (ho : o.op = .call { callee := .builtin .append, args := #[s, x], argTypes := #[37, 37] })
    (hs : a.eval s = v) (hx : a.eval x = .slice (some ⟨wr.heap.size, 0, none⟩) 1 1)
    (hown : Own wr w0.heap.size 79 2 encP v l) (hb : Below w0.heap.size w0 wr) (hn : l.length ≤ 16777216)
    (h : ∀ v' w', Own w' w0.heap.size 79 2 encP v' (l ++ [y]) → Below w0.heap.size w0 w' → Grew v wr w' → Kin v wr v' → wpList Tryd.prog ops Q rest (a.put o.dst v') w') :
    wpList Tryd.prog ops Q (o :: rest) a (wr.alloc (.cells #[.int .i64 y.1, .string y.2] 79)) := by
  obtain ⟨i0, hi0, hz0, hz1, hz2⟩ := info_parts pc_info
  exact wpList_app3 Tryd.underlying37 hi0 hz0 hz1 hz2 rfl (by decide) (by decide) hgd s x ho hs hx hown hb (Nat.le_refl _) hb.size hn y _ rfl rfl (oneP y) h
end
end Go.Proofs.YtbpngpcjjinneaaDoor

/- PutText of the reference, walked. Written by gen_ps.py. -/
set_option linter.unusedVariables false
namespace Go.Proofs.YtbpngpcjjinneaaDoor
open Go.RowKit
attribute [local go_sem] mk_toList

section
variable {ops : Array Oper} {o : Oper} {a : Act} {K : Act → World → Prop} {Q : Exit → Act → World → Prop} {E' : Prop} {w0 wr : World} {v : Value}
set_option maxRecDepth 100000 in
theorem step_pcK {l m : List Pc} {A : Option Addr} {c : Nat} {s x : Operand} (hgd : o.guard = none) (ho : o.op = .call { callee := .builtin .append, args := #[s, x], argTypes := #[37, 37] })
    (hown : Own wr w0.heap.size 79 2 encP v l) (hb : Below w0.heap.size w0 wr) (hn : l.length + m.length ≤ 33554432) (hsl : Sl wr encP 2 A m) (hcz : A = none → c = 0)
    (hs : a.eval s = v) (hx : a.eval x = .slice A m.length c)
    (h : ∀ v' w', Own w' w0.heap.size 79 2 encP v' (l ++ m) → Below w0.heap.size w0 w' → Grew v wr w' → Kin v wr v' → K (a.put o.dst v') w') : if Region.wanted o (yielded ops a.tmps) = true then Oper.wp Tryd.prog o a wr K Q else E' := by
  obtain ⟨i0, hi0, hz0, hz1, hz2⟩ := info_parts pc_info
  have hw : Region.wanted o (yielded ops a.tmps) = true := by simp [Region.wanted, hgd]
  rw [if_pos hw]
  cases A with
  | none =>
    have hm : m = [] := by
      cases m with
      | nil => rfl
      | cons y r => obtain ⟨b, o, e, _⟩ := hsl (by simp); cases e
    subst hm
    rw [hcz rfl] at hx
    have hrun := run_append_owned_none (P := Tryd.prog) (w := wr) w0.heap.size 37 o.type 79 i0 2 Tryd.underlying37 hi0 v l.length (flat encP l) hown
    have hK := h v wr (by rw [List.append_nil]; exact hown) hb (Grew.refl _ _) (fun b _ h => h)
    simp at hx
    unfold Oper.wp
    simp [execOp, ho, resolve, invoke, builtin, hs, hx, hrun, Result.andThen]
    exact hK
  | some ad =>
    obtain ⟨v', w', hr, h2, h3, h4, h5⟩ := run_append_own_at (P := Tryd.prog) wr w0.heap.size 37 o.type 79 i0 _ 2 24 Tryd.underlying37 hi0 hz0 hz1 hz2 rfl (by decide) v l.length (flat encP l) hown ad m.length c (flat encP m) (flat_length (enc := encP) (size := 2) (fun _ => rfl) m) (by
        intro j u hu
        have hpos : 0 < m.length := by
          have hlt := (List.getElem?_eq_some_iff.1 hu).1
          rw [flat_length (enc := encP) (size := 2) (fun _ => rfl)] at hlt
          cases m with
          | nil => simp at hlt
          | cons y r => simp
        obtain ⟨b, o', e, hc⟩ := hsl hpos
        injection e with e
        subst e
        have hadd : (⟨b, o', none⟩ : Addr).add j = ⟨b, o' + j, none⟩ := by unfold Addr.add; split <;> simp_all
        rw [hadd]; exact hc j u hu) (by
        intro u hu
        unfold flat at hu
        obtain ⟨y, _, hy⟩ := List.mem_flatMap.1 hu
        exact oneP y u hy) (by unfold maxLen; omega) (by omega) hb.size
    unfold Oper.wp execOp
    simp only [ho, resolve, invoke, builtin, Sem.run_bind, Sem.run_pure, Result.andThen_ok, List.map_toArray, List.map_cons, List.map_nil, hs, hx, hr]
    refine h v' w' ?_ (hb.grown h3 hb.size (fun k hk => (World.ownsRow.lt hown k hk).1)) h3 ?_
    · show w'.ownsRow _ _ _ v' (l ++ m).length (flat encP (l ++ m))
      rw [flat_append, List.length_append]; exact h2
    · intro b hb2 hne hv'
      rcases h5 with h5 | h5
      · exact hne (h5 ▸ hv')
      · rw [h5] at hv'; injection hv' with e; omega
end
theorem own_sh {w : World} {base : Nat} {v : Value} {l : List Pc} (h : Own w base 79 2 encP v l) : ∃ A c, v = .slice A l.length c := let ⟨A, c, e, _⟩ := h.sl; ⟨A, c, e⟩
/-- What is known of the region's slots, as far as they are set. -/
structure PtJ (w1 : World) (A : Option Addr) (n c k : Nat) (l : List Pc) (p : Int) (t : ByteArray) (d : Nat → Bool) (u77 u78 u79 u80 u81 u82 u83 u84 u85 u86 u87 u88 u89 u90 u91 u4 u5 u6 : Value) (W : World) : Prop where
  b : Below w1.heap.size w1 W
  o4 : d 4 = true → d 0 = true ∧ d 3 = true
  o9 : d 9 = true → d 4 = true ∧ d 8 = true
  o13 : d 13 = true → d 9 = true ∧ d 12 = true
  o15 : d 15 = true → d 13 = true
  c0 : d 0 = true → d 4 = false → Own W w1.heap.size 79 2 encP u77 []
  c1 : d 1 = true → u78 = .slice A n c
  c2 : d 2 = true → u79 = .int .i64 (k : Int)
  c3 : d 3 = true → ∃ A' c', u80 = .slice A' (l.take k).length c' ∧ (A' = none → c' = 0) ∧ Sl w1 encP 2 A' (l.take k)
  c4 : d 4 = true → d 9 = false → Own W w1.heap.size 79 2 encP u81 (l.take k)
  c5 : d 5 = true → u82 = .int .i64 p
  c6 : d 6 = true → u83 = .string t
  c7 : d 7 = true → u84 = .agg #[.int .i64 p, .string t]
  c8 : d 8 = true → d 9 = false → ∃ g, u85 = .slice (some ⟨g, 0, none⟩) 1 1 ∧ g < W.heap.size ∧ Sl W encP 2 (some ⟨g, 0, none⟩) [(p, t)] ∧ (d 0 = true → d 4 = false → u77.ownBlock ≠ some g) ∧ (d 4 = true → u81.ownBlock ≠ some g)
  c9 : d 9 = true → d 13 = false → Own W w1.heap.size 79 2 encP u86 (l.take k ++ [(p, t)])
  c10 : d 10 = true → u87 = .slice A n c
  c11 : d 11 = true → u88 = .int .i64 (k : Int)
  c12 : d 12 = true → ∃ A' c', u89 = .slice A' (l.drop k).length c' ∧ (A' = none → c' = 0) ∧ Sl w1 encP 2 A' (l.drop k)
  c13 : d 13 = true → Own W w1.heap.size 79 2 encP u90 (l.take k ++ [(p, t)] ++ l.drop k)
  c14 : d 14 = true → u91 = .int .i64 p
  c15 : d 15 = true → u4 = u90
  c16 : d 16 = true → u5 = .int .i64 p
  c17 : d 17 = true → u6 = .bool true

section
variable {w1 : World} {A : Option Addr} {n c k : Nat} {l : List Pc} {p : Int} {t : ByteArray} {d : Nat → Bool} {u77 u78 u79 u80 u81 u82 u83 u84 u85 u86 u87 u88 u89 u90 u91 u4 u5 u6 : Value} {W W' : World} {v' : Value}
theorem PtJ.step0 (h : PtJ w1 A n c k l p t d u77 u78 u79 u80 u81 u82 u83 u84 u85 u86 u87 u88 u89 u90 u91 u4 u5 u6 W) (h0 : d 0 = false) : PtJ w1 A n c k l p t (fun j => j == 0 || d j) (.slice (some ⟨W.heap.size, 0, none⟩) 0 0) u78 u79 u80 u81 u82 u83 u84 u85 u86 u87 u88 u89 u90 u91 u4 u5 u6 (W.alloc (.cells #[] 79)) := by
  have h4 : d 4 = false := by
    cases e : d 4
    · rfl
    · rw [(h.o4 e).1] at h0; cases h0
  have h9 : d 9 = false := by
    cases e : d 9
    · rfl
    · rw [(h.o9 e).1] at h4; cases h4
  have h13 : d 13 = false := by
    cases e : d 13
    · rfl
    · rw [(h.o13 e).1] at h9; cases h9
  exact { h with
    b := h.b.alloc h.b.size _
    o4 := fun e => by rw [show (4 == 0 || d 4) = d 4 from rfl, h4] at e; cases e
    c0 := fun _ _ => Own.made h.b.size
    c4 := fun e => by rw [show (4 == 0 || d 4) = d 4 from rfl, h4] at e; cases e
    c8 := fun e1 e2 => by
      obtain ⟨g, e, hg, hs, _, hq⟩ := h.c8 e1 e2
      exact ⟨g, e, by simp; omega, hs.alloc _, fun _ _ e => (by have e2 : W.heap.size = g := (by simpa [Value.ownBlock] using e); omega), hq⟩
    c9 := fun e => by rw [show (9 == 0 || d 9) = d 9 from rfl, h9] at e; cases e
    c13 := fun e => by rw [show (13 == 0 || d 13) = d 13 from rfl, h13] at e; cases e }
theorem PtJ.step4 (h : PtJ w1 A n c k l p t d u77 u78 u79 u80 u81 u82 u83 u84 u85 u86 u87 u88 u89 u90 u91 u4 u5 u6 W) (h0 : d 0 = true) (h3 : d 3 = true) (h4 : d 4 = false) (hown : Own W' w1.heap.size 79 2 encP v' ([] ++ l.take k)) (hb : Below w1.heap.size w1 W') (hg : Grew u77 W W') (hk : Kin u77 W v') :
    PtJ w1 A n c k l p t (fun j => j == 4 || d j) u77 u78 u79 u80 v' u82 u83 u84 u85 u86 u87 u88 u89 u90 u91 u4 u5 u6 W' := by
  have h9 : d 9 = false := by
    cases e : d 9
    · rfl
    · rw [(h.o9 e).1] at h4; cases h4
  have h13 : d 13 = false := by
    cases e : d 13
    · rfl
    · rw [(h.o13 e).1] at h9; cases h9
  exact { h with
    b := hb
    o4 := fun _ => ⟨h0, h3⟩
    o9 := fun e => by rw [show (9 == 4 || d 9) = d 9 from rfl, h9] at e; cases e
    c0 := fun _ e => by cases e
    c4 := fun _ _ => by rw [List.nil_append] at hown; exact hown
    c8 := fun e1 e2 => by
      obtain ⟨g, e, hgl, hs, hp, _⟩ := h.c8 e1 e2
      have hne := hp h0 h4
      exact ⟨g, e, Nat.lt_of_lt_of_le hgl hg.size, hs.grew hg (fun b o e => by injection e with e; injection e with e; subst e; exact hne), (fun _ e => by cases e), (fun _ => hk g hgl hne)⟩
    c9 := fun e => by rw [show (9 == 4 || d 9) = d 9 from rfl, h9] at e; cases e
    c13 := fun e => by rw [show (13 == 4 || d 13) = d 13 from rfl, h13] at e; cases e }
theorem PtJ.step8 (h : PtJ w1 A n c k l p t d u77 u78 u79 u80 u81 u82 u83 u84 u85 u86 u87 u88 u89 u90 u91 u4 u5 u6 W) (h8 : d 8 = false) : PtJ w1 A n c k l p t (fun j => j == 8 || d j) u77 u78 u79 u80 u81 u82 u83 u84 (.slice (some ⟨W.heap.size, 0, none⟩) 1 1) u86 u87 u88 u89 u90 u91 u4 u5 u6 (W.alloc (.cells #[.int .i64 p, .string t] 79)) := by
  have h9 : d 9 = false := by
    cases e : d 9
    · rfl
    · rw [(h.o9 e).2] at h8; cases h8
  have h13 : d 13 = false := by
    cases e : d 13
    · rfl
    · rw [(h.o13 e).1] at h9; cases h9
  exact { h with
    b := h.b.alloc h.b.size _
    o9 := fun e => by rw [show (9 == 8 || d 9) = d 9 from rfl, h9] at e; cases e
    c0 := fun e1 e2 => (h.c0 e1 e2).alloc _
    c4 := fun e1 e2 => (h.c4 e1 e2).alloc _
    c8 := fun _ _ => ⟨W.heap.size, rfl, by simp, one_sl (x := (p, t)) (heap_alloc_new W _), (fun e1 e2 e => by have := ((h.c0 e1 e2).blk _ e).2; omega), (fun e1 e => by have := ((h.c4 e1 h9).blk _ e).2; omega)⟩
    c9 := fun e => by rw [show (9 == 8 || d 9) = d 9 from rfl, h9] at e; cases e
    c13 := fun e => by rw [show (13 == 8 || d 13) = d 13 from rfl, h13] at e; cases e }
theorem PtJ.step9 (h : PtJ w1 A n c k l p t d u77 u78 u79 u80 u81 u82 u83 u84 u85 u86 u87 u88 u89 u90 u91 u4 u5 u6 W) (h4 : d 4 = true) (h8 : d 8 = true) (h9 : d 9 = false) (hown : Own W' w1.heap.size 79 2 encP v' (l.take k ++ [(p, t)])) (hb : Below w1.heap.size w1 W') :
    PtJ w1 A n c k l p t (fun j => j == 9 || d j) u77 u78 u79 u80 u81 u82 u83 u84 u85 v' u87 u88 u89 u90 u91 u4 u5 u6 W' := by
  have h13 : d 13 = false := by
    cases e : d 13
    · rfl
    · rw [(h.o13 e).1] at h9; cases h9
  exact { h with
    b := hb
    o9 := fun _ => ⟨h4, h8⟩
    o13 := fun e => by rw [show (13 == 9 || d 13) = d 13 from rfl, h13] at e; cases e
    c0 := fun _ e => by rw [show (4 == 9 || d 4) = d 4 from rfl, h4] at e; cases e
    c4 := fun _ e => by cases e
    c8 := fun _ e => by cases e
    c9 := fun _ _ => hown
    c13 := fun e => by rw [show (13 == 9 || d 13) = d 13 from rfl, h13] at e; cases e }
theorem PtJ.step13 (h : PtJ w1 A n c k l p t d u77 u78 u79 u80 u81 u82 u83 u84 u85 u86 u87 u88 u89 u90 u91 u4 u5 u6 W) (h9 : d 9 = true) (h12 : d 12 = true) (h13 : d 13 = false) (hown : Own W' w1.heap.size 79 2 encP v' (l.take k ++ [(p, t)] ++ l.drop k)) (hb : Below w1.heap.size w1 W') :
    PtJ w1 A n c k l p t (fun j => j == 13 || d j) u77 u78 u79 u80 u81 u82 u83 u84 u85 u86 u87 u88 u89 v' u91 u4 u5 u6 W' := by
  have h4 := (h.o9 h9).1
  have h15 : d 15 = false := by
    cases e : d 15
    · rfl
    · rw [h.o15 e] at h13; cases h13
  exact { h with
    b := hb
    o15 := fun e => by rw [show (15 == 13 || d 15) = d 15 from rfl, h15] at e; cases e
    c15 := fun e => by rw [show (15 == 13 || d 15) = d 15 from rfl, h15] at e; cases e
    o13 := fun _ => ⟨h9, h12⟩
    c0 := fun _ e => by rw [show (4 == 13 || d 4) = d 4 from rfl, h4] at e; cases e
    c4 := fun _ e => by rw [show (9 == 13 || d 9) = d 9 from rfl, h9] at e; cases e
    c8 := fun _ e => by rw [show (9 == 13 || d 9) = d 9 from rfl, h9] at e; cases e
    c9 := fun _ e => by cases e
    c13 := fun _ => hown }
theorem Sl.dropP {w : World} {b o : Nat} {l : List Pc} {k : Nat} (h : Sl w encP 2 (some ⟨b, o, none⟩) l) (hk : k ≤ l.length) : Sl w encP 2 (some ⟨b, o + k * 2, none⟩) (l.drop k) := by
  intro hn
  obtain ⟨b', o', e, hc⟩ := h (by rw [List.length_drop] at hn; omega)
  injection e with e; injection e with e1 e2
  subst e1 e2
  refine ⟨b, o + k * 2, rfl, fun j u hu => ?_⟩
  rw [(flat_take (enc := encP) (k := 2) (fun _ => rfl) l k hk).2, List.getElem?_drop] at hu
  have := hc _ u hu
  rw [← Nat.add_assoc] at this; exact this
end
set_option maxHeartbeats 2000000 in
set_option maxRecDepth 100000 in
theorem sPutText_any (A : Option Addr) (c : Nat) (l : List Pc) (t : ByteArray) (w : World) (hs : Sl w encP 2 A l) (hcz : A = none → c = 0) (hle : l.length ≤ c) (hl : l.length ≤ 16777216) (hf : FitP l) (ht : t.size ≤ 16777216) :
    Calls Tryd.prog 55 #[.slice A l.length c, .string t] w (PutRes (putT l t) w) := by
  have HS := Lib.hid hs
  have HCZ := Lib.hid hcz
  have hsv := fun w h => sStoreValid_any A c l w h hl hf
  have hPO := fun w => sPrintOf_any t w ht
  cases hv : storeV l
  case false =>
    have E := Lib.hid (putT_bad (t := t) hv)
    rw [hv] at hsv
    have HSV := Lib.hid hsv
    clear hsv hs hcz hPO
    unfold PutRes
    go_enter Tryd.func55, Tryd.ntmps55
    go_wp2_with fail
    refine (HSV.out _ HS.out).mono ?_
    rintro e w1 ⟨rfl, hb⟩
    have HB := Lib.hid (hb.alloc hb.size (.cells #[] 79))
    have HM := Lib.hid (Own.made (enc := encP) (E := 79) (size := 2) hb.size)
    clear hb
    go_wp2
    go_ret3
    rw [E.out]
    exact ⟨_, rfl, HM.out, HB.out⟩
  case true =>
    rw [hv] at hsv
    have HSV := Lib.hid hsv
    have E0 := Lib.hid (fun h => putT_text (t := t) hv h)
    have E1 := Lib.hid (fun h h2 => putT_there (t := t) hv h h2)
    have E2 := Lib.hid (fun u h h2 => putT_clash (t := t) (u := u) hv h h2)
    have E3 := Lib.hid (fun h h2 => putT_full (t := t) hv h h2)
    have E4 := Lib.hid (fun h h2 => putT_new (t := t) hv h h2)
    have hgh := fun p => getT_here (storeV_sorted hv) (p := p)
    unfold tx at E0 E1 E2 E3 E4
    have hp0 := @prOf_bad (bs t)
    have hp1 := @prOf_pv (bs t)
    have hpb := prOf_bd (bs t)
    generalize prOf (bs t) = p at *
    generalize textV (bs t) = tv at *
    have hgh := hgh p
    have HGH := Lib.hid hgh
    have HPO := Lib.hid hPO
    have HP0 := Lib.hid hp0
    have HP1 := Lib.hid hp1
    clear hsv hs hcz hPO hv hgh hp0 hp1
    unfold PutRes
    generalize putT l t = R at *
    go_enter Tryd.func55, Tryd.ntmps55
    go_wp2_with (first
      | (go_at_call 61; refine (HSV.out _ HS.out).mono ?_; rintro e w1 ⟨rfl, hb⟩; have HB1 := Lib.hid hb; have HS1 := Lib.hid (HS.out.below hb); clear hb)
      | (go_at_call 54; refine (HPO.out _).mono ?_; rintro e w' ⟨rfl, rfl⟩))
    go_loop [8] (fun i => ∃ k : Nat, k ≤ l.length ∧ i = .int .i64 k ∧ Hid (∀ j (h : j < l.length), j < k → l[j].1 < p)) (fun i => l.length - (intOf i).toNat)
    case atStart => exact ⟨0, Nat.zero_le _, rfl, fun j h h2 => by omega⟩
    case round =>
      obtain ⟨k, hk, rfl, H1⟩ := hrel
      by_cases hlt : k < l.length
      · obtain ⟨b, o, rfl, hc0, hc1⟩ := HS1.out.getP hlt
        have hnx := fun (hx : l[k].1 < p) (j : Nat) (h : j < l.length) (hj : j < k + 1) => show l[j].1 < p by
          by_cases e : j = k
          · subst e; exact hx
          · exact H1.out j h (by omega)
        have HNX := Lib.hid hnx
        have hbe := fun (hx : ¬ l[k].1 < p) => below_of l p k hk H1.out (fun _ => hx)
        have HBE := Lib.hid hbe
        have hgd := getD_pc hlt
        have HGD := Lib.hid hgd
        clear hnx hbe hgd
        by_cases hx : l[k].1 < p
        · have HN := Lib.hid (HNX.out hx)
          clear HNX HBE HGD
          generalize l[k] = q at *
          go_wp2
          go_round
          case rel => exact ⟨k + 1, by omega, by go_num, HN.out⟩
          case measure => simp [intOf]; omega
        · have HB := Lib.hid (HBE.out hx)
          clear HNX HBE
          generalize l[k] = q at *
          obtain ⟨q0, u⟩ := q
          simp only at *
          have HH := Lib.hid (show hereP l p = decide (q0 = p) by unfold hereP; rw [HB.out, HGD.out, decide_eq_true hlt, Bool.true_and])
          cases tv
          · have hpn : p = -1 := HP0.out rfl
            subst hpn
            go_wp2_with (at_builtin; refine app_pcN (w0 := w1) (l := []) rfl rfl (Own.made (Nat.le_refl _)) ((Below.refl _ _).alloc (Nat.le_refl _) _) (by simp; omega) (HS1.out.alloc _) HCZ.out (by rfl) (by rfl) ?_; intro v5 w5 hown5 hb5 hg5; rw [List.nil_append] at hown5; have HW5 := Lib.hid hown5; have HB5 := Lib.hid hb5; clear hown5 hb5 hg5)
            go_ret3
            rw [E0.out (by simp)]
            exact ⟨_, rfl, HW5.out.mono HB1.out.size, Below_then HB1.out HB5.out (Nat.le_refl _)⟩
          · have hpp : 0 ≤ p := (pv_iff.1 (HP1.out rfl)).1
            have hpn : ¬ p < 0 := by omega
            by_cases e : q0 = p
            · subst e
              have hgt : getT l q0 = some u := by rw [HGH.out, HH.out, HB.out, HGD.out]; simp
              have HGT := Lib.hid hgt
              clear hgt
              by_cases hu : u = t
              · subst hu
                go_wp2_with (at_builtin; refine app_pcN (w0 := w1) (l := []) rfl rfl (Own.made (Nat.le_refl _)) ((Below.refl _ _).alloc (Nat.le_refl _) _) (by simp; omega) (HS1.out.alloc _) HCZ.out (by rfl) (by rfl) ?_; intro v5 w5 hown5 hb5 hg5; rw [List.nil_append] at hown5; have HW5 := Lib.hid hown5; have HB5 := Lib.hid hb5; clear hown5 hb5 hg5)
                go_ret3
                rw [E1.out (by simp) HGT.out]
                exact ⟨_, rfl, HW5.out.mono HB1.out.size, Below_then HB1.out HB5.out (Nat.le_refl _)⟩
              · have hne : (u.toList == t.toList) = false := by
                  rw [ByteArray.toList_eq, ByteArray.toList_eq]
                  rw [beq_eq_false_iff_ne]; intro e
                  apply hu
                  rw [← mk_bs u, ← mk_bs t, e]
                go_wp2_with (at_builtin; refine app_pcN (w0 := w1) (l := []) rfl rfl (Own.made (Nat.le_refl _)) ((Below.refl _ _).alloc (Nat.le_refl _) _) (by simp; omega) (HS1.out.alloc _) HCZ.out (by rfl) (by rfl) ?_; intro v5 w5 hown5 hb5 hg5; rw [List.nil_append] at hown5; have HW5 := Lib.hid hown5; have HB5 := Lib.hid hb5; clear hown5 hb5 hg5)
                go_ret3
                rw [E2.out u (by simp) HGT.out hu]
                exact ⟨_, rfl, HW5.out.mono HB1.out.size, Below_then HB1.out HB5.out (Nat.le_refl _)⟩
            · have hgt : getT l p = none := by rw [HGH.out, HH.out]; simp [e]
              have HGT := Lib.hid hgt
              have hqp : (q0 == p) = false := by simpa using e
              clear hgt
              by_cases h40 : l.length = 40
              · have h40' : ((l.length : Int) == 40) = true := by simp; omega
                have E3' := Lib.hid (E3.out (by simp) HGT.out h40)
                have H40 := Lib.hid h40
                clear h40
                go_wp2_with (at_builtin; refine app_pcN (w0 := w1) (l := []) rfl rfl (Own.made (Nat.le_refl _)) ((Below.refl _ _).alloc (Nat.le_refl _) _) (by simp; omega) (HS1.out.alloc _) HCZ.out (by rfl) (by first | rfl | (rw [H40.out]; rfl)) ?_; intro v5 w5 hown5 hb5 hg5; rw [List.nil_append] at hown5; have HW5 := Lib.hid hown5; have HB5 := Lib.hid hb5; clear hown5 hb5 hg5)
                go_ret3
                rw [E3'.out]
                exact ⟨_, rfl, HW5.out.mono HB1.out.size, Below_then HB1.out HB5.out (Nat.le_refl _)⟩
              · have h40' : ((l.length : Int) == 40) = false := by simp; omega
                clear HGH HP0 HP1 HPO
                have E4' := Lib.hid (E4.out (by simp) HGT.out h40)
                clear h40
                have hkl : k ≤ l.length := by omega
                have htl : (l.take k).length = k := by rw [List.length_take]; omega
                have HBW := Lib.hid HB.out
                go_wp2
                refine wp_region_inv (by kernel_rfl) (by kernel_rfl) (fun a0 d a W => ∃ u77 u78 u79 u80 u81 u82 u83 u84 u85 u86 u87 u88 u89 u90 u91 u4 u5 u6 : Value, a = ⟨#[Value.slice (some { block := b, off := o }) l.length c, Value.string t, undef, undef, u4, u5, u6, Value.int IntKind.i64 p, Value.int IntKind.i64 (k : Int), Value.bool false, Value.slice (some { block := b, off := o }) l.length c, Value.bool true, Value.bool false, undef, Value.string t, Value.int IntKind.i64 p, Value.int IntKind.i64 (k : Int), Value.slice (some { block := b, off := o }) l.length c, Value.int IntKind.i64 (l.length : Int), Value.bool true, Value.bool true, Value.slice (some { block := b, off := o }) l.length c, Value.int IntKind.i64 (k : Int), Value.pointer (some { block := b, off := o + k * 2 }), Value.pointer (some { block := b, off := o + k * 2 }), Value.int IntKind.i64 q0, Value.int IntKind.i64 p, Value.bool false, Value.bool false, u29, u30, Value.int IntKind.i64 (k : Int), Value.slice (some { block := b, off := o }) l.length c, Value.int IntKind.i64 (l.length : Int), Value.bool true, Value.bool true, Value.slice (some { block := b, off := o }) l.length c, Value.int IntKind.i64 (k : Int), Value.pointer (some { block := b, off := o + k * 2 }), Value.pointer (some { block := b, off := o + k * 2 }), Value.int IntKind.i64 q0, Value.int IntKind.i64 p, Value.bool false, Value.bool false, Value.bool false, Value.int IntKind.i64 p, Value.bool false, Value.bool false, Value.bool false, Value.bool false, undef, undef, undef, undef, undef, undef, undef, Value.bool false, Value.bool false, Value.bool false, Value.bool false, Value.bool true, Value.bool true, Value.slice (some { block := b, off := o }) l.length c, Value.int IntKind.i64 (l.length : Int), Value.bool false, Value.bool false, Value.bool false, undef, undef, undef, Value.bool false, Value.bool false, undef, undef, undef, undef, u77, u78, u79, u80, u81, u82, u83, u84, u85, u86, u87, u88, u89, u90, u91], []⟩ ∧ PtJ w1 (some ⟨b, o, none⟩) l.length c (k) l p t d u77 u78 u79 u80 u81 u82 u83 u84 u85 u86 u87 u88 u89 u90 u91 u4 u5 u6 W) ?_ ?_ ?_
                · exact ⟨_, _, _, _, _, _, _, _, _, _, _, _, _, _, _, _, _, _, rfl, Below_drewN (Below.refl _ _) 1, nofun, nofun, nofun, nofun, nofun, nofun, nofun, nofun, nofun, nofun, nofun, nofun, nofun, nofun, nofun, nofun, nofun, nofun, nofun, nofun, nofun, nofun⟩
                · refine ⟨?_, ?_, ?_, ?_, ?_, ?_, ?_, ?_, ?_, ?_, ?_, ?_, ?_, ?_, ?_, ?_, ?_, ?_, trivial⟩
                  all_goals
                    intro d a W K hd hdep hJ hK
                    obtain ⟨u77, u78, u79, u80, u81, u82, u83, u84, u85, u86, u87, u88, u89, u90, u91, u4, u5, u6, rfl, hj⟩ := hJ
                    have HJ := Lib.hid hj
                    have HK := Lib.hid hK
                    have HD := Lib.hid hd
                    have HDEP := Lib.hid hdep
                    clear hj hK hd hdep
                  · go_simp
                    exact HK.out _ _ ⟨_, _, _, _, _, _, _, _, _, _, _, _, _, _, _, _, _, _, rfl, HJ.out.step0 HD.out⟩
                  · go_simp
                    exact HK.out _ _ ⟨_, _, _, _, _, _, _, _, _, _, _, _, _, _, _, _, _, _, rfl, { HJ.out with c1 := fun _ => rfl }⟩
                  · go_simp
                    exact HK.out _ _ ⟨_, _, _, _, _, _, _, _, _, _, _, _, _, _, _, _, _, _, rfl, { HJ.out with c2 := fun _ => rfl }⟩
                  · obtain rfl := HJ.out.c1 (HDEP.out { on := 1, ground := Ground.data } (by simp) rfl)
                    obtain rfl := HJ.out.c2 (HDEP.out { on := 2, ground := Ground.data } (by simp) rfl)
                    have hkc3 : k ≤ c := by omega
                    go_simp
                    exact HK.out _ _ ⟨_, _, _, _, _, _, _, _, _, _, _, _, _, _, _, _, _, _, rfl, { HJ.out with o4 := fun e => ⟨(HJ.out.o4 e).1, rfl⟩, c3 := fun _ => ⟨some ⟨b, o, none⟩, c, (by rw [htl]), (by intro h; cases h), HS1.out.take _⟩ }⟩
                  · obtain ⟨A', c', rfl, hz, hsl⟩ := HJ.out.c3 (HDEP.out { on := 3, ground := Ground.data } (by simp) rfl)
                    refine step_pcK (w0 := w1) rfl rfl (HJ.out.c0 (HDEP.out { on := 0, ground := Ground.data } (by simp) rfl) HD.out) HJ.out.b (by simp; omega) (hsl.below HJ.out.b) hz rfl rfl ?_
                    intro v' W' hown hb hg hk
                    exact HK.out _ _ ⟨_, _, _, _, _, _, _, _, _, _, _, _, _, _, _, _, _, _, rfl, HJ.out.step4 (HDEP.out { on := 0, ground := Ground.data } (by simp) rfl) (HDEP.out { on := 3, ground := Ground.data } (by simp) rfl) HD.out hown hb hg hk⟩
                  · go_simp
                    exact HK.out _ _ ⟨_, _, _, _, _, _, _, _, _, _, _, _, _, _, _, _, _, _, rfl, { HJ.out with c5 := fun _ => rfl }⟩
                  · go_simp
                    exact HK.out _ _ ⟨_, _, _, _, _, _, _, _, _, _, _, _, _, _, _, _, _, _, rfl, { HJ.out with c6 := fun _ => rfl }⟩
                  · obtain rfl := HJ.out.c5 (HDEP.out { on := 5, ground := Ground.data } (by simp) rfl)
                    obtain rfl := HJ.out.c6 (HDEP.out { on := 6, ground := Ground.data } (by simp) rfl)
                    go_simp
                    exact HK.out _ _ ⟨_, _, _, _, _, _, _, _, _, _, _, _, _, _, _, _, _, _, rfl, { HJ.out with c7 := fun _ => rfl }⟩
                  · obtain rfl := HJ.out.c7 (HDEP.out { on := 7, ground := Ground.data } (by simp) rfl)
                    go_simp
                    exact HK.out _ _ ⟨_, _, _, _, _, _, _, _, _, _, _, _, _, _, _, _, _, _, rfl, HJ.out.step8 HD.out⟩
                  · obtain ⟨g, rfl, hgl, hsl, _, hap⟩ := HJ.out.c8 (HDEP.out { on := 8, ground := Ground.data } (by simp) rfl) HD.out
                    have hap := hap (HDEP.out { on := 4, ground := Ground.data } (by simp) rfl)
                    refine step_pcK (w0 := w1) (m := [(p, t)]) rfl rfl (HJ.out.c4 (HDEP.out { on := 4, ground := Ground.data } (by simp) rfl) HD.out) HJ.out.b (by simp; omega) hsl (by intro h; cases h) rfl rfl ?_
                    intro v' W' hown hb hg hk
                    exact HK.out _ _ ⟨_, _, _, _, _, _, _, _, _, _, _, _, _, _, _, _, _, _, rfl, HJ.out.step9 (HDEP.out { on := 4, ground := Ground.data } (by simp) rfl) (HDEP.out { on := 8, ground := Ground.data } (by simp) rfl) HD.out hown hb⟩
                  · go_simp
                    exact HK.out _ _ ⟨_, _, _, _, _, _, _, _, _, _, _, _, _, _, _, _, _, _, rfl, { HJ.out with c10 := fun _ => rfl }⟩
                  · go_simp
                    exact HK.out _ _ ⟨_, _, _, _, _, _, _, _, _, _, _, _, _, _, _, _, _, _, rfl, { HJ.out with c11 := fun _ => rfl }⟩
                  · obtain rfl := HJ.out.c10 (HDEP.out { on := 10, ground := Ground.data } (by simp) rfl)
                    obtain rfl := HJ.out.c11 (HDEP.out { on := 11, ground := Ground.data } (by simp) rfl)
                    have hkc : ¬ (c = k) := by omega
                    go_simp
                    exact HK.out _ _ ⟨_, _, _, _, _, _, _, _, _, _, _, _, _, _, _, _, _, _, rfl, { HJ.out with o13 := fun e => ⟨(HJ.out.o13 e).1, rfl⟩, c12 := fun _ => ⟨_, _, (by rw [List.length_drop]), (by intro h; cases h), Sl.dropP HS1.out (by omega)⟩ }⟩
                  · obtain ⟨A', c', rfl, hz, hsl⟩ := HJ.out.c12 (HDEP.out { on := 12, ground := Ground.data } (by simp) rfl)
                    refine step_pcK (w0 := w1) rfl rfl (HJ.out.c9 (HDEP.out { on := 9, ground := Ground.data } (by simp) rfl) HD.out) HJ.out.b (by simp; omega) (hsl.below HJ.out.b) hz rfl rfl ?_
                    intro v' W' hown hb hg hk
                    exact HK.out _ _ ⟨_, _, _, _, _, _, _, _, _, _, _, _, _, _, _, _, _, _, rfl, HJ.out.step13 (HDEP.out { on := 9, ground := Ground.data } (by simp) rfl) (HDEP.out { on := 12, ground := Ground.data } (by simp) rfl) HD.out hown hb⟩
                  · go_simp
                    exact HK.out _ _ ⟨_, _, _, _, _, _, _, _, _, _, _, _, _, _, _, _, _, _, rfl, { HJ.out with c14 := fun _ => rfl }⟩
                  · go_simp
                    exact HK.out _ _ ⟨_, _, _, _, _, _, _, _, _, _, _, _, _, _, _, _, _, _, rfl, { HJ.out with o15 := fun _ => (HDEP.out { on := 13, ground := Ground.data } (by simp) rfl), c15 := fun _ => rfl }⟩
                  · obtain rfl := HJ.out.c14 (HDEP.out { on := 14, ground := Ground.data } (by simp) rfl)
                    go_simp
                    exact HK.out _ _ ⟨_, _, _, _, _, _, _, _, _, _, _, _, _, _, _, _, _, _, rfl, { HJ.out with c16 := fun _ => rfl }⟩
                  · go_simp
                    exact HK.out _ _ ⟨_, _, _, _, _, _, _, _, _, _, _, _, _, _, _, _, _, _, rfl, { HJ.out with c17 := fun _ => rfl }⟩
                · intro d a W hd hJ
                  obtain ⟨u77, u78, u79, u80, u81, u82, u83, u84, u85, u86, u87, u88, u89, u90, u91, u4, u5, u6, rfl, hj⟩ := hJ
                  obtain rfl := hj.c15 (hd 15 (by decide))
                  obtain rfl := hj.c16 (hd 16 (by decide))
                  obtain rfl := hj.c17 (hd 17 (by decide))
                  have HO := Lib.hid (hj.c13 (hd 13 (by decide)))
                  have HBF := Lib.hid (Below_then HB1.out hj.b (Nat.le_refl _))
                  clear hj hd
                  go_wp2
                  go_ret3
                  rw [E4'.out, HBW.out]
                  refine ⟨_, rfl, ?_, HBF.out⟩
                  have := HO.out
                  rw [List.append_assoc] at this
                  exact this.mono HB1.out.size
      · obtain rfl : k = l.length := by omega
        have HB := Lib.hid (below_of l p l.length (Nat.le_refl _) H1.out (fun h => absurd h (by omega)))
        have HH := Lib.hid (show hereP l p = false by unfold hereP; rw [HB.out]; simp)
        have hgt : getT l p = none := by rw [HGH.out, HH.out]; simp
        have HGT := Lib.hid hgt
        clear hgt
        cases tv
        · have hpn : p = -1 := HP0.out rfl
          subst hpn
          go_wp2_with (at_builtin; refine app_pcN (w0 := w1) (l := []) rfl rfl (Own.made (Nat.le_refl _)) ((Below.refl _ _).alloc (Nat.le_refl _) _) (by simp; omega) (HS1.out.alloc _) HCZ.out (by rfl) (by rfl) ?_; intro v5 w5 hown5 hb5 hg5; rw [List.nil_append] at hown5; have HW5 := Lib.hid hown5; have HB5 := Lib.hid hb5; clear hown5 hb5 hg5)
          go_ret3
          rw [E0.out (by simp)]
          exact ⟨_, rfl, HW5.out.mono HB1.out.size, Below_then HB1.out HB5.out (Nat.le_refl _)⟩
        · have hpp : 0 ≤ p := (pv_iff.1 (HP1.out rfl)).1
          have hpn : ¬ p < 0 := by omega
          by_cases h40 : l.length = 40
          · have h40' : ((l.length : Int) == 40) = true := by simp; omega
            have E3' := Lib.hid (E3.out (by simp) HGT.out h40)
            have H40 := Lib.hid h40
            clear h40
            go_wp2_with (at_builtin; refine app_pcN (w0 := w1) (l := []) rfl rfl (Own.made (Nat.le_refl _)) ((Below.refl _ _).alloc (Nat.le_refl _) _) (by simp; omega) (HS1.out.alloc _) HCZ.out (by rfl) (by first | rfl | (rw [H40.out]; rfl)) ?_; intro v5 w5 hown5 hb5 hg5; rw [List.nil_append] at hown5; have HW5 := Lib.hid hown5; have HB5 := Lib.hid hb5; clear hown5 hb5 hg5)
            go_ret3
            rw [E3'.out]
            exact ⟨_, rfl, HW5.out.mono HB1.out.size, Below_then HB1.out HB5.out (Nat.le_refl _)⟩
          · have h40' : ((l.length : Int) == 40) = false := by simp; omega
            clear HGH HP0 HP1 HPO
            have E4' := Lib.hid (E4.out (by simp) HGT.out h40)
            clear h40
            have hkl : l.length ≤ l.length := by omega
            have htl : (l.take l.length).length = l.length := by rw [List.length_take]; omega
            have HBW := Lib.hid HB.out
            go_wp2
            refine wp_region_inv (by kernel_rfl) (by kernel_rfl) (fun a0 d a W => ∃ u77 u78 u79 u80 u81 u82 u83 u84 u85 u86 u87 u88 u89 u90 u91 u4 u5 u6 : Value, a = ⟨#[Value.slice A l.length c, Value.string t, undef, undef, u4, u5, u6, Value.int IntKind.i64 p, Value.int IntKind.i64 (l.length : Int), Value.bool false, Value.slice A l.length c, Value.bool true, Value.bool false, undef, Value.string t, Value.int IntKind.i64 p, Value.int IntKind.i64 (l.length : Int), Value.slice A l.length c, Value.int IntKind.i64 (l.length : Int), Value.bool false, Value.bool false, undef, undef, undef, undef, undef, undef, undef, Value.bool false, u29, u30, Value.int IntKind.i64 (l.length : Int), Value.slice A l.length c, Value.int IntKind.i64 (l.length : Int), Value.bool false, Value.bool false, undef, undef, undef, undef, undef, undef, undef, Value.bool false, Value.bool false, Value.int IntKind.i64 p, Value.bool false, Value.bool false, Value.bool false, Value.bool false, undef, undef, undef, undef, undef, undef, undef, Value.bool false, Value.bool false, Value.bool false, Value.bool false, Value.bool true, Value.bool true, Value.slice A l.length c, Value.int IntKind.i64 (l.length : Int), Value.bool false, Value.bool false, Value.bool false, undef, undef, undef, Value.bool false, Value.bool false, undef, undef, undef, undef, u77, u78, u79, u80, u81, u82, u83, u84, u85, u86, u87, u88, u89, u90, u91], []⟩ ∧ PtJ w1 (A) l.length c (l.length) l p t d u77 u78 u79 u80 u81 u82 u83 u84 u85 u86 u87 u88 u89 u90 u91 u4 u5 u6 W) ?_ ?_ ?_
            · exact ⟨_, _, _, _, _, _, _, _, _, _, _, _, _, _, _, _, _, _, rfl, Below_drewN (Below.refl _ _) 1, nofun, nofun, nofun, nofun, nofun, nofun, nofun, nofun, nofun, nofun, nofun, nofun, nofun, nofun, nofun, nofun, nofun, nofun, nofun, nofun, nofun, nofun⟩
            · refine ⟨?_, ?_, ?_, ?_, ?_, ?_, ?_, ?_, ?_, ?_, ?_, ?_, ?_, ?_, ?_, ?_, ?_, ?_, trivial⟩
              all_goals
                intro d a W K hd hdep hJ hK
                obtain ⟨u77, u78, u79, u80, u81, u82, u83, u84, u85, u86, u87, u88, u89, u90, u91, u4, u5, u6, rfl, hj⟩ := hJ
                have HJ := Lib.hid hj
                have HK := Lib.hid hK
                have HD := Lib.hid hd
                have HDEP := Lib.hid hdep
                clear hj hK hd hdep
              · go_simp
                exact HK.out _ _ ⟨_, _, _, _, _, _, _, _, _, _, _, _, _, _, _, _, _, _, rfl, HJ.out.step0 HD.out⟩
              · go_simp
                exact HK.out _ _ ⟨_, _, _, _, _, _, _, _, _, _, _, _, _, _, _, _, _, _, rfl, { HJ.out with c1 := fun _ => rfl }⟩
              · go_simp
                exact HK.out _ _ ⟨_, _, _, _, _, _, _, _, _, _, _, _, _, _, _, _, _, _, rfl, { HJ.out with c2 := fun _ => rfl }⟩
              · obtain rfl := HJ.out.c1 (HDEP.out { on := 1, ground := Ground.data } (by simp) rfl)
                obtain rfl := HJ.out.c2 (HDEP.out { on := 2, ground := Ground.data } (by simp) rfl)
                cases A with
                | none =>
                  go_simp
                  exact HK.out _ _ ⟨_, _, _, _, _, _, _, _, _, _, _, _, _, _, _, _, _, _, rfl, { HJ.out with o4 := fun e => ⟨(HJ.out.o4 e).1, rfl⟩, c3 := fun _ => ⟨_, _, (by rw [htl]), (by intro _; exact HCZ.out rfl), HS1.out.take _⟩ }⟩
                | some ad =>
                  go_simp
                  exact HK.out _ _ ⟨_, _, _, _, _, _, _, _, _, _, _, _, _, _, _, _, _, _, rfl, { HJ.out with o4 := fun e => ⟨(HJ.out.o4 e).1, rfl⟩, c3 := fun _ => ⟨_, _, (by rw [htl]), (by intro h; cases h), HS1.out.take _⟩ }⟩
              · obtain ⟨A', c', rfl, hz, hsl⟩ := HJ.out.c3 (HDEP.out { on := 3, ground := Ground.data } (by simp) rfl)
                refine step_pcK (w0 := w1) rfl rfl (HJ.out.c0 (HDEP.out { on := 0, ground := Ground.data } (by simp) rfl) HD.out) HJ.out.b (by simp; omega) (hsl.below HJ.out.b) hz rfl rfl ?_
                intro v' W' hown hb hg hk
                exact HK.out _ _ ⟨_, _, _, _, _, _, _, _, _, _, _, _, _, _, _, _, _, _, rfl, HJ.out.step4 (HDEP.out { on := 0, ground := Ground.data } (by simp) rfl) (HDEP.out { on := 3, ground := Ground.data } (by simp) rfl) HD.out hown hb hg hk⟩
              · go_simp
                exact HK.out _ _ ⟨_, _, _, _, _, _, _, _, _, _, _, _, _, _, _, _, _, _, rfl, { HJ.out with c5 := fun _ => rfl }⟩
              · go_simp
                exact HK.out _ _ ⟨_, _, _, _, _, _, _, _, _, _, _, _, _, _, _, _, _, _, rfl, { HJ.out with c6 := fun _ => rfl }⟩
              · obtain rfl := HJ.out.c5 (HDEP.out { on := 5, ground := Ground.data } (by simp) rfl)
                obtain rfl := HJ.out.c6 (HDEP.out { on := 6, ground := Ground.data } (by simp) rfl)
                go_simp
                exact HK.out _ _ ⟨_, _, _, _, _, _, _, _, _, _, _, _, _, _, _, _, _, _, rfl, { HJ.out with c7 := fun _ => rfl }⟩
              · obtain rfl := HJ.out.c7 (HDEP.out { on := 7, ground := Ground.data } (by simp) rfl)
                go_simp
                exact HK.out _ _ ⟨_, _, _, _, _, _, _, _, _, _, _, _, _, _, _, _, _, _, rfl, HJ.out.step8 HD.out⟩
              · obtain ⟨g, rfl, hgl, hsl, _, hap⟩ := HJ.out.c8 (HDEP.out { on := 8, ground := Ground.data } (by simp) rfl) HD.out
                have hap := hap (HDEP.out { on := 4, ground := Ground.data } (by simp) rfl)
                refine step_pcK (w0 := w1) (m := [(p, t)]) rfl rfl (HJ.out.c4 (HDEP.out { on := 4, ground := Ground.data } (by simp) rfl) HD.out) HJ.out.b (by simp; omega) hsl (by intro h; cases h) rfl rfl ?_
                intro v' W' hown hb hg hk
                exact HK.out _ _ ⟨_, _, _, _, _, _, _, _, _, _, _, _, _, _, _, _, _, _, rfl, HJ.out.step9 (HDEP.out { on := 4, ground := Ground.data } (by simp) rfl) (HDEP.out { on := 8, ground := Ground.data } (by simp) rfl) HD.out hown hb⟩
              · go_simp
                exact HK.out _ _ ⟨_, _, _, _, _, _, _, _, _, _, _, _, _, _, _, _, _, _, rfl, { HJ.out with c10 := fun _ => rfl }⟩
              · go_simp
                exact HK.out _ _ ⟨_, _, _, _, _, _, _, _, _, _, _, _, _, _, _, _, _, _, rfl, { HJ.out with c11 := fun _ => rfl }⟩
              · obtain rfl := HJ.out.c10 (HDEP.out { on := 10, ground := Ground.data } (by simp) rfl)
                obtain rfl := HJ.out.c11 (HDEP.out { on := 11, ground := Ground.data } (by simp) rfl)
                have hdl : (l.drop l.length) = [] := List.drop_length
                cases A with
                | none =>
                  go_simp
                  exact HK.out _ _ ⟨_, _, _, _, _, _, _, _, _, _, _, _, _, _, _, _, _, _, rfl, { HJ.out with o13 := fun e => ⟨(HJ.out.o13 e).1, rfl⟩, c12 := fun _ => ⟨_, _, (by rw [hdl]; rfl), (by intro _; first | rfl | (have := HCZ.out rfl; omega)), by rw [hdl]; intro h; simp at h⟩ }⟩
                | some ad =>
                  go_simp
                  all_goals exact HK.out _ _ ⟨_, _, _, _, _, _, _, _, _, _, _, _, _, _, _, _, _, _, rfl, { HJ.out with o13 := fun e => ⟨(HJ.out.o13 e).1, rfl⟩, c12 := fun _ => ⟨_, _, (by rw [hdl]; rfl), (by intro h; exfalso; revert h; split <;> simp), by rw [hdl]; intro h; simp at h⟩ }⟩
              · obtain ⟨A', c', rfl, hz, hsl⟩ := HJ.out.c12 (HDEP.out { on := 12, ground := Ground.data } (by simp) rfl)
                refine step_pcK (w0 := w1) rfl rfl (HJ.out.c9 (HDEP.out { on := 9, ground := Ground.data } (by simp) rfl) HD.out) HJ.out.b (by simp; omega) (hsl.below HJ.out.b) hz rfl rfl ?_
                intro v' W' hown hb hg hk
                exact HK.out _ _ ⟨_, _, _, _, _, _, _, _, _, _, _, _, _, _, _, _, _, _, rfl, HJ.out.step13 (HDEP.out { on := 9, ground := Ground.data } (by simp) rfl) (HDEP.out { on := 12, ground := Ground.data } (by simp) rfl) HD.out hown hb⟩
              · go_simp
                exact HK.out _ _ ⟨_, _, _, _, _, _, _, _, _, _, _, _, _, _, _, _, _, _, rfl, { HJ.out with c14 := fun _ => rfl }⟩
              · go_simp
                exact HK.out _ _ ⟨_, _, _, _, _, _, _, _, _, _, _, _, _, _, _, _, _, _, rfl, { HJ.out with o15 := fun _ => (HDEP.out { on := 13, ground := Ground.data } (by simp) rfl), c15 := fun _ => rfl }⟩
              · obtain rfl := HJ.out.c14 (HDEP.out { on := 14, ground := Ground.data } (by simp) rfl)
                go_simp
                exact HK.out _ _ ⟨_, _, _, _, _, _, _, _, _, _, _, _, _, _, _, _, _, _, rfl, { HJ.out with c16 := fun _ => rfl }⟩
              · go_simp
                exact HK.out _ _ ⟨_, _, _, _, _, _, _, _, _, _, _, _, _, _, _, _, _, _, rfl, { HJ.out with c17 := fun _ => rfl }⟩
            · intro d a W hd hJ
              obtain ⟨u77, u78, u79, u80, u81, u82, u83, u84, u85, u86, u87, u88, u89, u90, u91, u4, u5, u6, rfl, hj⟩ := hJ
              obtain rfl := hj.c15 (hd 15 (by decide))
              obtain rfl := hj.c16 (hd 16 (by decide))
              obtain rfl := hj.c17 (hd 17 (by decide))
              have HO := Lib.hid (hj.c13 (hd 13 (by decide)))
              have HBF := Lib.hid (Below_then HB1.out hj.b (Nat.le_refl _))
              clear hj hd
              go_wp2
              go_ret3
              rw [E4'.out, HBW.out]
              refine ⟨_, rfl, ?_, HBF.out⟩
              have := HO.out
              rw [List.append_assoc] at this
              exact this.mono HB1.out.size
end Go.Proofs.YtbpngpcjjinneaaDoor

/- FolderText, EmptyRoot, walked. -/
set_option linter.unusedVariables false
namespace Go.Proofs.YtbpngpcjjinneaaDoor
open Go.RowKit
def entM (e : En) : ByteArray := e.1 ++ ⟨#[61]⟩ ++ mk (hexT e.2) ++ ⟨#[59]⟩
theorem entM_tx (e : En) : entM e = mk (entT e) := by
  unfold entM entT
  rw [show e.1 = mk (tx e.1) from (mk_tx _).symm, show (⟨#[61]⟩ : ByteArray) = mk [61] from rfl, show (⟨#[59]⟩ : ByteArray) = mk [59] from rfl, mk_append, mk_append, mk_append]
  simp [tx_mk]
def foldM (l : List En) : ByteArray := mk (100 :: l.flatMap entT)
theorem foldM_take {l : List En} {k : Nat} (h : k < l.length) : foldM (l.take (k + 1)) = foldM (l.take k) ++ entM l[k] := by
  unfold foldM
  rw [List.take_succ_eq_append_getElem h, entM_tx, mk_append, List.flatMap_append]
  simp only [List.flatMap_cons, List.flatMap_nil, List.append_nil, List.cons_append]
theorem foldM_size {l : List En} (h : entsV l = true) (k : Nat) : (foldM (l.take k)).size ≤ 49 := by
  have h2 := foldB_len (entsV_sub h (List.take_sublist k l))
  unfold foldB at h2
  unfold foldM; rw [mk_size]; exact h2
theorem cat4 (x a b c d : ByteArray) : x ++ (a ++ b ++ c ++ d) = x ++ a ++ b ++ c ++ d := by simp [ByteArray.append_assoc]
set_option maxHeartbeats 4000000 in
set_option maxRecDepth 100000 in
theorem iFolderText_any (A : Option Addr) (c : Nat) (l : List En) (w : World) (hs : Sl w encE 2 A l) (hl : l.length ≤ 16777216) (hf : FitE l) (ht : TzL w) :
    Calls Tryd.prog 79 #[.slice A l.length c] w fun e w' => e = .returned (.string (mk (foldT l))) ∧ Below w.heap.size w w' := by
  have HS := Lib.hid hs
  have HF := Lib.hid hf
  have HT := Lib.hid ht
  have hsv := fun w h => iEntriesValid_any A c l w h hl hf
  clear hs hf ht
  cases hv : entsV l
  · have E := Lib.hid (show mk (foldT l) = ⟨#[]⟩ by unfold foldT; rw [hv]; rfl)
    rw [hv] at hsv
    have HSV := Lib.hid hsv
    clear hsv hv
    rw [E.out]
    go_enter Tryd.func79, Tryd.ntmps79
    go_wp2_with fail
    refine (HSV.out _ HS.out).mono ?_
    rintro e w1 ⟨rfl, hb⟩
    have HB := Lib.hid hb
    clear hb
    go_wp2
    go_ret
    exact ⟨rfl, HB.out⟩
  · have E := Lib.hid (show mk (foldT l) = foldM l by unfold foldT; rw [hv]; rfl)
    rw [hv] at hsv
    have HSV := Lib.hid hsv
    have HSZ := Lib.hid (foldM_size hv)
    have HOK := Lib.hid (fun k (h : k < l.length) => entT_len l[k] (entsV_ok hv (by simp)))
    have hl3 := entsV_len hv
    clear hsv hv
    rw [E.out]
    go_enter Tryd.func79, Tryd.ntmps79
    go_wp2_with fail
    refine (HSV.out _ HS.out).mono ?_
    rintro e w1 ⟨rfl, hb⟩
    have HB := Lib.hid hb
    have HS1 := Lib.hid (HS.out.below hb)
    have HT1 := Lib.hid (HT.out.below hb)
    clear hb
    go_wp2_with fail
    go_loopw [3, 11] (fun v i wr => ∃ (k : Nat) (acc : ByteArray), k ≤ l.length ∧ i = .int .i64 k ∧ v = .string acc ∧ Hid (acc = foldM (l.take k)) ∧ Hid (Below w1.heap.size w1 wr)) (fun _ i _ => l.length - (intOf i).toNat)
    case atStart => exact ⟨0, _, Nat.zero_le _, rfl, rfl, rfl, Below.refl _ _⟩
    case round =>
      obtain ⟨k, acc, hk, rfl, rfl, HA, HBW⟩ := hrel
      by_cases hlt : k < l.length
      · obtain ⟨b, o, rfl, hc0, hc1⟩ := (HS1.out.below HBW.out).getE hlt
        have hst := foldM_take hlt
        have hacc : acc.size ≤ 49 := by rw [HA.out]; exact HSZ.out k
        have HT2 := Lib.hid (HT1.out.below HBW.out)
        have hfk : l[k].1.size ≤ 16777216 := HF.out.at hlt
        generalize l[k] = p at *
        obtain ⟨t, a⟩ := p
        simp only at *
        have hz1 : (mk (hexT a)).size ≤ 6 := by rw [mk_size]; exact hexT_len a
        have hz2 : (t ++ ⟨#[61]⟩).size ≤ 16777217 := by rw [ByteArray.size_append]; exact Nat.add_le_add_right hfk 1
        have hz3 : (t ++ ⟨#[61]⟩ ++ mk (hexT a)).size ≤ 16777223 := by rw [ByteArray.size_append]; exact Nat.add_le_add hz2 hz1
        have hz4 : (t ++ ⟨#[61]⟩ ++ mk (hexT a) ++ ⟨#[59]⟩).size ≤ 16777224 := by rw [ByteArray.size_append]; exact Nat.add_le_add_right hz3 1
        have hq1 := str_add (x := t) (y := ⟨#[61]⟩) (by omega) (by simp [ByteArray.size])
        have hq2 := str_add (x := t ++ ⟨#[61]⟩) (y := mk (hexT a)) (by omega) (by omega)
        have hq3 := str_add (x := t ++ ⟨#[61]⟩ ++ mk (hexT a)) (y := ⟨#[59]⟩) (by omega) (by simp [ByteArray.size])
        have hq4 := str_add (x := acc) (y := t ++ ⟨#[61]⟩ ++ mk (hexT a) ++ ⟨#[59]⟩) (by omega) (by omega)
        have HH := Lib.hid (fun w h => iHexText_any a w h)
        have HN := Lib.hid (show acc ++ (t ++ ⟨#[61]⟩ ++ mk (hexT a) ++ ⟨#[59]⟩) = foldM (l.take (k + 1)) by rw [hst, HA.out]; rfl)
        have HB2 := Lib.hid (HBW.out.alloc HBW.out.size (.cells #[.string t, .int .i64 a] 126))
        have HT3 := Lib.hid (fun p => (HT2.out.below ((Below.refl _ _).alloc (Nat.le_refl _) (.cells #[.string t, .int .i64 a] 126))).below (far_below _ p))
        have hx0 := far_cell (new_cell (w := wr) (cs := #[.string t, .int .i64 a]) (E := 126) (k := 0) rfl)
        have hx1 := far_cell (new_cell (w := wr) (cs := #[.string t, .int .i64 a]) (E := 126) (k := 1) rfl)
        clear hst
        go_wp2
        refine wp_region_far (by kernel_rfl) (by kernel_rfl) ?_
        repeat (go_big_quiet_step ((go_at_call 86; exact far_call (HH.out _ (HT3.out _)))))
        refine wpQuiet_nil ?_
        intro _ hwF
        obtain ⟨pF, hwF⟩ := hwF
        subst hwF
        have HB5 := Lib.hid (Below_then HB2.out (far_below _ pF) (Nat.le_refl _))
        generalize far _ pF = wF at *
        clear hx0 hx1
        go_wp2
        go_roundw
        case rel => exact ⟨k + 1, _, by omega, by go_num, rfl, HN.out, HB5.out⟩
        case measure => simp [intOf]; omega
      · have HE := Lib.hid (show acc = foldM l by rw [HA.out, List.take_of_length_le (by omega)])
        have HB2 := Lib.hid (Below_then HB.out HBW.out (Nat.le_refl _))
        go_wp2
        go_ret
        exact ⟨ret_str HE.out, HB2.out⟩
set_option maxHeartbeats 4000000 in
set_option maxRecDepth 100000 in
theorem sFolderText_any (A : Option Addr) (c : Nat) (l : List En) (w : World) (hs : Sl w encE 2 A l) (hl : l.length ≤ 16777216) (hf : FitE l) :
    Calls Tryd.prog 78 #[.slice A l.length c] w fun e w' => e = .returned (.string (mk (foldT l))) ∧ Below w.heap.size w w' := by
  have HS := Lib.hid hs
  have HF := Lib.hid hf
  have hsv := fun w h => sEntriesValid_any A c l w h hl hf
  clear hs hf
  cases hv : entsV l
  · have E := Lib.hid (show mk (foldT l) = ⟨#[]⟩ by unfold foldT; rw [hv]; rfl)
    rw [hv] at hsv
    have HSV := Lib.hid hsv
    clear hsv hv
    rw [E.out]
    go_enter Tryd.func78, Tryd.ntmps78
    go_wp2_with fail
    refine (HSV.out _ HS.out).mono ?_
    rintro e w1 ⟨rfl, hb⟩
    have HB := Lib.hid hb
    clear hb
    go_wp2
    go_ret
    exact ⟨rfl, HB.out⟩
  · have E := Lib.hid (show mk (foldT l) = foldM l by unfold foldT; rw [hv]; rfl)
    rw [hv] at hsv
    have HSV := Lib.hid hsv
    have HSZ := Lib.hid (foldM_size hv)
    have hl3 := entsV_len hv
    clear hsv hv
    rw [E.out]
    go_enter Tryd.func78, Tryd.ntmps78
    go_wp2_with fail
    refine (HSV.out _ HS.out).mono ?_
    rintro e w1 ⟨rfl, hb⟩
    have HB := Lib.hid hb
    have HS1 := Lib.hid (HS.out.below hb)
    clear hb
    go_wp2_with fail
    go_loopw [3, 4] (fun v i wr => ∃ (k : Nat) (acc : ByteArray), k ≤ l.length ∧ i = .int .i64 k ∧ v = .string acc ∧ Hid (acc = foldM (l.take k)) ∧ Hid (Below w1.heap.size w1 wr)) (fun _ i _ => l.length - (intOf i).toNat)
    case atStart => exact ⟨0, _, Nat.zero_le _, rfl, rfl, rfl, Below.refl _ _⟩
    case round =>
      obtain ⟨k, acc, hk, rfl, rfl, HA, HBW⟩ := hrel
      by_cases hlt : k < l.length
      · obtain ⟨b, o, rfl, hc0, hc1⟩ := (HS1.out.below HBW.out).getE hlt
        have hst := foldM_take hlt
        have hacc : acc.size ≤ 49 := by rw [HA.out]; exact HSZ.out k
        have hfk : l[k].1.size ≤ 16777216 := HF.out.at hlt
        generalize l[k] = p at *
        obtain ⟨t, a⟩ := p
        simp only at *
        have hz1 : (mk (hexT a)).size ≤ 6 := by rw [mk_size]; exact hexT_len a
        have hz0 : (acc ++ t).size ≤ 16777265 := by rw [ByteArray.size_append]; omega
        have hz2 : (acc ++ t ++ ⟨#[61]⟩).size ≤ 16777266 := by rw [ByteArray.size_append]; exact Nat.add_le_add_right hz0 1
        have hz3 : (acc ++ t ++ ⟨#[61]⟩ ++ mk (hexT a)).size ≤ 16777272 := by rw [ByteArray.size_append]; exact Nat.add_le_add hz2 hz1
        have hq0 := str_add (x := acc) (y := t) (by omega) (by omega)
        have hq1 := str_add (x := acc ++ t) (y := ⟨#[61]⟩) (by omega) (by simp [ByteArray.size])
        have hq2 := str_add (x := acc ++ t ++ ⟨#[61]⟩) (y := mk (hexT a)) (by omega) (by omega)
        have hq3 := str_add (x := acc ++ t ++ ⟨#[61]⟩ ++ mk (hexT a)) (y := ⟨#[59]⟩) (by omega) (by simp [ByteArray.size])
        have HH := Lib.hid (fun w => sHexText_any a w)
        have HN := Lib.hid (show acc ++ t ++ ⟨#[61]⟩ ++ mk (hexT a) ++ ⟨#[59]⟩ = foldM (l.take (k + 1)) by rw [hst, HA.out, ← cat4]; rfl)
        replace hc0 := far_cell hc0
        replace hc1 := far_cell hc1
        clear hst
        go_wp2
        refine wp_region_far (by kernel_rfl) (by kernel_rfl) ?_
        repeat (go_big_quiet_step ((go_at_call 81; exact far_same (HH.out _))))
        refine wpQuiet_nil ?_
        intro _ hwF
        obtain ⟨pF, hwF⟩ := hwF
        subst hwF
        have HB5 := Lib.hid (Below_then HBW.out (far_below _ pF) (Nat.le_refl _))
        generalize far _ pF = wF at *
        clear hc0 hc1
        go_wp2
        go_roundw
        case rel => exact ⟨k + 1, _, by omega, by go_num, rfl, HN.out, HB5.out⟩
        case measure => simp [intOf]; omega
      · have HE := Lib.hid (show acc = foldM l by rw [HA.out, List.take_of_length_le (by omega)])
        have HB2 := Lib.hid (Below_then HB.out HBW.out (Nat.le_refl _))
        go_wp2
        go_ret
        exact ⟨ret_str HE.out, HB2.out⟩
end Go.Proofs.YtbpngpcjjinneaaDoor

/- CutPrefix at a byte; ReadFolder of the program, walked. -/
set_option linter.unusedVariables false
namespace Go.Proofs.YtbpngpcjjinneaaDoor
open Go.RowKit
theorem bs_ne_nil {s : ByteArray} (h : 0 < s.size) : bs s ≠ [] := fun e => by have := size_bs s; rw [e] at this; simp at this; omega
theorem drop1_ext (s : ByteArray) : s.extract 1 s.size = mk ((bs s).tail) := by
  apply ByteArray.ext
  apply Array.ext'
  rw [Lib.extract_data]
  show ((bs s).drop 1).take _ = (bs s).tail
  rw [List.drop_one]
  exact List.take_of_length_le (by rw [List.length_tail]; exact Nat.le_refl _)
theorem take1_ext (s : ByteArray) (h : 0 < s.size) : s.extract 0 1 = mk [s[0]] := by
  apply ByteArray.ext
  apply Array.ext'
  rw [Lib.extract_data]
  show ((bs s).drop 0).take (1 - 0) = [s[0]]
  rw [List.drop_zero, Nat.sub_zero]
  have hp : 0 < (bs s).length := h
  cases hb : bs s with
  | nil => rw [hb] at hp; simp at hp
  | cons x r =>
    have : (bs s)[0] = s[0] := rfl
    simp only [hb, List.getElem_cons_zero] at this
    rw [this]; rfl
def prefV (c : UInt8) (s : ByteArray) : Value := if 0 < s.size ∧ (bs s).headD 0 = c then .tuple #[.string (mk ((bs s).tail)), .bool true] else .tuple #[.string s, .bool false]
theorem head_bs0 {s : ByteArray} (h : 0 < s.size) : (bs s).headD 0 = s[0] := by
  have hp : 0 < (bs s).length := h
  have e : (bs s)[0] = s[0] := rfl
  rw [← e, List.headD_eq_head?_getD, List.head?_eq_getElem?, List.getElem?_eq_getElem hp]; rfl
set_option maxHeartbeats 1000000 in
set_option maxRecDepth 100000 in
theorem hasPre_any (s : ByteArray) (c : UInt8) (w : World) (hs : s.size ≤ 16777216) : Calls Tryd.prog 111 #[.string s, .string ⟨#[c]⟩] w fun e w' => e = .returned (.bool (decide (0 < s.size ∧ (bs s).headD 0 = c))) ∧ w = w' := by
  have h1 : (⟨#[c]⟩ : ByteArray).size = 1 := rfl
  by_cases h0 : 0 < s.size
  · have hz : 1 ≤ s.size := h0
    have hx := take1_ext s h0
    have hb := head_bs0 h0
    by_cases he : s[0] = c
    · have E := Lib.hid (show decide (0 < s.size ∧ (bs s).headD 0 = c) = true from decide_eq_true ⟨h0, hb.trans he⟩)
      have heq : ((s.extract 0 1).toList == [c]) = true := by rw [ByteArray.toList_eq, hx, he]; exact beq_self_eq_true _
      clear hx hb he
      rw [E.out]
      go_enter Tryd.func111, Tryd.ntmps111
      go_wp2
      go_ret
      exact ⟨rfl, rfl⟩
    · have E := Lib.hid (show decide (0 < s.size ∧ (bs s).headD 0 = c) = false from decide_eq_false (fun h => he (hb.symm.trans h.2)))
      have heq : ((s.extract 0 1).toList == [c]) = false := by
        rw [ByteArray.toList_eq, hx, beq_eq_false_iff_ne]; intro e
        have e' : [s[0]] = [c] := e
        injection e' with e' _; exact he e'
      clear hx hb he
      rw [E.out]
      go_enter Tryd.func111, Tryd.ntmps111
      go_wp2
      go_ret
      exact ⟨rfl, rfl⟩
  · have E := Lib.hid (show decide (0 < s.size ∧ (bs s).headD 0 = c) = false from decide_eq_false (fun h => h0 h.1))
    have hz : ¬ 1 ≤ s.size := by omega
    rw [E.out]
    go_enter Tryd.func111, Tryd.ntmps111
    go_wp2
    go_ret
    exact ⟨rfl, rfl⟩
set_option maxHeartbeats 1000000 in
set_option maxRecDepth 100000 in
theorem cutPre_any (s : ByteArray) (c : UInt8) (w : World) (hs : s.size ≤ 16777216) : Calls Tryd.prog 98 #[.string s, .string ⟨#[c]⟩] w fun e w' => e = .returned (prefV c s) ∧ w = w' := by
  have hH := fun w => hasPre_any s c w hs
  have h1 : (⟨#[c]⟩ : ByteArray).size = 1 := rfl
  by_cases h0 : 0 < s.size ∧ (bs s).headD 0 = c
  · have E := Lib.hid (show prefV c s = .tuple #[.string (mk ((bs s).tail)), .bool true] by unfold prefV; rw [if_pos h0])
    rw [decide_eq_true h0] at hH
    have HH := Lib.hid hH
    have hx := drop1_ext s
    have hz : 1 ≤ s.size := h0.1
    clear hH h0
    rw [E.out]
    go_enter Tryd.func98, Tryd.ntmps98
    go_wp2_with (go_at_call 111; refine (HH.out _).mono ?_; rintro e w' ⟨rfl, rfl⟩)
    go_ret2
    exact ⟨rfl, rfl⟩
  · have E := Lib.hid (show prefV c s = .tuple #[.string s, .bool false] by unfold prefV; rw [if_neg h0])
    rw [decide_eq_false h0] at hH
    have HH := Lib.hid hH
    clear hH h0
    rw [E.out]
    go_enter Tryd.func98, Tryd.ntmps98
    go_wp2_with (go_at_call 111; refine (HH.out _).mono ?_; rintro e w' ⟨rfl, rfl⟩)
    go_ret2
    exact ⟨rfl, rfl⟩
set_option maxHeartbeats 1000000 in
set_option maxRecDepth 100000 in
theorem CutPrefix_any (s : ByteArray) (c : UInt8) (w : World) (hs : s.size ≤ 16777216) : Calls Tryd.prog 70 #[.string s, .string ⟨#[c]⟩] w fun e w' => e = .returned (prefV c s) ∧ w = w' := by
  have hH := fun w => cutPre_any s c w hs
  unfold prefV at *
  by_cases h0 : 0 < s.size ∧ (bs s).headD 0 = c
  · simp only [if_pos h0] at hH ⊢
    have HH := Lib.hid hH
    clear hH h0
    go_enter Tryd.func70, Tryd.ntmps70
    go_wp2_with (go_at_call 98; refine (HH.out _).mono ?_; rintro e w' ⟨rfl, rfl⟩)
    go_ret2
    exact ⟨rfl, rfl⟩
  · simp only [if_neg h0] at hH ⊢
    have HH := Lib.hid hH
    clear hH h0
    go_enter Tryd.func70, Tryd.ntmps70
    go_wp2_with (go_at_call 98; refine (HH.out _).mono ?_; rintro e w' ⟨rfl, rfl⟩)
    go_ret2
    exact ⟨rfl, rfl⟩
theorem fitE_nil' : FitE [] := fun p hp => absurd hp List.not_mem_nil
def RfRes (r : Option (List En)) (w : World) (e : Ending) (w' : World) : Prop := ∃ v, e = .returned (.tuple #[v, .bool r.isSome]) ∧ Own w' w.heap.size 126 2 encE v (r.getD []) ∧ Below w.heap.size w w'
theorem RfRes.no {r : Option (List En)} (h : r = none) {w w' : World} (hb : Below w.heap.size w w') : RfRes r w (.returned (.tuple #[.slice none 0 0, .bool false])) w' := by
  subst h; exact ⟨_, rfl, Own.nil, hb⟩
theorem RfRes.yes {r : Option (List En)} {l : List En} (h : r = some l) {w w' : World} {v : Value} (ho : Own w' w.heap.size 126 2 encE v l) (hb : Below w.heap.size w w') : RfRes r w (.returned (.tuple #[v, .bool true])) w' := by
  subst h; exact ⟨_, rfl, ho, hb⟩
theorem readF_head {s : ByteArray} (h : ¬ (0 < s.size ∧ (bs s).headD 0 = 100)) : readF (bs s) = none := readF_none fun l _ e => by
  apply h
  have h2 := size_bs s
  rw [← e] at h2 ⊢
  unfold foldB at h2 ⊢
  rw [List.length_cons] at h2
  exact ⟨by omega, rfl⟩
set_option maxHeartbeats 2000000 in
set_option maxRecDepth 100000 in
theorem iReadFolder_any (s : ByteArray) (w : World) (hs : s.size ≤ 1048576) (ht : TzL w) (hm : MaxL w) :
    Calls Tryd.prog 97 #[.string s] w (RfRes (readF (bs s)) w) := by
  have HT := Lib.hid ht
  have HM := Lib.hid hm
  have hCP := fun w => CutPrefix_any s 100 w (by omega)
  unfold prefV at hCP
  clear ht hm
  by_cases h0 : 0 < s.size ∧ (bs s).headD 0 = 100
  case neg =>
    have E := Lib.hid (readF_head h0)
    simp only [if_neg h0] at hCP
    have HCP := Lib.hid hCP
    clear hCP h0
    go_enter Tryd.func97, Tryd.ntmps97
    go_wp2_with (go_at_call 70; refine (HCP.out _).mono ?_; rintro e w' ⟨rfl, rfl⟩)
    go_ret2
    exact RfRes.no E.out (Below.refl _ _)
  simp only [if_pos h0] at hCP
  have HCP := Lib.hid hCP
  have hne := bs_ne_nil h0.1
  have HC0 := Lib.hid (show FC (bs s) [] (bs s).tail by rw [← List.drop_one]; exact FC.start (bs s))
  have hr0 : ((bs s).tail).length ≤ s.size := by rw [List.length_tail, size_bs]; omega
  have HDN := Lib.hid (fun acc (h : FC (bs s) acc []) => h.done hne)
  clear hCP h0 hne
  generalize hS : bs s = S at *
  generalize S.tail = R0 at *
  have HS := Lib.hid hS
  clear hS
  go_enter Tryd.func97, Tryd.ntmps97
  go_wp2_with (go_at_call 70; refine (HCP.out _).mono ?_; rintro e w' ⟨rfl, rfl⟩)
  go_loopw [4, 6] (fun r v wr => ∃ (rb : ByteArray) (acc : List En), r = .string rb ∧ rb.size ≤ s.size ∧ acc.length ≤ 3 ∧ Hid (FitE acc) ∧ Hid (FC S acc (bs rb)) ∧ Own wr w.heap.size 126 2 encE v acc ∧ Below w.heap.size w wr) (fun r _ _ => match r with | .string x => x.size | _ => 0)
  case atStart => exact ⟨mk R0, [], rfl, by rw [mk_size]; exact hr0, Nat.zero_le _, fitE_nil', HC0.out, Own.nil, Below.refl _ _⟩
  case round =>
    obtain ⟨rb, acc, rfl, hrl, ha3, HF, HC, hown, hb⟩ := hrel
    obtain ⟨X, d, rfl, hle, hsX, _⟩ := hown.sl
    have HW := Lib.hid hown
    have HSX := Lib.hid hsX
    have HB := Lib.hid hb
    clear hown hsX hb
    by_cases hre : rb.size = 0
    · have hnil := nil_tl hre
      have hdn := HDN.out acc (by have := HC.out; rwa [show bs rb = [] from List.eq_nil_of_length_eq_zero hre] at this)
      have HFT := Lib.hid (fun w h h2 => iFolderText_any X d acc w h (by omega) HF.out h2)
      clear hre
      by_cases he : foldT acc = S
      · rw [if_pos he] at hdn
        have HE := Lib.hid hdn
        have heq : ((mk (foldT acc)).toList == s.toList) = true := by rw [eq_tlx, HS.out]; exact beq_iff_eq.2 he
        clear hdn he
        go_wp2_with fail
        refine (HFT.out _ HSX.out (HT.out.below HB.out)).mono ?_
        rintro e w1 ⟨rfl, hb1⟩
        have HW1 := Lib.hid (HW.out.below hb1)
        have HB1 := Lib.hid (Below_then HB.out hb1 (Nat.le_refl _))
        clear hb1
        go_wp2
        go_ret2
        exact RfRes.yes HE.out HW1.out HB1.out
      · rw [if_neg he] at hdn
        have HE := Lib.hid hdn
        have heq : ((mk (foldT acc)).toList == s.toList) = false := by rw [eq_tlx, HS.out]; exact beq_eq_false_iff_ne.2 he
        clear hdn he
        go_wp2_with fail
        refine (HFT.out _ HSX.out (HT.out.below HB.out)).mono ?_
        rintro e w1 ⟨rfl, hb1⟩
        have HB1 := Lib.hid (Below_then HB.out hb1 (Nat.le_refl _))
        clear hb1
        go_wp2
        go_ret2
        exact RfRes.no HE.out HB1.out
    · have hpos : 0 < rb.size := by omega
      obtain ⟨hne, hne2⟩ := ne_tl (s := rb) hpos
      have hnb := bs_ne_nil hpos
      have hct := fun w h => Cut_any rb 59 w (by omega) h
      unfold cutV at hct
      clear hre
      cases hcu : cutC 59 (bs rb) with
      | none =>
        have HE := Lib.hid (HC.out.fail1 hnb hcu)
        simp only [hcu] at hct
        have HCT := Lib.hid hct
        have hc2 := fun w h => Cut_any rb 61 w (by omega) h
        unfold cutV at hc2
        clear hct hcu hnb
        cases hcv : cutC 61 (bs rb) with
        | none =>
          simp only [hcv] at hc2
          have HC2 := Lib.hid hc2
          clear hc2 hcv
          go_wp2_with fail
          refine (HCT.out _ (HM.out.below HB.out)).mono ?_
          rintro e w1 ⟨rfl, hb1⟩
          have HB1 := Lib.hid (Below_then HB.out hb1 (Nat.le_refl _))
          clear hb1
          go_wp2_with fail
          refine (HC2.out _ (HM.out.below HB1.out)).mono ?_
          rintro e w2 ⟨rfl, hb2⟩
          have HB2 := Lib.hid (Below_then HB1.out hb2 (Nat.le_refl _))
          clear hb2
          go_wp2
          go_ret2
          exact RfRes.no HE.out HB2.out
        | some x =>
          simp only [hcv] at hc2
          have HC2 := Lib.hid hc2
          clear hc2 hcv
          go_wp2_with fail
          refine (HCT.out _ (HM.out.below HB.out)).mono ?_
          rintro e w1 ⟨rfl, hb1⟩
          have HB1 := Lib.hid (Below_then HB.out hb1 (Nat.le_refl _))
          clear hb1
          go_wp2_with fail
          refine (HC2.out _ (HM.out.below HB1.out)).mono ?_
          rintro e w2 ⟨rfl, hb2⟩
          have HB2 := Lib.hid (Below_then HB1.out hb2 (Nat.le_refl _))
          clear hb2
          go_wp2
          go_ret2
          exact RfRes.no HE.out HB2.out
      | some x =>
        obtain ⟨pp, aa⟩ := x
        have hlen := cutC_len hcu
        have hpz : (mk pp).size ≤ 16777216 := by rw [mk_size]; omega
        have haz : (mk aa).size < rb.size := by rw [mk_size]; omega
        simp only [hcu] at hct
        have HCT := Lib.hid hct
        have hc2 := fun w h => Cut_any (mk pp) 61 w hpz h
        unfold cutV at hc2
        rw [show bs (mk pp) = pp from rfl] at hc2
        have HF2 := Lib.hid (fun h => HC.out.fail2 hnb hcu h)
        have HF3 := Lib.hid (fun h => HC.out.fail3 hnb h)
        have HST := Lib.hid (fun n dg h => HC.out.step (n := n) (d := dg) hnb hcu h)
        clear hct hcu
        cases hcv : cutC 61 pp with
        | none =>
          have HE := Lib.hid (HF2.out hcv)
          simp only [hcv] at hc2
          have HC2 := Lib.hid hc2
          clear hc2 hcv hnb hlen HF2 HF3 HST
          generalize mk pp = PP at *
          generalize mk aa = AA at *
          go_wp2_with fail
          refine (HCT.out _ (HM.out.below HB.out)).mono ?_
          rintro e w1 ⟨rfl, hb1⟩
          have HB1 := Lib.hid (Below_then HB.out hb1 (Nat.le_refl _))
          clear hb1
          go_wp2_with fail
          refine (HC2.out _ (HM.out.below HB1.out)).mono ?_
          rintro e w2 ⟨rfl, hb2⟩
          have HB2 := Lib.hid (Below_then HB1.out hb2 (Nat.le_refl _))
          clear hb2
          go_wp2
          go_ret2
          exact RfRes.no HE.out HB2.out
        | some y =>
          obtain ⟨nn, dg⟩ := y
          have hlen2 := cutC_len (s := mk pp) hcv
          rw [mk_size] at hlen2
          have hnz : (mk nn).size ≤ 16777216 := by rw [mk_size]; omega
          have hdz : (mk dg).size ≤ 16777216 := by rw [mk_size]; omega
          simp only [hcv] at hc2
          have HC2 := Lib.hid hc2
          have HRH := Lib.hid (fun w h => iReadHex_any (mk dg) w hdz h)
          rw [show bs (mk dg) = dg from rfl] at HRH
          have HN := Lib.hid (show FC S (acc ++ [(mk nn, readH dg)]) (bs (mk aa)) from HST.out nn dg hcv)
          have HFN := Lib.hid (show FitE (acc ++ [(mk nn, readH dg)]) from fun q hq => by
            rcases List.mem_append.1 hq with h | h
            · exact HF.out q h
            · rw [List.mem_singleton.1 h]; exact hnz)
          clear hc2 hcv hnb hlen hlen2 HF2 HST
          generalize readH dg = hx at *
          generalize mk pp = PP at *
          generalize mk aa = AA at *
          generalize mk dg = DG at *
          generalize mk nn = NN at *
          by_cases h3 : acc.length = 3
          · have HE := Lib.hid (HF3.out (by omega))
            have h3' : (acc.length : Int) = 3 := by omega
            clear HN HFN
            go_wp2_with fail
            refine (HCT.out _ (HM.out.below HB.out)).mono ?_
            rintro e w1 ⟨rfl, hb1⟩
            have HB1 := Lib.hid (Below_then HB.out hb1 (Nat.le_refl _))
            clear hb1
            go_wp2_with fail
            refine (HC2.out _ (HM.out.below HB1.out)).mono ?_
            rintro e w2 ⟨rfl, hb2⟩
            have HB2 := Lib.hid (Below_then HB1.out hb2 (Nat.le_refl _))
            clear hb2
            go_wp2
            go_ret2
            exact RfRes.no HE.out HB2.out
          · have h3' : ¬ (acc.length : Int) = 3 := by omega
            go_wp2_with fail
            refine (HCT.out _ (HM.out.below HB.out)).mono ?_
            rintro e w1 ⟨rfl, hb1⟩
            have HW1 := Lib.hid (HW.out.below hb1)
            have HB1 := Lib.hid (Below_then HB.out hb1 (Nat.le_refl _))
            clear hb1
            go_wp2_with fail
            refine (HC2.out _ (HM.out.below HB1.out)).mono ?_
            rintro e w2 ⟨rfl, hb2⟩
            have HW2 := Lib.hid (HW1.out.below hb2)
            have HB2 := Lib.hid (Below_then HB1.out hb2 (Nat.le_refl _))
            clear hb2
            go_wp2_with fail
            refine (HRH.out _ (HT.out.below HB2.out)).mono ?_
            rintro e w3 ⟨rfl, hb3⟩
            have HW3 := Lib.hid (HW2.out.below hb3)
            have HB3 := Lib.hid (Below_then HB2.out hb3 (Nat.le_refl _))
            clear hb3
            go_wp2_with (at_builtin; refine app_en (w0 := w) (y := (NN, hx)) rfl rfl rfl rfl HW3.out HB3.out (Nat.le_refl _) HB3.out.size (by omega) ?_; intro v4 w4 hown4 hb4; have HW4 := Lib.hid hown4; have HB4 := Lib.hid hb4; clear hown4 hb4)
            go_roundw
            case rel => exact ⟨AA, _, rfl, by omega, by simp; omega, HFN.out, HN.out, HW4.out, HB4.out⟩
            case measure => simpa using haz
end Go.Proofs.YtbpngpcjjinneaaDoor

/- ReadFolder of the reference, walked. -/
set_option linter.unusedVariables false
namespace Go.Proofs.YtbpngpcjjinneaaDoor
open Go.RowKit
theorem RfRes.made {r : Option (List En)} (h : r = none) {w w' : World} (hb : Below w.heap.size w w') : RfRes r w (.returned (.tuple #[.slice (some ⟨w'.heap.size, 0, none⟩) 0 0, .bool false])) (w'.alloc (.cells #[] 126)) := by
  subst h; exact ⟨_, rfl, Own.made hb.size, hb.alloc hb.size _⟩
theorem ext_drop (s : ByteArray) (a b : Nat) : s.extract a b = mk (((bs s).drop a).take (b - a)) := by
  apply ByteArray.ext
  apply Array.ext'
  rw [Lib.extract_data]; rfl
abbrev rowE (y : En) : Obj := .cells #[.string y.1, .int .i64 y.2] 126
section
variable {ops : Array Oper} {o : Oper} {a : Act} {K : Act → World → Prop} {Q : Exit → Act → World → Prop} {E' : Prop} {l : List En} {s x : Operand}
theorem one_rowE {W : World} {y : En} : Sl (W.alloc (rowE y)) encE 2 (some ⟨W.heap.size, 0, none⟩) [y] := by
  intro _
  refine ⟨W.heap.size, 0, rfl, fun j u hu => ?_⟩
  rw [cell_of_row _ _ _ _ _ (0, 0) (heap_alloc_new W _)]
  simpa [flat, encE] using hu
theorem step_en_g {w0 W : World} {v : Value} {y : En} (hown : Own W w0.heap.size 126 2 encE v l) (hb : Below w0.heap.size w0 W) (hl : l.length ≤ 16777216) (hw : Region.wanted o (yielded ops a.tmps) = true) (ho : o.op = .call { callee := .builtin .append, args := #[s, x], argTypes := #[98, 98] })
    (hs : a.eval s = v) (hx : a.eval x = .slice (some ⟨W.heap.size, 0, none⟩) 1 1)
    (h : ∀ v' w', Own w' w0.heap.size 126 2 encE v' (l ++ [y]) → Below w0.heap.size w0 w' → K (a.put o.dst v') w') : if Region.wanted o (yielded ops a.tmps) = true then Oper.wp Tryd.prog o a (W.drew.alloc (rowE y)) K Q else E' := by
  obtain ⟨i0, hi0, hz0, hz1, hz2⟩ := info_parts en_info
  exact step_appW (l := l) (m := [y]) Tryd.underlying98 hi0 hz0 hz1 hz2 rfl (by decide) (by decide) hw s x ho (hown.drew.alloc _) (hb.drew.alloc hb.size _) (Nat.le_refl _) (by simp; exact Nat.le_succ_of_le hb.size) (by simp; omega) (one_rowE (W := W.drew)) (by intro h; cases h) (fun _ => rfl) oneE hs hx fun v' w' h1 h2 _ => h v' w' h1 h2
end
set_option maxHeartbeats 2000000 in
set_option maxRecDepth 100000 in
theorem sReadFolder_any (s : ByteArray) (w : World) (hs : s.size ≤ 1048576) :
    Calls Tryd.prog 93 #[.string s] w (RfRes (readF (bs s)) w) := by
  have HC0 := Lib.hid (FC.start (bs s))
  go_enter Tryd.func93, Tryd.ntmps93
  go_wp2_with fail
  go_loopw [4, 5] (fun v i wr => ∃ (t : Nat) (acc : List En), i = .int .i64 t ∧ 1 ≤ t ∧ acc.length ≤ t ∧ t ≤ s.size + 1 ∧ Hid (FitE acc) ∧ Hid (FC (bs s) acc ((bs s).drop t)) ∧ Own wr w.heap.size 126 2 encE v acc ∧ Below w.heap.size w wr) (fun _ i _ => s.size + 1 - (intOf i).toNat)
  case atStart => exact ⟨1, [], rfl, Nat.le_refl _, by simp, by omega, fitE_nil', HC0.out, Own.made (Nat.le_refl _), (Below.refl _ _).alloc (Nat.le_refl _) _⟩
  case round =>
    obtain ⟨t, acc, rfl, ht1, hat, hts, HF, HC, hown, hb⟩ := hrel
    obtain ⟨X, d, rfl, hle, hsX, _⟩ := hown.sl
    have HW := Lib.hid hown
    have HSX := Lib.hid hsX
    have HB := Lib.hid hb
    clear hown hsX hb
    by_cases hlt : t < s.size
    · obtain ⟨rest, hrest⟩ : ∃ r, r = (bs s).drop t := ⟨_, rfl⟩
      have hrl : rest.length = s.size - t := by rw [hrest, List.length_drop, size_bs]
      have hne : rest ≠ [] := fun e => by rw [e] at hrl; simp at hrl; omega
      have hFC := HC.out
      rw [← hrest] at hFC
      have HSF := Lib.hid (hFC.sfail hne)
      have HSS := Lib.hid (hFC.sstep hne)
      have hh1 := headC_le 61 rest
      have HN1 := Lib.hid (headC_ne 61 rest)
      have HA1 := Lib.hid (headC_at 61 rest)
      obtain ⟨h1, hh⟩ : ∃ h, h = (headC 61 rest).length := ⟨_, rfl⟩
      rw [← hh] at HSF HSS hh1 HN1 HA1
      have hh2 := headC_le 59 (rest.drop h1)
      have HN2 := Lib.hid (headC_ne 59 (rest.drop h1))
      have HA2 := Lib.hid (headC_at 59 (rest.drop h1))
      obtain ⟨h2, hhh⟩ : ∃ h, h = (headC 59 (rest.drop h1)).length := ⟨_, rfl⟩
      rw [← hhh] at HSF HSS hh2 HN2 HA2
      rw [List.length_drop] at hh2
      have HR := Lib.hid hrest
      have HG := Lib.hid (show ∀ j (h : j < rest.length) (h' : t + j < s.size), rest[j] = s[t + j] from fun j h h' => by
        have e : rest[j]? = (bs s)[t + j]? := by rw [hrest, List.getElem?_drop]
        rw [List.getElem?_eq_getElem h, List.getElem?_eq_getElem (show t + j < (bs s).length from h')] at e
        injection e)
      have HRL := Lib.hid hrl
      clear hrest hFC hh hhh hne
      go_wp2_with fail
      go_loop [6] (fun j => ∃ (q : Nat), q ≤ h1 ∧ j = .int .i64 ((t + q : Nat) : Int)) (fun j => h1 + t - (intOf j).toNat)
      case atStart => exact ⟨0, Nat.zero_le _, rfl⟩
      case round =>
        obtain ⟨q, hq, rfl⟩ := hrel
        by_cases hqh : q < h1
        · have hin : t + q < s.size := by omega
          have hne : ¬ s[t + q].toNat = 61 := by
            have h3 := HN1.out q (by omega) hqh
            rw [HG.out q (by omega) hin] at h3
            intro e; exact h3 (UInt8.toNat_inj.1 e)
          have hne2 : ¬ ((s[t + q].toNat : Int) = 61) := by omega
          have hin2 : ((t + q : Nat) : Int) < (s.size : Int) := by omega
          go_wp2
          go_round
          case rel => exact ⟨q + 1, by omega, by go_num⟩
          case measure => simp [intOf]; omega
        · obtain rfl : q = h1 := by omega
          have hst1 : t + q < s.size → ∃ h : t + q < s.size, s[t + q].toNat = 61 := fun h => ⟨h, by
            have h3 := HA1.out (by omega)
            rw [HG.out q (by omega) h] at h3
            rw [h3]; rfl⟩
          have HS1 := Lib.hid hst1
          have HH2 := Lib.hid (show ∀ p, p < h2 → ∀ h : t + q + p < s.size, ¬ s[t + q + p].toNat = 59 from fun p hp h e => by
            have h3 := HN2.out p (by rw [List.length_drop]; omega) hp
            rw [List.getElem_drop, HG.out (q + p) (by omega) (by omega)] at h3
            apply h3
            have e2 : t + (q + p) = t + q + p := by omega
            simp only [e2]
            exact UInt8.toNat_inj.1 e)
          have HS2 := Lib.hid (show ∀ h : t + q + h2 < s.size, s[t + q + h2].toNat = 59 from fun h => by
            have h3 := HA2.out (by rw [List.length_drop]; omega)
            rw [List.getElem_drop, HG.out (q + h2) (by omega) (by omega)] at h3
            have e2 : t + (q + h2) = t + q + h2 := by omega
            simp only [e2] at h3
            rw [h3]; rfl)
          have HP1 := Lib.hid (show t + q + h2 < s.size → 1 ≤ h2 from fun h => by
            by_cases e : h2 = 0
            · obtain ⟨h5, h6⟩ := HS1.out (by omega)
              have h7 := HS2.out h
              simp only [e, Nat.add_zero] at h7
              rw [h6] at h7; cases h7
            · omega)
          have HE1 := Lib.hid (show s.extract t (t + q) = mk (rest.take q) by rw [ext_drop, ← HR.out]; congr 2; omega)
          have HE2 := Lib.hid (show s.extract (t + q + 1) (t + q + h2) = mk ((rest.drop (q + 1)).take (h2 - 1)) by
            rw [ext_drop, HR.out, List.drop_drop, show t + (q + 1) = t + q + 1 by omega]; congr 2; omega)
          have HE3 := Lib.hid (show rest.drop (q + h2 + 1) = (bs s).drop (t + q + h2 + 1) by rw [HR.out, List.drop_drop]; congr 1; omega)
          have hq2 : q + h2 ≤ rest.length := by omega
          clear hst1 HN1 HA1 HN2 HA2 HG HR
          have hsl : t + q + h2 ≤ s.size := by omega
          have HLT := Lib.hid (show t + q + h2 < s.size → q + h2 < rest.length from fun h => by omega)
          have HGE := Lib.hid (show ¬ t + q + h2 < s.size → ¬ q + h2 < rest.length from fun h => by omega)
          have htsg : t ≤ t + q := by omega
          have hnn : (mk (rest.take q)).size ≤ 16777216 := by rw [mk_size, List.length_take]; omega
          have hdd : (mk ((rest.drop (q + 1)).take (h2 - 1))).size ≤ 16777216 := by rw [mk_size, List.length_take, List.length_drop]; omega
          have hRH := fun w => sReadHex_any (mk ((rest.drop (q + 1)).take (h2 - 1))) w hdd
          rw [show bs (mk ((rest.drop (q + 1)).take (h2 - 1))) = (rest.drop (q + 1)).take (h2 - 1) from rfl] at hRH
          have HRH := Lib.hid hRH
          clear hRH
          rw [HE3.out] at HSS
          clear HE3
          generalize readH ((rest.drop (q + 1)).take (h2 - 1)) = hx at *
          generalize mk ((rest.drop (q + 1)).take (h2 - 1)) = DG at *
          generalize mk (rest.take q) = NN at *
          generalize hsg : t + q = sg at *
          have hex : (sg < s.size ∧ ∃ h : sg < s.size, s[sg].toNat = 61) ∨ ¬ sg < s.size := by
            by_cases h : sg < s.size
            · exact .inl ⟨h, HS1.out h⟩
            · exact .inr h
          rcases hex with ⟨hz, _, h61⟩ | hz
          case inr =>
            have hz2 : h2 = 0 := by omega
            subst hz2
            have hE := HSF.out (HGE.out (by omega))
            have heq : (sg : Int) = (s.size : Int) := by omega
            have HE := Lib.hid hE
            clear hE HSF HSS HH2 HS2 HP1 HS1 HE1 HE2 HRL HLT HGE
            go_wp2_with fail
            go_loop [7] (fun j => j = .int .i64 (s.size : Int)) (fun _ => 0)
            case atStart => rfl
            case round =>
              subst hrel
              go_wp2
              go_ret2
              exact RfRes.made HE.out HB.out
          case inl =>
            go_wp2_with fail
            go_loop [7] (fun j => ∃ (p : Nat), p ≤ h2 ∧ j = .int .i64 ((sg + p : Nat) : Int)) (fun j => h2 + sg - (intOf j).toNat)
            case atStart => exact ⟨0, Nat.zero_le _, rfl⟩
            case round =>
              obtain ⟨p, hp, rfl⟩ := hrel
              by_cases hph : p < h2
              · have hin : sg + p < s.size := by omega
                have hne := HH2.out p hph hin
                have hne2 : ¬ ((s[sg + p].toNat : Int) = 59) := by omega
                have hin2 : ((sg + p : Nat) : Int) < (s.size : Int) := by omega
                go_wp2
                go_round
                case rel => exact ⟨p + 1, by omega, by go_num⟩
                case measure => simp [intOf]; omega
              · obtain rfl : p = h2 := by omega
                by_cases hend : sg + p < s.size
                · have h59 := HS2.out hend
                  have hp1 := HP1.out hend
                  have hq3 := HLT.out hend
                  have HN := Lib.hid HSS.out
                  have HFN := Lib.hid (show FitE (acc ++ [(NN, hx)]) from fun z hz => by
                    rcases List.mem_append.1 hz with h | h
                    · exact HF.out z h
                    · rw [List.mem_singleton.1 h]; exact hnn)
                  have he1 := HE1.out
                  have he2 := HE2.out
                  have hnd : ¬ ((sg + p : Nat) : Int) = (s.size : Int) := by omega
                  have hw1 : IntKind.i64.wrap ((sg : Int) + 1) = (sg : Int) + 1 := IntWalk.i64_in _ (by omega)
                  have hw2 : (0 : Int) ≤ (sg : Int) + 1 := by omega
                  have hw3 : ((sg : Int) + 1).toNat = sg + 1 := by omega
                  have HL := Lib.hid (show acc.length ≤ 16777216 by omega)
                  have HTT := Lib.hid (show t ≤ sg ∧ acc.length ≤ t ∧ sg + p < s.size from ⟨htsg, hat, hend⟩)
                  have hsgs : sg < s.size := by omega
                  clear HH2 HS2 HP1 HS1 HSF HSS HE1 HE2 HRL HLT HGE hsg
                  generalize hen : sg + p = en at *
                  have hw4 : (sg : Int) + 1 ≤ (en : Int) := by omega
                  have hw5 : (en : Int) ≤ (s.size : Int) := by omega
                  have hw6 : sg + 1 ≤ en := by omega
                  have hw7 : en ≤ s.size := by omega
                  have hw8 : sg ≤ s.size := by omega
                  have hw9 : (t : Int) ≤ (sg : Int) := by omega
                  have hw10 : (sg : Int) ≤ (s.size : Int) := by omega
                  clear hen
                  go_wp2_with fail
                  first
                    | go_region_held3 (fun w' => True) (trivial)
                        ((first
                          | (go_at_call 53; refine (HRH.out _).mono ?_; rintro e w3 ⟨rfl, rfl⟩)
                          | (refine step_en_g (w0 := w) (y := (NN, hx)) HW.out HB.out HL.out (by rfl) rfl (by rfl) (by rfl) ?_; intro v4 w4 hown4 hb4; have HW4 := Lib.hid hown4; have HB4 := Lib.hid hb4; clear hown4 hb4)))
                    | fail
                  all_goals
                    go_wp2
                    go_roundw
                    case rel => exact ⟨en + 1, _, by go_num, by omega, by have := HTT.out; simp; omega, by omega, HFN.out, HN.out, HW4.out, HB4.out⟩
                    case measure => have := HTT.out; simp [intOf]; omega
                · have HE := Lib.hid (HSF.out (HGE.out hend))
                  have heq : ((sg + p : Nat) : Int) = (s.size : Int) := by omega
                  clear HSF HSS HH2 HS2 HP1 HS1 HE1 HE2 HRL HLT HGE
                  go_wp2
                  go_ret2
                  exact RfRes.made HE.out HB.out
    · have hnil : (bs s).drop t = [] := List.drop_eq_nil_of_le (by rw [size_bs]; omega)
      have hFC := HC.out
      rw [hnil] at hFC
      have HFT := Lib.hid (fun w h => sFolderText_any X d acc w h (by omega) HF.out)
      have hR : (0 < s.size ∧ (foldT acc = bs s) ∧ readF (bs s) = some acc) ∨ ((s.size = 0 ∨ foldT acc ≠ bs s) ∧ readF (bs s) = none) := by
        by_cases h0 : 0 < s.size
        · have hd := hFC.done (bs_ne_nil h0)
          by_cases he : foldT acc = bs s
          · rw [if_pos he] at hd; exact .inl ⟨h0, he, hd⟩
          · rw [if_neg he] at hd; exact .inr ⟨.inr he, hd⟩
        · exact .inr ⟨.inl (by omega), readF_head (fun h => h0 h.1)⟩
      clear hFC hnil
      rcases hR with ⟨h0, he, hr⟩ | ⟨h0, hr⟩
      · have HE := Lib.hid hr
        have heq : ((mk (foldT acc)).toList == s.toList) = true := by rw [eq_tlx]; exact beq_iff_eq.2 he
        obtain ⟨hne, hne2⟩ := ne_tl (s := s) h0
        clear hr he
        go_wp2_with fail
        refine (HFT.out _ HSX.out).mono ?_
        rintro e w1 ⟨rfl, hb1⟩
        have HW1 := Lib.hid (HW.out.below hb1)
        have HB1 := Lib.hid (Below_then HB.out hb1 (Nat.le_refl _))
        clear hb1
        go_wp2
        go_ret2
        exact RfRes.yes HE.out HW1.out HB1.out
      · have HE := Lib.hid hr
        clear hr
        cases heq : ((mk (foldT acc)).toList == s.toList)
        · clear h0
          go_wp2_with fail
          refine (HFT.out _ HSX.out).mono ?_
          rintro e w1 ⟨rfl, hb1⟩
          have HB1 := Lib.hid (Below_then HB.out hb1 (Nat.le_refl _))
          clear hb1
          go_wp2
          go_ret2
          exact RfRes.made HE.out HB1.out
        · have he : foldT acc = bs s := by rw [eq_tlx] at heq; exact beq_iff_eq.1 heq
          have hz := h0.resolve_right (fun h => h he)
          have hnil := nil_tl hz
          clear h0 he hz
          go_wp2_with fail
          refine (HFT.out _ HSX.out).mono ?_
          rintro e w1 ⟨rfl, hb1⟩
          have HB1 := Lib.hid (Below_then HB.out hb1 (Nat.le_refl _))
          clear hb1
          go_wp2
          all_goals
            go_ret2
            exact RfRes.made HE.out HB1.out
end Go.Proofs.YtbpngpcjjinneaaDoor

/- textOf and GetText of the program, walked. -/
set_option linter.unusedVariables false
namespace Go.Proofs.YtbpngpcjjinneaaDoor
open Go.RowKit

def GtRes (r : Option ByteArray) (w : World) (e : Ending) (w' : World) : Prop := e = .returned (.tuple #[.string (r.getD ⟨#[]⟩), .bool r.isSome]) ∧ Below w.heap.size w w'
set_option maxHeartbeats 4000000 in
set_option maxRecDepth 100000 in
theorem itextOf_any (A : Option Addr) (c : Nat) (l : List Pc) (x : Int) (w : World) (hs : Sl w encP 2 A l) (hl : l.length ≤ 16777216) (hso : Sorted l) :
    Calls Tryd.prog 96 #[.slice A l.length c, .int .i64 x] w (GtRes (getT l x) w) := by
  have hX := fun w h => findPiece_any A c l x w h hl hso
  have HS := Lib.hid hs
  have hg := getT_here hso (p := x)
  clear hs
  unfold FpRes at hX
  unfold GtRes
  rw [hg]
  cases hh : hereP l x
  · rw [hh] at hX
    have HX := Lib.hid hX
    clear hX hg hso hh
    go_enter Tryd.func96, Tryd.ntmps96
    go_wp2_with fail
    refine (HX.out _ HS.out).mono ?_
    rintro e w1 ⟨rfl, hb⟩
    have HB := Lib.hid hb
    clear hb
    go_wp2
    go_ret2
    exact ⟨rfl, HB.out⟩
  · have hlt : below l x < l.length := by unfold hereP at hh; simp at hh; exact hh.1
    rw [hh] at hX
    rw [getD_pc hlt]
    have HX := Lib.hid hX
    have HG := Lib.hid (fun (w : World) (h : Sl w encP 2 A l) => h.getP hlt)
    generalize l[below l x] = q at *
    obtain ⟨a, t⟩ := q
    simp only at *
    generalize below l x = B at *
    obtain ⟨b, o, rfl, _, _⟩ := HG.out w HS.out
    clear hX hg hso hh
    go_enter Tryd.func96, Tryd.ntmps96
    go_wp2_with fail
    refine (HX.out _ HS.out).mono ?_
    rintro e w1 ⟨rfl, hb⟩
    have HB := Lib.hid hb
    obtain ⟨b', o', e', hc0, hc1⟩ := HG.out _ (HS.out.below hb)
    have hbb : b' = b ∧ o' = o := by injection e' with e'; injection e' with e1 e2; exact ⟨e1.symm, e2.symm⟩
    obtain ⟨rfl, rfl⟩ := hbb
    clear hb e'
    go_wp2
    go_ret2
    exact ⟨rfl, HB.out⟩
end Go.Proofs.YtbpngpcjjinneaaDoor

/- ContentValid, ReadFile, TextKind, l4Get of the reference; folderOf of the program, walked. -/
set_option linter.unusedVariables false
namespace Go.Proofs.YtbpngpcjjinneaaDoor
open Go.RowKit
set_option maxHeartbeats 1000000 in
set_option maxRecDepth 100000 in
theorem sContentValid_any (s : ByteArray) (w : World) (hs : s.size ≤ 16777216) :
    Calls Tryd.prog 110 #[.string s] w fun e w' => e = .returned (.bool (contV (bs s))) ∧ w = w' := by
  have hTV := fun w => sTextValid_any s w hs
  have E := Lib.hid (show contV (bs s) = (textV (bs s) && decide (s.size ≤ 40)) from rfl)
  rw [E.out]
  cases hv : textV (bs s)
  · rw [hv] at hTV
    have HTV := Lib.hid hTV
    clear hTV hv E
    go_enter Tryd.func110, Tryd.ntmps110
    go_wp2_with (go_at_call 82; refine (HTV.out _).mono ?_; rintro e w' ⟨rfl, rfl⟩)
    go_ret
    exact ⟨rfl, rfl⟩
  · rw [hv] at hTV
    have HTV := Lib.hid hTV
    clear hTV hv E
    by_cases h : s.size ≤ 40
    · have h' : (s.size : Int) ≤ 40 := by omega
      rw [decide_eq_true h]
      clear h
      go_enter Tryd.func110, Tryd.ntmps110
      go_wp2_with (go_at_call 82; refine (HTV.out _).mono ?_; rintro e w' ⟨rfl, rfl⟩)
      go_ret
      first | exact ⟨rfl, rfl⟩ | exact ⟨ret_bool (decide_eq_true h'), rfl⟩
    · have h' : ¬ (s.size : Int) ≤ 40 := by omega
      rw [decide_eq_false h]
      clear h
      go_enter Tryd.func110, Tryd.ntmps110
      go_wp2_with (go_at_call 82; refine (HTV.out _).mono ?_; rintro e w' ⟨rfl, rfl⟩)
      go_ret
      first | exact ⟨rfl, rfl⟩ | exact ⟨ret_bool (decide_eq_false (Int.not_le.2 h')), rfl⟩
def RdRes (r : Option Bs) (w : World) (e : Ending) (w' : World) : Prop := e = .returned (.tuple #[.string (mk (r.getD [])), .bool r.isSome]) ∧ w = w'
theorem readFi_head {s : ByteArray} (h : 0 < s.size) : readFi (bs s) = if s[0] = 102 ∧ contV (bs s).tail = true then some (bs s).tail else none := by
  have hh := head_bs0 h
  cases hb : bs s with
  | nil => have := size_bs s; rw [hb] at this; simp at this; omega
  | cons x r =>
    rw [hb] at hh
    have hx : x = s[0] := by simpa using hh
    unfold readFi
    simp only [List.tail_cons, ← hx]
    by_cases h1 : x = 102 <;> cases h2 : contV r <;> simp [h1]
set_option maxHeartbeats 1000000 in
set_option maxRecDepth 100000 in
theorem sReadFile_any (s : ByteArray) (w : World) (hs : s.size ≤ 16777216) : Calls Tryd.prog 92 #[.string s] w (RdRes (readFi (bs s)) w) := by
  unfold RdRes
  by_cases h0 : 0 < s.size
  · have hE := readFi_head h0
    obtain ⟨hne, hne2⟩ := ne_tl (s := s) h0
    have hx := drop1_ext s
    have hz : 1 ≤ s.size := h0
    have hts : (mk (bs s).tail).size ≤ 16777216 := by rw [mk_size, List.length_tail, size_bs]; omega
    have hCV := fun w => sContentValid_any (mk (bs s).tail) w hts
    rw [show bs (mk (bs s).tail) = (bs s).tail from rfl] at hCV
    by_cases h1 : s[0] = 102
    · have h1n : (s[0].toNat : Int) = 102 := by rw [h1]; rfl
      cases hc : contV (bs s).tail
      · rw [if_neg (by rw [hc]; simp)] at hE
        rw [hc] at hCV
        have HCV := Lib.hid hCV
        have HE := Lib.hid hE
        clear hCV hE hc h1
        rw [HE.out]
        generalize mk (bs s).tail = TT at *
        go_enter Tryd.func92, Tryd.ntmps92
        go_wp2_with (go_at_call 110; refine (HCV.out _).mono ?_; rintro e w' ⟨rfl, rfl⟩)
        go_ret2
        exact ⟨rfl, rfl⟩
      · rw [if_pos ⟨h1, hc⟩] at hE
        rw [hc] at hCV
        have HCV := Lib.hid hCV
        have HE := Lib.hid hE
        clear hCV hE hc h1
        rw [HE.out]
        show Calls _ _ _ _ fun e w' => e = .returned (.tuple #[.string (mk (bs s).tail), .bool true]) ∧ w = w'
        generalize mk (bs s).tail = TT at *
        go_enter Tryd.func92, Tryd.ntmps92
        go_wp2_with (go_at_call 110; refine (HCV.out _).mono ?_; rintro e w' ⟨rfl, rfl⟩)
        go_ret2
        exact ⟨rfl, rfl⟩
    · have h1n : ¬ (s[0].toNat : Int) = 102 := by
        intro e; apply h1; apply UInt8.toNat_inj.1; show s[0].toNat = 102; omega
      rw [if_neg (fun h => h1 h.1)] at hE
      have HE := Lib.hid hE
      clear hE hCV h1 hx
      rw [HE.out]
      go_enter Tryd.func92, Tryd.ntmps92
      go_wp2
      go_ret2
      exact ⟨rfl, rfl⟩
  · have hz : s.size = 0 := by omega
    have HE := Lib.hid (show readFi (bs s) = none by rw [show bs s = [] from List.eq_nil_of_length_eq_zero hz]; rfl)
    have hnil := nil_tl hz
    rw [HE.out]
    clear h0 hz
    go_enter Tryd.func92, Tryd.ntmps92
    go_wp2
    go_ret2
    exact ⟨rfl, rfl⟩
set_option maxHeartbeats 1000000 in
set_option maxRecDepth 100000 in
theorem sTextKind_any (s : ByteArray) (w : World) (hs : s.size ≤ 1048576) : Calls Tryd.prog 64 #[.string s] w fun e w' => e = .returned (.int .i64 (textK (bs s))) ∧ Below w.heap.size w w' := by
  have hRF := fun w => sReadFile_any s w (by omega)
  have hRd := fun w => sReadFolder_any s w hs
  have hE : textK (bs s) = if (readFi (bs s)).isSome then 1 else if (readF (bs s)).isSome then 2 else 0 := rfl
  unfold RdRes at hRF
  unfold RfRes at hRd
  rw [hE]
  generalize readFi (bs s) = P at *
  generalize readF (bs s) = Q at *
  clear hE
  have HRF := Lib.hid hRF
  have HRd := Lib.hid hRd
  clear hRF hRd
  cases P with
  | none =>
    cases Q with
    | none =>
      go_enter Tryd.func64, Tryd.ntmps64
      go_wp2_with (go_at_call 92; refine (HRF.out _).mono ?_; rintro e w' ⟨rfl, rfl⟩)
      refine (HRd.out _).mono ?_
      rintro e w1 ⟨v, rfl, hown, hb⟩
      have HB := Lib.hid hb
      clear hb hown
      go_wp2
      go_ret
      exact ⟨rfl, HB.out⟩
    | some q =>
      go_enter Tryd.func64, Tryd.ntmps64
      go_wp2_with (go_at_call 92; refine (HRF.out _).mono ?_; rintro e w' ⟨rfl, rfl⟩)
      refine (HRd.out _).mono ?_
      rintro e w1 ⟨v, rfl, hown, hb⟩
      have HB := Lib.hid hb
      clear hb hown
      go_wp2
      go_ret
      exact ⟨rfl, HB.out⟩
  | some p =>
    go_enter Tryd.func64, Tryd.ntmps64
    go_wp2_with (go_at_call 92; refine (HRF.out _).mono ?_; rintro e w' ⟨rfl, rfl⟩)
    refine (HRd.out _).mono ?_
    rintro e w1 ⟨v, rfl, hown, hb⟩
    have HB := Lib.hid hb
    clear hb hown
    go_wp2
    go_ret
    exact ⟨rfl, HB.out⟩
theorem getT_find {l : List Pc} {p : Int} {k : Nat} (hk : k < l.length) (h : ∀ j (h : j < l.length), j < k → l[j].1 ≠ p) (he : l[k].1 = p) : getT l p = some l[k].2 := by
  unfold getT
  have : l.find? (fun x => x.1 == p) = some l[k] := by
    rw [List.find?_eq_some_iff_getElem]
    refine ⟨by simpa using he, k, hk, rfl, fun j hj => ?_⟩
    simpa using h j (by omega) hj
  rw [this]; rfl
set_option maxHeartbeats 1000000 in
set_option maxRecDepth 100000 in
theorem sl4Get_any (A : Option Addr) (c : Nat) (l : List Pc) (p : Int) (w : World) (hs : Sl w encP 2 A l) (hl : l.length ≤ 16777216) :
    Calls Tryd.prog 63 #[.slice A l.length c, .int .i64 p] w fun e w' => e = .returned (.tuple #[.string ((getT l p).getD ⟨#[]⟩), .bool (getT l p).isSome]) ∧ w = w' := by
  have HS := Lib.hid hs
  clear hs
  generalize hr : getT l p = R at *
  have HR := Lib.hid hr
  clear hr
  go_enter Tryd.func63, Tryd.ntmps63
  go_wp2_with fail
  go_loop [6] (fun i => ∃ (k : Nat), k ≤ l.length ∧ i = .int .i64 k ∧ Hid (∀ j (h : j < l.length), j < k → l[j].1 ≠ p)) (fun i => l.length - (intOf i).toNat)
  case atStart => exact ⟨0, Nat.zero_le _, rfl, fun j h h2 => by omega⟩
  case round =>
    obtain ⟨k, hk, rfl, HH⟩ := hrel
    by_cases hlt : k < l.length
    · obtain ⟨b, o, rfl, hc0, hc1⟩ := HS.out.getP hlt
      have HF := Lib.hid (fun (he : l[k].1 = p) => getT_find hlt HH.out he)
      have HN := Lib.hid (fun (hne : l[k].1 ≠ p) => show ∀ j (h : j < l.length), j < k + 1 → l[j].1 ≠ p from fun j h h2 => by
        by_cases e : j = k
        · subst e; exact hne
        · exact HH.out j h (by omega))
      generalize l[k] = q at *
      obtain ⟨a, t⟩ := q
      simp only at *
      by_cases he : a = p
      · have HE := Lib.hid (show R = some t by rw [← HR.out]; exact HF.out he)
        subst he
        go_wp2
        go_ret2
        rw [HE.out]
        exact ⟨rfl, rfl⟩
      · have HNN := Lib.hid (HN.out he)
        go_wp2
        go_round
        case rel => exact ⟨k + 1, by omega, by go_num, HNN.out⟩
        case measure => simp [intOf]; omega
    · have HE := Lib.hid (show R = none by
        rw [← HR.out]
        refine getT_none_iff.2 fun x hx => ?_
        obtain ⟨j, hj, rfl⟩ := List.getElem_of_mem hx
        exact HH.out j hj (by omega))
      go_wp2
      go_ret2
      rw [HE.out]
      exact ⟨rfl, rfl⟩
set_option maxHeartbeats 1000000 in
set_option maxRecDepth 100000 in
theorem ifolderOf_any (A : Option Addr) (c : Nat) (l : List Pc) (p : Int) (w : World) (hs : Sl w encP 2 A l) (hv : storeV l = true) (ht : TzL w) (hm : MaxL w) :
    Calls Tryd.prog 68 #[.slice A l.length c, .int .i64 p] w (RfRes (folderOf l p) w) := by
  have HS := Lib.hid hs
  have HT := Lib.hid ht
  have HM := Lib.hid hm
  have hl := storeV_len hv
  have hX := fun w h => itextOf_any A c l p w h (by omega) (storeV_sorted hv)
  have hsz : ∀ t, getT l p = some t → t.size ≤ 60 := fun t h => textV_size (getT_valid hv h).1
  clear hs ht hm
  unfold GtRes at hX
  unfold folderOf
  cases hg : getT l p with
  | none =>
    rw [hg] at hX
    have HX := Lib.hid hX
    clear hX hg hsz hv
    go_enter Tryd.func68, Tryd.ntmps68
    go_wp2_with fail
    refine (HX.out _ HS.out).mono ?_
    rintro e w1 ⟨rfl, hb⟩
    have HB := Lib.hid hb
    clear hb
    go_wp2
    go_ret2
    exact RfRes.no rfl HB.out
  | some t =>
    have hts := hsz t hg
    rw [hg] at hX
    have HX := Lib.hid hX
    have hRF := fun w h h2 => iReadFolder_any t w (by omega) h h2
    rw [Option.bind_some]
    unfold RfRes at *
    rw [show readF (tx t) = readF (bs t) from rfl]
    generalize readF (bs t) = R at *
    have HRF := Lib.hid hRF
    clear hX hg hsz hv hRF
    go_enter Tryd.func68, Tryd.ntmps68
    go_wp2_with fail
    refine (HX.out _ HS.out).mono ?_
    rintro e w1 ⟨rfl, hb⟩
    have HB := Lib.hid hb
    clear hb
    go_wp2_with fail
    refine (HRF.out _ (HT.out.below HB.out) (HM.out.below HB.out)).mono ?_
    rintro e w2 ⟨v, rfl, hown, hb⟩
    have HW := Lib.hid (hown.mono HB.out.size)
    have HB2 := Lib.hid (Below_then HB.out hb (Nat.le_refl _))
    clear hown hb
    go_wp2
    go_ret2
    exact ⟨_, rfl, HW.out, HB2.out⟩
end Go.Proofs.YtbpngpcjjinneaaDoor

/- Writing into stores and dropping out of them, in plain Lean. No program in sight. -/
set_option linter.unusedVariables false
namespace Go.Proofs.YtbpngpcjjinneaaDoor
--BEGIN
/-! ### some texts more -/
def putAll : List Pc → List ByteArray → Option (List Pc)
  | s, [] => some s
  | s, t :: r => if (putT s t).2.2 then putAll (putT s t).1 r else none
theorem putAll_append : ∀ (a b : List ByteArray) (s : List Pc), putAll s (a ++ b) = (putAll s a).bind fun s' => putAll s' b
  | [], b, s => rfl
  | t :: r, b, s => by
    rw [List.cons_append, putAll, putAll]
    split
    · exact putAll_append r b _
    · rfl
theorem putAll_one (s : List Pc) (t : ByteArray) : putAll s [t] = if (putT s t).2.2 then some (putT s t).1 else none := rfl
theorem putAll_ok : ∀ (ts : List ByteArray) (s s' : List Pc), storeV s = true → putAll s ts = some s' → storeV s' = true ∧ ∀ p, p ∈ s' ↔ p ∈ s ∨ ∃ t ∈ ts, p = (prOf (tx t), t)
  | [], s, s', hs, h => by
    rw [putAll] at h; injection h with h; subst h
    exact ⟨hs, fun p => by simp⟩
  | t :: r, s, s', hs, h => by
    rw [putAll] at h
    split at h
    · rename_i hok
      obtain ⟨_, hp, _⟩ := putT_ok hok
      obtain ⟨h1, h2⟩ := putAll_ok r _ s' hp.valid h
      refine ⟨h1, fun p => ?_⟩
      rw [h2 p, hp.mem p]
      constructor
      · rintro ((h3 | h3) | ⟨u, hu, h3⟩)
        · exact .inl h3
        · exact .inr ⟨t, by simp, h3⟩
        · exact .inr ⟨u, by simp [hu], h3⟩
      · rintro (h3 | ⟨u, hu, h3⟩)
        · exact .inl (.inl h3)
        · rcases List.mem_cons.1 hu with rfl | hu
          · exact .inl (.inr h3)
          · exact .inr ⟨u, hu, h3⟩
    · cases h
theorem nodup_len {α : Type} [DecidableEq α] : ∀ (a b : List α), a.Nodup → (∀ x ∈ a, x ∈ b) → a.length ≤ b.length
  | [], b, _, _ => by simp
  | x :: r, b, h, hs => by
    have hx := hs x (by simp)
    have hn := List.nodup_cons.1 h
    have ih := nodup_len r (b.erase x) hn.2 fun y hy => (List.mem_erase_of_ne (fun e => hn.1 (by rw [← e]; exact hy))).2 (hs y (by simp [hy]))
    rw [List.length_erase_of_mem hx] at ih
    have hp : 0 < b.length := List.length_pos_of_mem hx
    rw [List.length_cons]; omega
theorem putAll_can : ∀ (ts : List ByteArray) (s s' : List Pc), storeV s = true → storeV s' = true → (∀ p, p ∈ s' ↔ p ∈ s ∨ ∃ t ∈ ts, p = (prOf (tx t), t)) → putAll s ts = some s'
  | [], s, s', hs, hs', h => by
    rw [putAll]; congr 1
    exact store_ext hs hs' fun p => by rw [h p]; simp
  | t :: r, s, s', hs, hs', h => by
    have hin : (prOf (tx t), t) ∈ s' := (h _).2 (.inr ⟨t, by simp, rfl⟩)
    have htx := (pieceOk_iff.1 (storeV_piece hs' hin)).1
    have hok : (putT s t).2.2 = true := by
      refine putT_can.2 ⟨hs, htx, fun u hu => ?_, ?_⟩
      · have := sorted_inj (storeV_sorted hs') ((h _).2 (.inl hu)) hin rfl
        injection this
      · by_cases hm : (prOf (tx t), t) ∈ s
        · exact .inl hm
        · right
          have h1 : ((prOf (tx t), t) :: s).length ≤ s'.length := by
            have nl : s.Nodup := (storeV_sorted hs).imp (fun h e => by subst e; omega)
            refine nodup_len _ _ (List.nodup_cons.2 ⟨hm, nl⟩) fun p hp => ?_
            rcases List.mem_cons.1 hp with rfl | hp
            · exact hin
            · exact (h _).2 (.inl hp)
          have h2 := storeV_len hs'
          rw [List.length_cons] at h1; omega
    rw [putAll, if_pos hok]
    obtain ⟨_, hp, _⟩ := putT_ok hok
    refine putAll_can r _ s' hp.valid hs' fun p => ?_
    rw [h p, hp.mem p]
    constructor
    · rintro (h3 | ⟨u, hu, h3⟩)
      · exact .inl (.inl h3)
      · rcases List.mem_cons.1 hu with rfl | hu
        · exact .inl (.inr h3)
        · exact .inr ⟨u, hu, h3⟩
    · rintro ((h3 | h3) | ⟨u, hu, h3⟩)
      · exact .inl h3
      · exact .inr ⟨t, by simp, h3⟩
      · exact .inr ⟨u, by simp [hu], h3⟩
/-- Whatever the order: the same texts lead to the same store, or none. -/
theorem putAll_congr {s : List Pc} {a b : List ByteArray} (hs : storeV s = true) (h : ∀ t, t ∈ a ↔ t ∈ b) : putAll s a = putAll s b := by
  have key : ∀ {a b : List ByteArray} {s' : List Pc}, (∀ t, t ∈ a ↔ t ∈ b) → putAll s a = some s' → putAll s b = some s' := by
    intro a b s' h ha
    obtain ⟨h1, h2⟩ := putAll_ok a s s' hs ha
    refine putAll_can b s s' hs h1 fun p => ?_
    rw [h2 p]
    simp only [h]
  cases ha : putAll s a with
  | some s' => exact (key h ha).symm
  | none =>
    cases hb : putAll s b with
    | none => rfl
    | some s' => rw [key (fun t => (h t).symm) hb] at ha; cases ha
theorem putAll_bad {s : List Pc} {t : ByteArray} {r : List ByteArray} (h : storeV s = false) : putAll s (t :: r) = none := by
  rw [putAll, putT_bad h]; rfl
theorem getT_keep {s s' : List Pc} {ts : List ByteArray} (hs : storeV s = true) (h : putAll s ts = some s') {p : Int} {t : ByteArray} (hg : getT s p = some t) : getT s' p = some t := by
  obtain ⟨h1, h2⟩ := putAll_ok _ _ _ hs h
  exact getT_mem (storeV_sorted h1) ((h2 _).2 (.inl (getT_some hg)))
theorem getT_put {s s' : List Pc} {ts : List ByteArray} (hs : storeV s = true) (h : putAll s ts = some s') {t : ByteArray} (ht : t ∈ ts) : getT s' (prOf (tx t)) = some t := by
  obtain ⟨h1, h2⟩ := putAll_ok _ _ _ hs h
  exact getT_mem (storeV_sorted h1) ((h2 _).2 (.inr ⟨t, ht, rfl⟩))
theorem folder_keep {s s' : List Pc} {ts : List ByteArray} (hs : storeV s = true) (h : putAll s ts = some s') {p : Int} {l : List En} (hg : folderOf s p = some l) : folderOf s' p = some l := by
  unfold folderOf at hg ⊢
  obtain ⟨t, h1, h2⟩ := Option.bind_eq_some_iff.1 hg
  rw [getT_keep hs h h1]; exact h2
theorem file_keep {s s' : List Pc} {ts : List ByteArray} (hs : storeV s = true) (h : putAll s ts = some s') {p : Int} {l : Bs} (hg : fileOf s p = some l) : fileOf s' p = some l := by
  unfold fileOf at hg ⊢
  obtain ⟨t, h1, h2⟩ := Option.bind_eq_some_iff.1 hg
  rw [getT_keep hs h h1]; exact h2

/-! ### writing -/
def leafOk (s : List Pc) : Option Int → Bool
  | some q => (fileOf s q).isSome
  | none => true
def listAt (s : List Pc) : Option Int → Option (List En)
  | some p => folderOf s p
  | none => some []
def foldsW (s : List Pc) : Option Int → List Bs → Option (List (List En))
  | _, [] => some []
  | a, n :: r => (listAt s a).bind fun l => if r.isEmpty && !leafOk s (getE l n) then none else (foldsW s (getE l n) r).map fun fs => l :: fs
def upT : List (List En) → List Bs → Int → Option (List ByteArray × Int)
  | l :: fs, n :: ns, leaf => (upT fs ns leaf).bind fun x => if (putE l (mk n, x.2)).2 then some (x.1 ++ [mk (foldT (putE l (mk n, x.2)).1)], prOf (foldT (putE l (mk n, x.2)).1)) else none
  | _, _, leaf => some ([], leaf)
def writeP (s : List Pc) (root : Int) (ps : List Bs) (c : Bs) : Option (List Pc × Int) :=
  (foldsW s (some root) ps).bind fun fs => (upT fs ps (prOf (fileT c))).bind fun x => (putAll s (mk (fileT c) :: x.1)).map fun s' => (s', x.2)
/-- As the reference goes. -/
def setP (s : List Pc) (a : Option Int) (ps : List Bs) (leaf : Int) : Option (List Pc × Int) :=
  (foldsW s a ps).bind fun fs => (upT fs ps leaf).bind fun x => (putAll s x.1).map fun s' => (s', x.2)
theorem setP_nil (s : List Pc) (a : Option Int) (leaf : Int) : setP s a [] leaf = some (s, leaf) := rfl
def setUp (l : List En) (n : Bs) (x : List Pc × Int) : Option (List Pc × Int) :=
  if (putE l (mk n, x.2)).2 then (if (putT x.1 (mk (foldT (putE l (mk n, x.2)).1))).2.2 then some ((putT x.1 (mk (foldT (putE l (mk n, x.2)).1))).1, prOf (foldT (putE l (mk n, x.2)).1)) else none) else none
theorem setP_cons (s : List Pc) (a : Option Int) (n : Bs) (r : List Bs) (leaf : Int) :
    setP s a (n :: r) leaf = (listAt s a).bind fun l => if r.isEmpty && !leafOk s (getE l n) then none else (setP s (getE l n) r leaf).bind (setUp l n) := by
  unfold setP
  rw [foldsW]
  cases listAt s a with
  | none => rfl
  | some l =>
    simp only [Option.bind_some]
    split
    · rfl
    · cases foldsW s (getE l n) r with
      | none => rfl
      | some fs =>
        simp only [Option.map_some, Option.bind_some]
        rw [upT]
        cases upT fs r leaf with
        | none => rfl
        | some x =>
          simp only [Option.bind_some]
          unfold setUp
          cases hp : putAll s x.1 with
          | none =>
            split
            · simp only [Option.bind_some]; rw [putAll_append, hp]; rfl
            · rfl
          | some s1 =>
            simp only [Option.map_some, Option.bind_some]
            split
            · simp only [Option.bind_some]
              rw [putAll_append, hp, Option.bind_some, putAll_one]
              split <;> rfl
            · rfl
theorem writeP_set {s : List Pc} (hs : storeV s = true) (root : Int) (ps : List Bs) (c : Bs) :
    writeP s root ps c = (setP s (some root) ps (prOf (fileT c))).bind fun x => if (putT x.1 (mk (fileT c))).2.2 then some ((putT x.1 (mk (fileT c))).1, x.2) else none := by
  unfold writeP setP
  cases foldsW s (some root) ps with
  | none => rfl
  | some fs =>
    simp only [Option.bind_some]
    cases upT fs ps (prOf (fileT c)) with
    | none => rfl
    | some x =>
      simp only [Option.bind_some]
      have e : putAll s (mk (fileT c) :: x.1) = putAll s (x.1 ++ [mk (fileT c)]) := putAll_congr hs fun t => by simp [or_comm]
      rw [e, putAll_append]
      cases putAll s x.1 with
      | none => rfl
      | some s1 =>
        simp only [Option.bind_some, Option.map_some]
        rw [putAll_one]
        split <;> rfl
def writeA (s : List Pc) (root : Int) (path c : Bs) : List Pc × Int × Bool :=
  match (if storeV s && contV c then pathP path else none) with
  | some (n :: r) => (match writeP s root (n :: r) c with | some x => (x.1, x.2, true) | none => (s, root, false))
  | _ => ([], -1, false)

/-! ### dropping -/
def foldsD (s : List Pc) : Int → List Bs → List (List En)
  | _, [] => []
  | p, n :: r => ((folderOf s p).getD []) :: foldsD s ((getE ((folderOf s p).getD []) n).getD (-1)) r
def restD (l : List En) (n : Bs) : Option Int → List En
  | some q => (putE l (mk n, q)).1
  | none => (dropE l n).1
def dT : List (List En) → List Bs → List ByteArray × Option Int
  | l :: fs, n :: ns => if restD l n (dT fs ns).2 = [] then ((dT fs ns).1, none) else ((dT fs ns).1 ++ [mk (foldT (restD l n (dT fs ns).2))], some (prOf (foldT (restD l n (dT fs ns).2))))
  | _, _ => ([], none)
def dropTs (x : List ByteArray × Option Int) : List ByteArray × Int := match x.2 with | some p => (x.1, p) | none => (x.1 ++ [mk (foldT [])], prOf (foldT []))
def dropP (s : List Pc) (root : Int) (ps : List Bs) : Option (List Pc × Int) :=
  if (walkP s root ps).isSome then (putAll s (dropTs (dT (foldsD s root ps) ps)).1).map fun s' => (s', (dropTs (dT (foldsD s root ps) ps)).2) else none
def dropA (s : List Pc) (root : Int) (path : Bs) : List Pc × Int × Bool :=
  match (if storeV s then pathP path else none) with
  | some (n :: r) => (match dropP s root (n :: r) with | some x => (x.1, x.2, true) | none => (s, root, false))
  | _ => ([], -1, false)
/-- As the reference goes: a number below 0 stands for an emptied folder. -/
def dropS (s : List Pc) (fs : List (List En)) (ns : List Bs) : Option (List Pc × Int) := (putAll s (dT fs ns).1).map fun s' => (s', (dT fs ns).2.getD (-1))
def dropUp (l : List En) (n : Bs) (x : List Pc × Int) : Option (List Pc × Int) :=
  if restD l n (if x.2 < 0 then none else some x.2) = [] then some (x.1, -1)
  else if (putT x.1 (mk (foldT (restD l n (if x.2 < 0 then none else some x.2))))).2.2 then some ((putT x.1 (mk (foldT (restD l n (if x.2 < 0 then none else some x.2))))).1, prOf (foldT (restD l n (if x.2 < 0 then none else some x.2)))) else none
--END
end Go.Proofs.YtbpngpcjjinneaaDoor

/- Files below a root, sizes, quotas, archives, in plain Lean. No program in sight. -/
set_option linter.unusedVariables false
namespace Go.Proofs.YtbpngpcjjinneaaDoor
--BEGIN
/-! ### files -/
def filesP (s : List Pc) : Nat → Int → List Bs → List Bs
  | 0, _, _ => []
  | f + 1, p, ps => ((folderOf s p).getD []).flatMap fun e => if (fileOf s e.2).isSome then [joinP (ps ++ [tx e.1])] else filesP s f e.2 (ps ++ [tx e.1])
def allF (s : List Pc) (root : Int) : List Bs := if storeV s then filesP s 3 root [] else []
def specF (s : List Pc) (p : Int) (ps : List Bs) : List Bs := if (fileOf s p).isSome && !ps.isEmpty then [joinP ps] else filesP s (3 - ps.length) p ps
def contentAt (s : List Pc) (root : Int) (path : Bs) : Bs := (readAt s root path).getD []
def sizeOf' (s : List Pc) (root : Int) (l : List Bs) : Int := l.foldl (fun n p => n + ((contentAt s root p).length : Int)) 0
def totalP (s : List Pc) (root : Int) : Int := sizeOf' s root (allF s root)
def usedP (s : List Pc) (root : Int) (path : Bs) : Int := if (pathP path).isSome && storeV s then sizeOf' s root ((allF s root).filter fun f => belowP f path) else -1
abbrev Qt := ByteArray × Int
def encQ (q : Qt) : List Value := [.string q.1, .int .i64 q.2]
def quoAt (l : List Qt) (k : Nat) : Bool := match l[k]? with | some q => (pathP (tx q.1)).isSome && inI q.2 0 1000 && !((l.take k).any fun o => tx o.1 == tx q.1) | none => true
def quoV (l : List Qt) : Bool := decide (l.length ≤ 6) && (List.range l.length).all (quoAt l)
def overP (s : List Pc) (root : Int) (l : List Qt) : List Bs := if quoV l && storeV s then (l.filter fun q => decide (usedP s root (tx q.1) > q.2)).map fun q => tx q.1 else []

/-! ### archives -/
structure Ar where
  ps : List Pc
  op : Int
  vs : List Vr
def archV (a : Ar) : Bool := storeV a.ps && (versV a.vs && ((folderOf a.ps a.op).isSome && a.vs.all fun v => (folderOf a.ps v.1).isSome))
def newA (s : List Pc) : Ar × Bool := if (putT s (mk (foldT []))).2.2 then (⟨(putT s (mk (foldT []))).1, (putT s (mk (foldT []))).2.1, []⟩, true) else (⟨[], 0, []⟩, false)
def addV (l : List Vr) (v : Vr) : List Vr × Bool := if versV l then (if versV (l ++ [v]) then (l ++ [v], true) else (l, false)) else ([], false)
def joinW (c : Bs) : List Bs → Bs
  | [] => []
  | [p] => p
  | p :: r => p ++ c ++ joinW c r
def filesAns (a : Ar) : Bs := if allF a.ps a.op = [] then [110, 111, 110, 101] else joinW [32] (allF a.ps a.op)
def wWrite : Bs := [119, 114, 105, 116, 101]
def wDrop : Bs := [100, 114, 111, 112]
def wKeep : Bs := [107, 101, 101, 112]
def wBack : Bs := [98, 97, 99, 107]
def wRead : Bs := [114, 101, 97, 100]
def wFiles : Bs := [102, 105, 108, 101, 115]
def wOk : Bs := [111, 107]
def wNo : Bs := [110, 111]
def lineA (a : Ar) (ws : List Bs) : Ar × Bs :=
  match ws with
  | [x, p, c] => if x = wWrite then (match writeA a.ps a.op p c with | (s, r, true) => (⟨s, r, a.vs⟩, wOk) | _ => (a, wNo)) else (a, wNo)
  | [x, p] =>
    if x = wDrop then (match dropA a.ps a.op p with | (s, r, true) => (⟨s, r, a.vs⟩, wOk) | _ => (a, wNo))
    else if x = wKeep then (match addV a.vs (a.op, (a.vs.length : Int) - 1, mk p) with | (v, true) => (⟨a.ps, a.op, v⟩, wOk) | _ => (a, wNo))
    else if x = wBack then (if 0 ≤ readH p ∧ readH p < a.vs.length then (⟨a.ps, ((a.vs.getD (readH p).toNat (0, 0, ⟨#[]⟩)).1), a.vs⟩, wOk) else (a, wNo))
    else if x = wRead then (match readAt a.ps a.op p with | some t => (a, 61 :: t) | none => (a, wNo))
    else (a, wNo)
  | [x] => if x = wFiles then (a, filesAns a) else (a, wNo)
  | _ => (a, wNo)
def archL (a : Ar) (line : Bs) : Ar × Bs := if archV a then lineA a (splitS 32 line) else (⟨[], 0, []⟩, [])
def archLs : Ar → List Bs → Ar × List Bs
  | a, [] => (a, [])
  | a, l :: r => ((archLs (archL a l).1 r).1, (archL a l).2 :: (archLs (archL a l).1 r).2)
def archM (a : Ar) (ls : List Bs) : Ar × List Bs := if archV a && decide (ls.length ≤ 12) then archLs a ls else (⟨[], 0, []⟩, [])
--END
end Go.Proofs.YtbpngpcjjinneaaDoor

/- Archives by value: sizes, copies, comparisons, marks, walked. -/
set_option linter.unusedVariables false
namespace Go.Proofs.YtbpngpcjjinneaaDoor
open Go.RowKit
/-- Two rows in different blocks. -/
def ApartV (u v : Value) : Prop := ∀ g, u.ownBlock = some g → v.ownBlock ≠ some g
theorem ApartV.symm {u v : Value} (h : ApartV u v) : ApartV v u := fun g h1 h2 => h g h2 h1
theorem ApartV.nil (u : Value) : ApartV u (.slice none 0 0) := fun g _ h => by cases h
theorem World.alloc_size_ (w : World) (o : Obj) : (w.alloc o).heap.size = w.heap.size + 1 := by simp
theorem Row3.grew {w w' : World} {b : Nat} {v v0 v1 v2 : Value} (h : Row3 w b v0 v1 v2) (hg : Grew v w w') (hne : v.ownBlock ≠ some b) : Row3 w' b v0 v1 v2 := by
  obtain ⟨⟨h0, h1, h2⟩, hf, hlt⟩ := h
  have hblk : w'.heap[b]? = w.heap[b]? := hg.block b hlt (fun e => hne e.symm)
  have hc : ∀ o, w'.cell? ⟨b, o, none⟩ = w.cell? ⟨b, o, none⟩ := fun o => by unfold World.cell?; simp only [hblk]
  refine ⟨⟨(hc _).trans h0, (hc _).trans h1, (hc _).trans h2⟩, fun o => (World.frozen?_of_block (w := w) hblk).trans (hf o), Nat.lt_of_lt_of_le hlt hg.size⟩
theorem Own.slm {w : World} {base : Nat} {A : Option Addr} {n c : Nat} {E : TypeId} {α : Type} {enc : α → List Value} {size : Nat} {l : List α} (h : Own w base E size enc (.slice A n c) l) : Sl w enc size A l := by
  obtain ⟨A', c', e, _, hs, _⟩ := h.sl
  injection e with e1 _ _
  rw [e1]; exact hs
def FitsAr (l : List Pc) (m : List Vr) : Prop := l.length ≤ 1048576 ∧ m.length ≤ 1048576 ∧ (∀ p ∈ l, p.2.size ≤ 1048576) ∧ FitsVersion m
def SizedAr (l : List Pc) (m : List Vr) (w : World) (e : Ending) (w' : World) : Prop :=
  ∃ r : Int, e = .returned (.int .i64 r) ∧ r ≤ 1048576 ∧ (0 ≤ r → FitsAr l m) ∧ Below w.heap.size w w'
set_option maxHeartbeats 2000000 in
set_option maxRecDepth 100000 in
theorem szArchive_any (A B : Option Addr) (c d : Nat) (l : List Pc) (m : List Vr) (x : Int) (w : World) (hs : Sl w encP 2 A l) (hl : l.length ≤ maxLen) (hm : ∀ p ∈ l, p.2.size ≤ maxLen) (ht : Sl w encV 3 B m) (hl2 : m.length ≤ maxLen) (hm2 : ∀ p ∈ m, p.2.2.size ≤ maxLen) :
    Calls Tryd.prog 31 #[.agg #[.slice A l.length c, .int .i64 x, .slice B m.length d], .int .i64 1048576] w (SizedAr l m w) := by
  have HS := Lib.hid hs
  have HT := Lib.hid ht
  have HL := Lib.hid hl
  have HM := Lib.hid hm
  have HL2 := Lib.hid hl2
  have HM2 := Lib.hid hm2
  clear hs ht hl hm hl2 hm2
  go_enter Tryd.func31, Tryd.ntmps31
  go_wp2_with fail
  refine (szPieceS_any _ _ l 1048576 _ (HS.out.alloc _) HL.out HM.out (by omega) (by omega)).mono ?_
  rintro e w1 ⟨r0, rfl, hr0, hg0, hb⟩
  have x2 := box_cell hb 2 rfl
  have HB1 := Lib.hid (Below_of_alloc hb)
  have HG := Lib.hid hg0
  clear hb hg0
  by_cases hn0 : r0 < 0
  case pos =>
    go_wp2
    go_ret
    exact ⟨-1, rfl, by omega, fun h => absurd h (by omega), HB1.out⟩
  case neg =>
    have h0 : 0 ≤ r0 := by omega
    go_wp2_with fail
    refine (szVersionS_any _ _ m r0 _ (HT.out.below HB1.out) HL2.out HM2.out h0 (by omega)).mono ?_
    rintro e w2 ⟨r1, rfl, hr1, hg1, hb⟩
    have HB2 := Lib.hid (Below_then HB1.out hb (Nat.le_refl _))
    have HG1 := Lib.hid hg1
    clear hb hg1 x2
    by_cases hn1 : r1 < 0
    case pos =>
      go_wp2
      go_ret
      exact ⟨-1, rfl, by omega, fun h => absurd h (by omega), HB2.out⟩
    case neg =>
      go_wp2
      go_ret
      exact ⟨r1, rfl, by omega, fun _ => ⟨(HG.out h0).1, (HG1.out (by omega)).1, (HG.out h0).2, (HG1.out (by omega)).2⟩, HB2.out⟩
def ToAr (l : List Pc) (x : Int) (m : List Vr) (w : World) (e : Ending) (w' : World) : Prop :=
  ∃ p q, e = .returned (.agg #[p, .int .i64 x, q]) ∧ Own w' w.heap.size 79 2 encP p l ∧ Own w' w.heap.size 96 3 encV q m ∧ ApartV p q ∧ Below w.heap.size w w'
theorem ToAr.mk {l : List Pc} {x : Int} {m : List Vr} {w w' : World} {A B : Option Addr} {c d : Nat} (h1 : Own w' w.heap.size 79 2 encP (.slice A l.length c) l) (h2 : Own w' w.heap.size 96 3 encV (.slice B m.length d) m) (h3 : ApartV (.slice A l.length c) (.slice B m.length d)) (h4 : Below w.heap.size w w') :
    ToAr l x m w (.returned (.agg #[.slice A l.length c, .int .i64 x, .slice B m.length d])) w' := ⟨_, _, rfl, h1, h2, h3, h4⟩
set_option maxHeartbeats 2000000 in
set_option maxRecDepth 100000 in
theorem toArchive_any (A B : Option Addr) (c d : Nat) (l : List Pc) (m : List Vr) (x : Int) (w : World) (hs : Sl w encP 2 A l) (hl : l.length ≤ 16777216) (ht : Sl w encV 3 B m) (hl2 : m.length ≤ 16777216) :
    Calls Tryd.prog 33 #[.agg #[.slice A l.length c, .int .i64 x, .slice B m.length d]] w (ToAr l x m w) := by
  have HS := Lib.hid hs
  have HT := Lib.hid ht
  clear hs ht
  go_enter Tryd.func33, Tryd.ntmps33
  go_wp2_with fail
  refine (toPieceS_any _ _ _ _ (((HS.out.alloc _).alloc _).alloc _) hl).mono ?_
  rintro e w1 ⟨p, rfl, hown, hb⟩
  have hx := Row3.new.below (w' := w1) (Below_of_alloc (Below_of_alloc hb))
  have hy := Row3.new.below (w' := w1) (Below_of_alloc hb)
  have hz := Row3.new.below hb
  simp only [World.alloc_size_] at hx hy hz
  have HB1 := Lib.hid (Below_of_alloc (Below_of_alloc (Below_of_alloc hb)))
  have HO1 := Lib.hid hown
  have HU1 := Lib.hid hown.up
  obtain ⟨X, d2, rfl, _, _, _⟩ := hown.sl
  have HZ := Lib.hid ((hz.set0 (.slice X l.length d2)).set1 (.int .i64 x))
  have HY := Lib.hid ((hy.other (p := ⟨w.heap.size + 1 + 1, 0, none⟩) (by simp) (.slice X l.length d2)).other (p := ⟨w.heap.size + 1 + 1, 1, none⟩) (by simp) (.int .i64 x))
  obtain ⟨⟨x0, x1, x2⟩, fx, lx⟩ := hx
  obtain ⟨⟨z0, z1, z2⟩, fz, lz⟩ := hz
  clear hb hown hy
  go_wp2_with fail
  refine (toVersionS_any _ _ _ _ (HT.out.below ((HB1.out.setCell (p := ⟨w.heap.size + 1 + 1, 0, none⟩) (by simp; omega) _).setCell (p := ⟨w.heap.size + 1 + 1, 1, none⟩) (by simp; omega) _)) hl2).mono ?_
  rintro e w2 ⟨q, rfl, hown, hb⟩
  have HB2 := Lib.hid (Below_then ((HB1.out.setCell (p := ⟨w.heap.size + 1 + 1, 0, none⟩) (by simp; omega) _).setCell (p := ⟨w.heap.size + 1 + 1, 1, none⟩) (by simp; omega) _) hb (Nat.le_refl _))
  have HP2 := Lib.hid (((HO1.out.setBelow (p := ⟨w.heap.size + 1 + 1, 0, none⟩) (by simp) (.slice X l.length d2)).setBelow (p := ⟨w.heap.size + 1 + 1, 1, none⟩) (by simp) (.int .i64 x)).below hb)
  have hlo := hown.lo
  rw [setCell_size, setCell_size] at hown hlo
  have HO2 := Lib.hid hown
  have HAP := Lib.hid (apart_of HU1.out hlo (Nat.le_refl _))
  obtain ⟨Y, d3, rfl, _, _, _⟩ := hown.sl
  obtain ⟨⟨y0, y1, y2⟩, fy, ly⟩ := HY.out.below hb
  obtain ⟨⟨u0, u1, u2⟩, fu, lu⟩ := HZ.out.below hb
  clear hb hown hlo x0 x1 x2 fx z0 z1 z2 fz
  go_wp2_with fail
  exact bodyPost_ret (v := .agg #[.slice X l.length d2, .int .i64 x, .slice Y m.length d3]) (by simp [results, Tryd.results33, go_sem, y0, y1, y2]) rfl
    (ToAr.mk
      (((((HP2.out.setBelow (p := ⟨w.heap.size + 1 + 1, 2, none⟩) (by simp) _).setBelow (p := ⟨w.heap.size + 1, 0, none⟩) (by simp) _).setBelow (p := ⟨w.heap.size + 1, 1, none⟩) (by simp) _).setBelow (p := ⟨w.heap.size + 1, 2, none⟩) (by simp) _).mono (by simp; omega))
      (((((HO2.out.setBelow (p := ⟨w.heap.size + 1 + 1, 2, none⟩) lz _).setBelow (p := ⟨w.heap.size + 1, 0, none⟩) (Nat.lt_of_succ_lt lz) _).setBelow (p := ⟨w.heap.size + 1, 1, none⟩) (Nat.lt_of_succ_lt lz) _).setBelow (p := ⟨w.heap.size + 1, 2, none⟩) (Nat.lt_of_succ_lt lz) _).mono (by omega))
      HAP.out
      ((((HB2.out.setCell (by simp; omega) _).setCell (by simp) _).setCell (by simp) _).setCell (by simp) _))
set_option maxHeartbeats 2000000 in
set_option maxRecDepth 100000 in
theorem eqArchive_same (A B A' B' : Option Addr) (c d c' d' : Nat) (l : List Pc) (m : List Vr) (x : Int) (w : World) (h1 : Sl w encP 2 A l) (h2 : Sl w encP 2 A' l) (hl : l.length ≤ 16777216) (h3 : Sl w encV 3 B m) (h4 : Sl w encV 3 B' m) (hl2 : m.length ≤ 16777216) :
    Calls Tryd.prog 19 #[.agg #[.slice A l.length c, .int .i64 x, .slice B m.length d], .agg #[.slice A' l.length c', .int .i64 x, .slice B' m.length d']] w fun e w' => e = .returned (.bool true) ∧ Below w.heap.size w w' := by
  have H1 := Lib.hid h1
  have H2 := Lib.hid h2
  have H3 := Lib.hid h3
  have H4 := Lib.hid h4
  clear h1 h2 h3 h4
  go_enter Tryd.func19, Tryd.ntmps19
  go_wp2_with fail
  refine (eqPieceS_same _ _ _ _ l _ ((H1.out.alloc _).alloc _) ((H2.out.alloc _).alloc _) hl).mono ?_
  rintro e w1 ⟨rfl, hb⟩
  have HB1 := Lib.hid (Below_of_alloc (Below_of_alloc hb))
  have hx := Row3.new.below (w' := w1) (Below_of_alloc hb)
  have hy := Row3.new.below hb
  obtain ⟨⟨x0, x1, x2⟩, _, _⟩ := hx
  obtain ⟨⟨y0, y1, y2⟩, _, _⟩ := hy
  rw [World.alloc_size_] at y0 y1 y2
  clear hb
  go_wp2_with fail
  refine (eqVersionS_same _ _ _ _ m _ (H3.out.below HB1.out) (H4.out.below HB1.out) hl2).mono ?_
  rintro e w2 ⟨rfl, hb⟩
  have HB2 := Lib.hid (Below_then HB1.out hb (Nat.le_refl _))
  clear hb
  go_wp2
  go_ret
  exact ⟨rfl, HB2.out⟩
def MarkAr (base : Nat) (p q : Value) (n m k : Nat) (w : World) (e : Ending) (w' : World) : Prop :=
  e = .returned (.int .i64 ((k + 2 * n + 3 * m : Nat) : Int)) ∧ Own w' base 79 2 encP p (markPieceL k n) ∧ Own w' base 96 3 encV q (markVersionL (k + 2 * n) m) ∧ ∃ w1, Grew p w w1 ∧ Grew q w1 w'
set_option maxHeartbeats 2000000 in
set_option maxRecDepth 100000 in
theorem markArchive_any (base : Nat) (A B : Option Addr) (c d : Nat) (l : List Pc) (m : List Vr) (x : Int) (k : Nat) (w : World) (h1 : Own w base 79 2 encP (.slice A l.length c) l) (h2 : Own w base 96 3 encV (.slice B m.length d) m) (hap : ApartV (.slice A l.length c) (.slice B m.length d)) (hl : l.length ≤ 16777216) (hl2 : m.length ≤ 16777216) (hk : k ≤ 10000000) :
    Calls Tryd.prog 22 #[.agg #[.slice A l.length c, .int .i64 x, .slice B m.length d], .int .i64 (k : Int)] w (MarkAr base (.slice A l.length c) (.slice B m.length d) l.length m.length k w) := by
  have H1 := Lib.hid h1
  have H2 := Lib.hid h2
  have HA := Lib.hid hap
  clear h1 h2 hap
  unfold MarkAr
  generalize hK : k + 2 * l.length = K at *
  have hKb : K ≤ 100000000 := by omega
  have HK := Lib.hid hK
  clear hK
  generalize hK2 : K + 3 * m.length = K2 at *
  have hK2b : K2 ≤ 1000000000 := by omega
  have HK2 := Lib.hid hK2
  clear hK2
  go_enter Tryd.func22, Tryd.ntmps22
  go_wp2_with fail
  refine (markPieceS_any base _ l k _ (H1.out.alloc _) hl (by omega)).mono ?_
  rintro e w1 ⟨rfl, hown, hgr⟩
  obtain ⟨⟨x0, x1, x2⟩, _, _⟩ := Row3.new.grew hgr (H1.out.ne)
  have HP1 := Lib.hid hown
  have HG1 := Lib.hid ((Grew.below (v := .slice A l.length c) ((Below.refl w.heap.size w).alloc (Nat.le_refl _) _)).trans hgr)
  have HQ1 := Lib.hid ((H2.out.alloc _).grew hgr HA.out.symm)
  rw [HK.out]
  clear hown hgr
  go_wp2_with fail
  refine (markVersionS_any base _ m K _ HQ1.out hl2 hKb).mono ?_
  rintro e w2 ⟨rfl, hown, hgr⟩
  have HQ2 := Lib.hid hown
  have HG2 := Lib.hid hgr
  have HP2 := Lib.hid (HP1.out.grew hgr HA.out)
  rw [HK2.out]
  clear hown hgr
  go_wp2
  go_ret
  exact ⟨rfl, HP2.out, HQ2.out, w1, HG1.out, HG2.out⟩
set_option maxHeartbeats 2000000 in
set_option maxRecDepth 100000 in
theorem heldArchive_any (A B : Option Addr) (c d : Nat) (n m : Nat) (x : Int) (k : Nat) (w : World) (h1 : Sl w encP 2 A (markPieceL k n)) (h2 : Sl w encV 3 B (markVersionL (k + 2 * n) m)) (hl : n ≤ 16777216) (hl2 : m ≤ 16777216) (hk : k ≤ 10000000) :
    Calls Tryd.prog 23 #[.agg #[.slice A n c, .int .i64 x, .slice B m d], .int .i64 (k : Int)] w fun e w' => e = .returned (.int .i64 ((k + 2 * n + 3 * m : Nat) : Int)) ∧ Below w.heap.size w w' := by
  generalize hK : k + 2 * n = K at *
  have hKb : K ≤ 100000000 := by omega
  have hK0 : ¬ (K : Int) < 0 := by omega
  have HK := Lib.hid hK
  clear hK
  generalize hK2 : K + 3 * m = K2 at *
  have hK2b : K2 ≤ 1000000000 := by omega
  have hK20 : ¬ (K2 : Int) < 0 := by omega
  have HK2 := Lib.hid hK2
  clear hK2
  have H1 := Lib.hid h1
  have H2 := Lib.hid h2
  clear h1 h2
  go_enter Tryd.func23, Tryd.ntmps23
  go_wp2_with fail
  refine (heldPieceS_any _ _ k n _ (H1.out.alloc _) hl (by omega)).mono ?_
  rintro e w1 ⟨rfl, hb⟩
  obtain ⟨⟨x0, x1, x2⟩, _, _⟩ := Row3.new.below hb
  have HB1 := Lib.hid (Below_of_alloc hb)
  rw [HK.out]
  clear hb
  go_wp2_with fail
  refine (heldVersionS_any _ _ K m _ (H2.out.below HB1.out) hl2 hKb).mono ?_
  rintro e w2 ⟨rfl, hb⟩
  have HB2 := Lib.hid (Below_then HB1.out hb (Nat.le_refl _))
  rw [HK2.out]
  clear hb
  go_wp2
  go_ret
  exact ⟨rfl, HB2.out⟩
end Go.Proofs.YtbpngpcjjinneaaDoor

/- ArchiveValid, walked. -/
set_option linter.unusedVariables false
namespace Go.Proofs.YtbpngpcjjinneaaDoor
open Go.RowKit
theorem archV_no1 {a : Ar} (h : storeV a.ps = false) : archV a = false := by unfold archV; rw [h]; rfl
theorem archV_no2 {a : Ar} (h : versV a.vs = false) : archV a = false := by unfold archV; rw [h]; simp
theorem archV_no3 {a : Ar} (h : folderOf a.ps a.op = none) : archV a = false := by unfold archV; rw [h]; simp
theorem archV_no4 {a : Ar} {k : Nat} (hk : k < a.vs.length) (h : folderOf a.ps a.vs[k].1 = none) : archV a = false := by
  have : (a.vs.all fun v => (folderOf a.ps v.1).isSome) = false := by
    rw [List.all_eq_false]; exact ⟨a.vs[k], by simp, by rw [h]; simp⟩
  unfold archV; rw [this]; simp
theorem archV_yes {a : Ar} (h1 : storeV a.ps = true) (h2 : versV a.vs = true) (h3 : (folderOf a.ps a.op).isSome = true) (h4 : ∀ k (h : k < a.vs.length), (folderOf a.ps a.vs[k].1).isSome = true) : archV a = true := by
  have : (a.vs.all fun v => (folderOf a.ps v.1).isSome) = true := by
    rw [List.all_eq_true]; intro v hv
    obtain ⟨k, hk, rfl⟩ := List.getElem_of_mem hv; exact h4 k hk
  unfold archV; rw [h1, h2, h3, this]; rfl
theorem Sl.getVo {w : World} {A : Option Addr} {l : List Vr} {k : Nat} (h : Sl w encV 3 A l) (hk : k < l.length) :
    ∃ b o, A = some ⟨b, o, none⟩ ∧ w.cell? ⟨b, o + k * 3, none⟩ = some (.int .i64 l[k].1) ∧ w.cell? ⟨b, o + k * 3 + 1, none⟩ = some (.int .i64 l[k].2.1) ∧ w.cell? ⟨b, o + k * 3 + 2, none⟩ = some (.string l[k].2.2) := h.getV hk
set_option maxHeartbeats 2000000 in
set_option maxRecDepth 100000 in
theorem iArchiveValid_any (A B : Option Addr) (c d : Nat) (l : List Pc) (m : List Vr) (x : Int) (w : World) (hs : Sl w encP 2 A l) (hl : l.length ≤ 16777216) (hf : FitP l) (ht : Sl w encV 3 B m) (hl2 : m.length ≤ 16777216) (hf2 : FitV m) (htz : TzL w) (hmx : MaxL w) :
    Calls Tryd.prog 34 #[.agg #[.slice A l.length c, .int .i64 x, .slice B m.length d]] w fun e w' => e = .returned (.bool (archV ⟨l, x, m⟩)) ∧ Below w.heap.size w w' := by
  have HS := Lib.hid hs
  have HT := Lib.hid ht
  have HTZ := Lib.hid htz
  have HMX := Lib.hid hmx
  have hSV := fun w h => iStoreValid_any A c l w h hl hf
  have hVV := fun w h => iVersionsValid_any B d m w h hl2 hf2
  have N1 := Lib.hid (@archV_no1 ⟨l, x, m⟩)
  have N2 := Lib.hid (@archV_no2 ⟨l, x, m⟩)
  have N3 := Lib.hid (@archV_no3 ⟨l, x, m⟩)
  have N4 := Lib.hid (fun k (hk : k < m.length) (h : folderOf l m[k].1 = none) => @archV_no4 ⟨l, x, m⟩ k hk h)
  have Y := Lib.hid (fun h1 h2 h3 (h4 : ∀ k (h : k < m.length), (folderOf l m[k].1).isSome = true) => @archV_yes ⟨l, x, m⟩ h1 h2 h3 h4)
  clear hs ht htz hmx
  generalize hR : archV ⟨l, x, m⟩ = R at *
  clear hR
  cases hv : storeV l
  · have HE := Lib.hid (N1.out hv)
    rw [hv] at hSV
    have HSV := Lib.hid hSV
    clear hSV hVV hv N1 N2 N3 N4 Y
    go_enter Tryd.func34, Tryd.ntmps34
    go_wp2_with fail
    refine (HSV.out _ (HS.out.alloc _)).mono ?_
    rintro e w1 ⟨rfl, hb⟩
    have HB := Lib.hid (Below_of_alloc hb)
    clear hb
    go_wp2
    go_ret
    exact ⟨ret_bool HE.out.symm, HB.out⟩
  · rw [hv] at hSV
    have HSV := Lib.hid hSV
    have HFO := Lib.hid (fun p w h h2 h3 => ifolderOf_any A c l p w h hv h2 h3)
    have HV := Lib.hid hv
    clear hSV hv
    cases hw : versV m
    · have HE := Lib.hid (N2.out hw)
      rw [hw] at hVV
      have HVV := Lib.hid hVV
      clear hVV hw N1 N2 N3 N4 Y
      go_enter Tryd.func34, Tryd.ntmps34
      go_wp2_with fail
      refine (HSV.out _ (HS.out.alloc _)).mono ?_
      rintro e w1 ⟨rfl, hb⟩
      obtain ⟨⟨x0, x1, x2⟩, _, _⟩ := Row3.new.below hb
      have HB := Lib.hid (Below_of_alloc hb)
      clear hb
      go_wp2_with fail
      refine (HVV.out _ (HT.out.below HB.out)).mono ?_
      rintro e w2 ⟨rfl, hb⟩
      have HB2 := Lib.hid (Below_then HB.out hb (Nat.le_refl _))
      clear hb
      go_wp2
      go_ret
      exact ⟨ret_bool HE.out.symm, HB2.out⟩
    · rw [hw] at hVV
      have HVV := Lib.hid hVV
      have HW := Lib.hid hw
      clear hVV hw
      unfold RfRes at HFO
      cases ho : folderOf l x with
      | none =>
        have HE := Lib.hid (N3.out ho)
        have HFX := HFO.out x
        rw [ho] at HFX
        have HFX := Lib.hid HFX
        clear ho N1 N2 N3 N4 Y
        go_enter Tryd.func34, Tryd.ntmps34
        go_wp2_with fail
        refine (HSV.out _ (HS.out.alloc _)).mono ?_
        rintro e w1 ⟨rfl, hb⟩
        obtain ⟨⟨x0, x1, x2⟩, _, _⟩ := Row3.new.below hb
        have HB := Lib.hid (Below_of_alloc hb)
        have HRW := Lib.hid (Row3.new.below hb)
        clear hb
        go_wp2_with fail
        refine (HVV.out _ (HT.out.below HB.out)).mono ?_
        rintro e w2 ⟨rfl, hb⟩
        clear x0 x1 x2
        obtain ⟨⟨x0, x1, x2⟩, _, _⟩ := HRW.out.below hb
        have HB2 := Lib.hid (Below_then HB.out hb (Nat.le_refl _))
        clear hb
        go_wp2_with fail
        refine (HFX.out _ (HS.out.below HB2.out) (HTZ.out.below HB2.out) (HMX.out.below HB2.out)).mono ?_
        rintro e w3 ⟨v, rfl, hown, hb⟩
        have HB3 := Lib.hid (Below_then HB2.out hb (Nat.le_refl _))
        clear hb hown
        go_wp2
        go_ret
        exact ⟨ret_bool HE.out.symm, HB3.out⟩
      | some fo =>
        have HFX := HFO.out x
        rw [ho] at HFX
        have HFX := Lib.hid HFX
        have HY := Lib.hid (fun h4 => Y.out HV.out HW.out (by rw [ho]; rfl) h4)
        clear ho N1 N2 N3 Y
        go_enter Tryd.func34, Tryd.ntmps34
        go_wp2_with fail
        refine (HSV.out _ (HS.out.alloc _)).mono ?_
        rintro e w1 ⟨rfl, hb⟩
        obtain ⟨⟨x0, x1, x2⟩, _, _⟩ := Row3.new.below hb
        have HB := Lib.hid (Below_of_alloc hb)
        have HRW := Lib.hid (Row3.new.below hb)
        clear hb
        go_wp2_with fail
        refine (HVV.out _ (HT.out.below HB.out)).mono ?_
        rintro e w2 ⟨rfl, hb⟩
        clear x0 x1 x2
        replace HRW := Lib.hid (HRW.out.below hb)
        obtain ⟨⟨x0, x1, x2⟩, _, _⟩ := HRW.out
        have HB2 := Lib.hid (Below_then HB.out hb (Nat.le_refl _))
        clear hb
        go_wp2_with fail
        refine (HFX.out _ (HS.out.below HB2.out) (HTZ.out.below HB2.out) (HMX.out.below HB2.out)).mono ?_
        rintro e w3 ⟨v, rfl, hown, hb⟩
        clear x0 x1 x2
        replace HRW := Lib.hid (HRW.out.below hb)
        have HB3 := Lib.hid (Below_then HB2.out hb (Nat.le_refl _))
        obtain ⟨⟨x0, x1, x2⟩, _, _⟩ := HRW.out
        obtain ⟨XF, dF, rfl, _, _, _⟩ := hown.sl
        clear hb hown
        go_wp2_with fail
        clear x0 x1 x2
        go_loopw [32] (fun i wr => ∃ (k : Nat), k ≤ m.length ∧ i = .int .i64 k ∧ Hid (∀ j (h : j < m.length), j < k → (folderOf l m[j].1).isSome = true) ∧ Hid (Below w3.heap.size w3 wr)) (fun i _ => m.length - (intOf i).toNat)
        case atStart => exact ⟨0, Nat.zero_le _, rfl, fun j h h2 => by omega, Below.refl _ _⟩
        case round =>
          obtain ⟨k, hk, rfl, HH, HBW⟩ := hrel
          have HB4 := Lib.hid (Below_then HB3.out HBW.out (Nat.le_refl _))
          by_cases hlt : k < m.length
          · obtain ⟨b, o, rfl, hc0, hc1, hc2⟩ := (HT.out.below HB4.out).getV hlt
            have HR5 := HRW.out.below HBW.out
            have HN4 := Lib.hid (N4.out k hlt)
            have HST := Lib.hid (fun (h : (folderOf l m[k].1).isSome = true) => show ∀ j (h : j < m.length), j < k + 1 → (folderOf l m[j].1).isSome = true from fun j hj h2 => by
              by_cases e : j = k
              · subst e; exact h
              · exact HH.out j hj (by omega))
            have hfx := HFO.out m[k].1
            generalize m[k] = vr at *
            obtain ⟨r0, r1, r2⟩ := vr
            simp only at *
            obtain ⟨⟨y0, y1, y2⟩, _, _⟩ := HR5.below ((Below.refl wr.heap.size wr).alloc (Nat.le_refl _) (.cells #[.int .i64 r0, .int .i64 r1, .string r2] 96))
            have HB5 := Lib.hid (HB4.out.alloc HB4.out.size (.cells #[.int .i64 r0, .int .i64 r1, .string r2] 96))
            cases hq : folderOf l r0 with
            | none =>
              have HE := Lib.hid (HN4.out hq)
              rw [hq] at hfx
              have HFQ := Lib.hid hfx
              clear hfx hq HN4 HST HR5
              go_wp2_with fail
              refine (HFQ.out _ (HS.out.below HB5.out) (HTZ.out.below HB5.out) (HMX.out.below HB5.out)).mono ?_
              rintro e w6 ⟨v6, rfl, hown6, hb6⟩
              have HB6 := Lib.hid (Below_then HB5.out hb6 (Nat.le_refl _))
              clear hb6 hown6
              go_wp2
              go_ret
              exact ⟨ret_bool HE.out.symm, HB6.out⟩
            | some q =>
              have HN := Lib.hid (HST.out (by rw [hq]; rfl))
              rw [hq] at hfx
              have HFQ := Lib.hid hfx
              clear hfx hq HN4 HST HR5
              go_wp2_with fail
              refine (HFQ.out _ (HS.out.below HB5.out) (HTZ.out.below HB5.out) (HMX.out.below HB5.out)).mono ?_
              rintro e w6 ⟨v6, rfl, hown6, hb6⟩
              have HB6 := Lib.hid (Below_then HBW.out (Below_of_alloc hb6) (Nat.le_refl _))
              obtain ⟨XQ, dQ, rfl, _, _, _⟩ := hown6.sl
              clear hb6 hown6
              go_wp2
              go_roundw
              case rel => exact ⟨k + 1, by omega, by go_num, HN.out, HB6.out⟩
              case measure => simp [intOf]; omega
          · have HE := Lib.hid (HY.out (fun j h => HH.out j h (by omega)))
            go_wp2
            go_ret
            exact ⟨ret_bool HE.out.symm, HB4.out⟩
end Go.Proofs.YtbpngpcjjinneaaDoor
