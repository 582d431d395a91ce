/- Texts in one: En, Be, Av, Ss, Ar, Ek, Open3. -/
import Derived.Test.YtkglfmgmmnfmbaaGreatDoorGa6
import Derived.Test.YtkglfmgmmnfmbaaGreatDoorGa2
import Derived.Test.YtkglfmgmmnfmbaaGreatDoorGa5
import Derived.Shelf.Abstract
import Derived.Test.YtkglfmgmmnfmbaaGreatDoorGa9
import Derived.Test.YtkglfmgmmnfmbaaGreatDoorGa1
import Derived.Test.YtkglfmgmmnfmbaaGreatDoorGa8
import Derived.Deep.RegionHeld3
import Derived.Test.YtkglfmgmmnfmbaaGreatDoorGa3
import Derived.Test.YtkglfmgmmnfmbaaGreatDoorGa4
import Derived.Maps.AppendAt
import Derived.Deep.Slices
import Derived.DataReads
/- Entries: the type's facts, slices.Clone, append of one. -/
set_option linter.unusedVariables false
namespace Go.Proofs.YtkglfmgmmnfmbaaGreatDoor
open Go.RowKit
theorem en_info : (Tryz.prog.info? 131).map (fun i => (i.zero, i.size, i.bytes)) = some (some (.agg #[.string ⟨#[]⟩, .int .i64 0]), 2, 24) := by kernel_rfl
theorem oneE : ∀ y, ∀ u ∈ encE y, u.oneCell' = true := by intro y u hu; simp [encE] at hu; rcases hu with rfl | rfl <;> rfl
section
variable {ops : Array Oper} {rest : List Oper} {o : Oper} {a : Act} {Q : Exit → Act → World → Prop} {w0 wr : World} {v : Value}
theorem app_enN {l m : List En} {A : Option Addr} {c : Nat} {s x : Operand} (hgd : o.guard = none) (ho : o.op = .call { callee := .builtin .append, args := #[s, x], argTypes := #[87, 87] })
    (hown : Own wr w0.heap.size 131 2 encE v l) (hb : Below w0.heap.size w0 wr) (hn : l.length + m.length ≤ 33554432) (hsl : Sl wr encE 2 A m) (hcz : A = none → c = 0)
    (hs : a.eval s = v) (hx : a.eval x = .slice A m.length c)
    (h : ∀ v' w', Own w' w0.heap.size 131 2 encE v' (l ++ m) → Below w0.heap.size w0 w' → Grew v wr w' → wpList Tryz.prog ops Q rest (a.put o.dst v') w') : wpList Tryz.prog ops Q (o :: rest) a wr := by
  obtain ⟨i0, hi0, hz0, hz1, hz2⟩ := info_parts en_info
  exact wpList_appN Tryz.underlying87 hi0 hz0 hz1 hz2 rfl (by decide) (by decide) hgd s x ho hown hb (Nat.le_refl _) hb.size hn hsl hcz (fun _ => rfl) oneE hs hx h
theorem app_en {base : Nat} {l : List En} {y : En} {s x : Operand} (hgd : o.guard = none) (ho : o.op = .call { callee := .builtin .append, args := #[s, x], argTypes := #[87, 87] })
    (hs : a.eval s = v) (hx : a.eval x = .slice (some ⟨wr.heap.size, 0, none⟩) 1 1)
    (hown : Own wr base 131 2 encE v l) (hb : Below w0.heap.size w0 wr) (hB : w0.heap.size ≤ base) (hbase : base ≤ wr.heap.size) (hn : l.length ≤ 16777216)
    (h : ∀ v' w', Own w' base 131 2 encE v' (l ++ [y]) → Below w0.heap.size w0 w' → wpList Tryz.prog ops Q rest (a.put o.dst v') w') : wpList Tryz.prog ops Q (o :: rest) a (wr.alloc (.cells #[.string y.1, .int .i64 y.2] 131)) := by
  obtain ⟨i0, hi0, hz0, hz1, hz2⟩ := info_parts en_info
  exact wpList_app1 Tryz.underlying87 hi0 hz0 hz1 hz2 rfl (by decide) (by decide) hgd s x ho hs hx hown hb hB hbase hn y _ rfl rfl (oneE y) h
end
set_option maxHeartbeats 2000000 in
set_option maxRecDepth 100000 in
theorem CloneEn_any (A : Option Addr) (c : Nat) (l : List En) (w : World) (hs : Sl w encE 2 A l) (hcz : A = none → c = 0) (hl : l.length ≤ 16777216) :
    Calls Tryz.prog 142 #[.slice A l.length c] w (OwnRes 131 2 encE l w) := by
  have HS := Lib.hid hs
  have HC := Lib.hid hcz
  clear hs hcz
  have hnil := fun (W : World) (A : Option Addr) (n c : Nat) => Lib.run_eql_slice_nil (P := Tryz.prog) W 87 131 A n c 0 0 Tryz.underlying87
  cases A with
  | none =>
    have hm : l = [] := by
      cases l with
      | nil => rfl
      | cons y r => obtain ⟨b, o, e, _⟩ := HS.out (by simp); cases e
    subst hm
    go_enter Tryz.func142, Tryz.ntmps142
    go_wp2
    go_ret
    exact ⟨_, rfl, Own.nil, Below.refl _ _⟩
  | some ad =>
    go_enter Tryz.func142, Tryz.ntmps142
    go_wp2_with (at_builtin; refine app_enN rfl rfl (Own.made (Nat.le_refl _)) ((Below.refl _ _).alloc (Nat.le_refl _) _) (by simp; omega) (HS.out.alloc _) HC.out (by rfl) (by rfl) ?_; intro v1 w2 hown2 hb2 hg2; have HW2 := Lib.hid hown2; have HB2 := Lib.hid hb2; clear hown2 hb2 hg2)
    go_ret
    exact ⟨_, rfl, by have h := HW2.out; rwa [List.nil_append] at h, HB2.out⟩
end Go.Proofs.YtkglfmgmmnfmbaaGreatDoor

/- Where a name stands: cmp.Compare of texts, slices.BinarySearchFunc, findEntry, printNamed, walked. -/
set_option linter.unusedVariables false
namespace Go.Proofs.YtkglfmgmmnfmbaaGreatDoor
open Go.RowKit

def FitE (l : List En) : Prop := ∀ p ∈ l, p.1.size ≤ 16777216
def cmpS (a b : ByteArray) : Int := if lessB (tx a) (tx b) then -1 else if lessB (tx b) (tx a) then 1 else 0
theorem less_tl (a b : ByteArray) : Op.bytesLess a.toList b.toList = lessB (tx a) (tx b) := by rw [ByteArray.toList_eq, ByteArray.toList_eq]
theorem eq_tl (a b : ByteArray) : (a.toList == b.toList) = (tx a == tx b) := by rw [ByteArray.toList_eq, ByteArray.toList_eq]
set_option maxHeartbeats 2000000 in
set_option maxRecDepth 100000 in
theorem isNaNS_any (a : ByteArray) (w : World) : Calls Tryz.prog 187 #[.string a] w fun e w' => e = .returned (.bool false) ∧ w = w' := by
  go_enter Tryz.func187, Tryz.ntmps187
  go_wp2
  go_ret
  exact ⟨ret_bool (by simp), rfl⟩
set_option maxHeartbeats 2000000 in
set_option maxRecDepth 100000 in
theorem CompareS_any (a b : ByteArray) (w : World) : Calls Tryz.prog 168 #[.string a, .string b] w fun e w' => e = .returned (.int .i64 (cmpS a b)) ∧ w = w' := by
  cases h1 : lessB (tx a) (tx b)
  · cases h2 : lessB (tx b) (tx a)
    · have E : Hid (cmpS a b = 0) := by show _ = _; unfold cmpS; rw [h1, h2]; rfl
      have l1 : Op.bytesLess a.toList b.toList = false := by rw [less_tl]; exact h1
      have l2 : (a.toList == b.toList) = true := by rw [eq_tl]; exact beq_iff_eq.2 (lessB_tri h1 h2)
      clear h1 h2
      go_enter Tryz.func168, Tryz.ntmps168
      go_wp2_with (go_at_call 187; refine (isNaNS_any _ _).mono ?_; rintro e w' ⟨rfl, rfl⟩)
      go_ret
      exact ⟨ret_int E.out.symm, rfl⟩
    · have E : Hid (cmpS a b = 1) := by show _ = _; unfold cmpS; rw [h1, h2]; rfl
      have l1 : Op.bytesLess a.toList b.toList = false := by rw [less_tl]; exact h1
      have l2 : (a.toList == b.toList) = false := by rw [eq_tl, beq_eq_false_iff_ne]; intro e; rw [e, lessB_irrefl] at h2; cases h2
      clear h1 h2
      go_enter Tryz.func168, Tryz.ntmps168
      go_wp2_with (go_at_call 187; refine (isNaNS_any _ _).mono ?_; rintro e w' ⟨rfl, rfl⟩)
      go_ret
      exact ⟨ret_int E.out.symm, rfl⟩
  · have E : Hid (cmpS a b = -1) := by show _ = _; unfold cmpS; rw [h1]; rfl
    have l1 : Op.bytesLess a.toList b.toList = true := by rw [less_tl]; exact h1
    clear h1
    go_enter Tryz.func168, Tryz.ntmps168
    go_wp2_with (go_at_call 187; refine (isNaNS_any _ _).mono ?_; rintro e w' ⟨rfl, rfl⟩)
    go_ret
    exact ⟨ret_int E.out.symm, rfl⟩
set_option maxHeartbeats 2000000 in
set_option maxRecDepth 100000 in
theorem feCmp_any (a : Int) (x t : ByteArray) (w : World) : Calls Tryz.prog 167 #[.agg #[.string t, .int .i64 a], .string x] w fun e w' => e = .returned (.int .i64 (cmpS t x)) ∧ Below w.heap.size w w' := by
  have HB := Lib.hid ((Below.refl w.heap.size w).alloc (Nat.le_refl _) (.cells #[.string t, .int .i64 a] 131))
  generalize hc : cmpS t x = c at *
  have HC := Lib.hid (fun w => hc ▸ CompareS_any t x w)
  clear hc
  go_enter Tryz.func167, Tryz.ntmps167
  go_wp2_with (go_at_call 168; refine (HC.out _).mono ?_; rintro e w' ⟨rfl, rfl⟩)
  go_ret
  exact ⟨rfl, HB.out⟩
def FeRes (l : List En) (x : ByteArray) (w : World) (e : Ending) (w' : World) : Prop := e = .returned (.tuple #[.int .i64 (posE l (tx x) : Nat), .bool (hereE l (tx x))]) ∧ Below w.heap.size w w'
theorem ret_twoE {a b : Int} {c d : Bool} (h1 : a = b) (h2 : c = d) : Ending.returned (.tuple #[.int .i64 a, .bool c]) = .returned (.tuple #[.int .i64 b, .bool d]) := by rw [h1, h2]
set_option maxHeartbeats 4000000 in
set_option maxRecDepth 100000 in
theorem BSearchE_any (A : Option Addr) (c : Nat) (l : List En) (x : ByteArray) (w : World) (hs : Sl w encE 2 A l) (hl : l.length ≤ 16777216) (hso : SortE l) :
    Calls Tryz.prog 166 #[.slice A l.length c, .string x, .func (.func 167) #[] #[]] w (FeRes l x w) := by
  have HS := Lib.hid hs
  have HSO := Lib.hid hso
  clear hs hso
  go_enter Tryz.func166, Tryz.ntmps166
  go_wp2_with fail
  go_loopw [9, 10] (fun vi vj wr => ∃ lo hi : Nat, vi = .int .i64 lo ∧ vj = .int .i64 hi ∧ lo ≤ hi ∧ hi ≤ l.length ∧ Hid (∀ t (h : t < l.length), t < lo → lessB (tx l[t].1) (tx x) = true) ∧ Hid (∀ t (h : t < l.length), hi ≤ t → lessB (tx l[t].1) (tx x) = false) ∧ Hid (Below w.heap.size w wr)) (fun vi vj _ => (intOf vj).toNat - (intOf vi).toNat)
  case atStart => exact ⟨0, l.length, rfl, rfl, Nat.zero_le _, Nat.le_refl _, (fun t h h2 => by omega), (fun t h h2 => by omega), Below.refl _ _⟩
  case round =>
    obtain ⟨lo, hi, rfl, rfl, hle, hhi, H1, H2, HB⟩ := hrel
    by_cases hlt : lo < hi
    · obtain ⟨m, hm⟩ : ∃ m, m = (lo + hi) / 2 := ⟨_, rfl⟩
      have hm1 : lo ≤ m := by omega
      have hm2 : m < hi := by omega
      have hml : m < l.length := by omega
      have hmi : ((lo : Int) + (hi : Int)) / 2 = (m : Int) := by omega
      obtain ⟨b, o, rfl, hc0, hc1⟩ := (HS.out.below HB.out).getE hml
      have HP := Lib.hid (List.pairwise_iff_getElem.1 HSO.out)
      have HQ1 := Lib.hid (fun (hx : lessB (tx l[m].1) (tx x) = true) (t : Nat) (h : t < l.length) (ht : t < m + 1) => show lessB (tx l[t].1) (tx x) = true by
        by_cases e : t = m
        · subst e; exact hx
        · exact lessB_trans (HP.out t m h hml (by omega)) hx)
      have HQ2 := Lib.hid (fun (hx : lessB (tx l[m].1) (tx x) = false) (t : Nat) (h : t < l.length) (ht : m ≤ t) => show lessB (tx l[t].1) (tx x) = false by
        by_cases e : m = t
        · subst e; exact hx
        · have h1 := HP.out m t hml h (by omega)
          cases h2 : lessB (tx l[t].1) (tx x)
          · rfl
          · rw [lessB_trans h1 h2] at hx; cases hx)
      generalize l[m] = p at *
      obtain ⟨t, a⟩ := p
      simp only at *
      clear hm HP
      have hC := fun w => feCmp_any a x t w
      cases hax : lessB (tx t) (tx x)
      · have HN := Lib.hid (HQ2.out hax)
        have hcm : ¬ cmpS t x < 0 := by unfold cmpS; rw [hax]; simp only [Bool.false_eq_true, if_false]; split <;> omega
        generalize cmpS t x = cv at *
        have HC := Lib.hid hC
        clear hC HQ1 HQ2 hax
        go_wp2_with ((first | go_at_call 167 | go_at_fn 167); refine (HC.out _).mono ?_; rintro e w2 ⟨rfl, hb2⟩; have HB2 := Lib.hid (Below_then HB.out hb2 (Nat.le_refl _)); clear hb2)
        go_roundw
        case rel => exact ⟨lo, m, rfl, rfl, by omega, by omega, H1.out, HN.out, HB2.out⟩
        case measure => simp [intOf]; omega
      · have HN := Lib.hid (HQ1.out hax)
        have hcm : cmpS t x = -1 := by unfold cmpS; rw [hax]; rfl
        rw [hcm] at hC
        have HC := Lib.hid hC
        clear hC hcm HQ1 HQ2 hax
        go_wp2_with ((first | go_at_call 167 | go_at_fn 167); refine (HC.out _).mono ?_; rintro e w2 ⟨rfl, hb2⟩; have HB2 := Lib.hid (Below_then HB.out hb2 (Nat.le_refl _)); clear hb2)
        go_roundw
        case rel => exact ⟨m + 1, hi, by go_num, rfl, by omega, hhi, HN.out, H2.out, HB2.out⟩
        case measure => simp [intOf]; omega
    · obtain rfl : hi = lo := by omega
      have HE := Lib.hid (posE_of l (tx x) hi hhi H1.out (fun h => H2.out hi h (Nat.le_refl _)))
      by_cases hn : hi < l.length
      · obtain ⟨b, o, rfl, hc0, hc1⟩ := (HS.out.below HB.out).getE hn
        have hh : hereE l (tx x) = (tx l[hi].1 == tx x) := by unfold hereE; rw [HE.out, getD_en hn, decide_eq_true hn, Bool.true_and]
        have hnl := H2.out hi hn (Nat.le_refl _)
        generalize l[hi] = p at *
        obtain ⟨t, a⟩ := p
        simp only at *
        have hC := fun w => feCmp_any a x t w
        cases hgx : lessB (tx x) (tx t)
        · have HH := Lib.hid (show hereE l (tx x) = true by rw [hh]; exact beq_iff_eq.2 (lessB_tri hnl hgx))
          have hcm : cmpS t x = 0 := by unfold cmpS; rw [hnl, hgx]; rfl
          rw [hcm] at hC
          have HC := Lib.hid hC
          clear hC hcm hh hgx hnl
          go_wp2_with ((first | go_at_call 167 | go_at_fn 167); refine (HC.out _).mono ?_; rintro e w2 ⟨rfl, hb2⟩; have HB2 := Lib.hid (Below_then HB.out hb2 (Nat.le_refl _)); clear hb2)
          go_ret2
          exact ⟨ret_twoE (by rw [HE.out]) (by rw [HH.out]), HB2.out⟩
        · have HH := Lib.hid (show hereE l (tx x) = false by rw [hh, beq_eq_false_iff_ne]; intro e; rw [e, lessB_irrefl] at hgx; cases hgx)
          have hcm : cmpS t x = 1 := by unfold cmpS; rw [hnl, hgx]; rfl
          rw [hcm] at hC
          have HC := Lib.hid hC
          clear hC hcm hh hgx hnl
          go_wp2_with ((first | go_at_call 167 | go_at_fn 167); refine (HC.out _).mono ?_; rintro e w2 ⟨rfl, hb2⟩; have HB2 := Lib.hid (Below_then HB.out hb2 (Nat.le_refl _)); clear hb2)
          go_ret2
          exact ⟨ret_twoE (by rw [HE.out]) (by rw [HH.out]), HB2.out⟩
      · have HH := Lib.hid (show hereE l (tx x) = false by unfold hereE; rw [HE.out, decide_eq_false hn]; rfl)
        go_wp2
        go_ret2
        exact ⟨ret_twoE (by rw [HE.out]) (by rw [HH.out]), HB.out⟩
set_option maxHeartbeats 4000000 in
set_option maxRecDepth 100000 in
theorem findEntry_any (A : Option Addr) (c : Nat) (l : List En) (x : ByteArray) (w : World) (hs : Sl w encE 2 A l) (hl : l.length ≤ 16777216) (hso : SortE l) :
    Calls Tryz.prog 143 #[.slice A l.length c, .string x] w (FeRes l x w) := by
  have HX := Lib.hid (fun w h => BSearchE_any A c l x w h hl hso)
  have HS := Lib.hid hs
  clear hs hso
  unfold FeRes at *
  go_enter Tryz.func143, Tryz.ntmps143
  go_wp2_with fail
  refine (HX.out _ HS.out).mono ?_
  rintro e w1 ⟨rfl, hb⟩
  have HB := Lib.hid hb
  clear hb
  go_wp2
  go_ret2
  exact ⟨rfl, HB.out⟩
def PnRes (l : List En) (x : ByteArray) (w : World) (e : Ending) (w' : World) : Prop := e = .returned (.tuple #[.int .i64 ((getE l (tx x)).getD (-1)), .bool (getE l (tx x)).isSome]) ∧ Below w.heap.size w w'
set_option maxHeartbeats 4000000 in
set_option maxRecDepth 100000 in
theorem printNamed_any (A : Option Addr) (c : Nat) (l : List En) (x : ByteArray) (w : World) (hs : Sl w encE 2 A l) (hl : l.length ≤ 16777216) (hso : SortE l) :
    Calls Tryz.prog 137 #[.slice A l.length c, .string x] w (PnRes l x w) := by
  have hX := fun w h => findEntry_any A c l x w h hl hso
  have HS := Lib.hid hs
  have hg := getE_here hso (n := tx x)
  clear hs
  unfold FeRes at hX
  unfold PnRes
  rw [hg]
  cases hh : hereE l (tx x)
  · rw [hh] at hX
    have HX := Lib.hid hX
    clear hX hg hso hh
    go_enter Tryz.func137, Tryz.ntmps137
    go_wp2_with fail
    refine (HX.out _ HS.out).mono ?_
    rintro e w1 ⟨rfl, hb⟩
    have HB := Lib.hid hb
    clear hb
    go_wp2
    go_ret2
    exact ⟨rfl, HB.out⟩
  · have hlt : posE l (tx x) < l.length := (hereE_iff.1 hh).1
    rw [hh] at hX
    rw [getD_en hlt]
    have HX := Lib.hid hX
    have HG := Lib.hid (fun (w : World) (h : Sl w encE 2 A l) => h.getE hlt)
    generalize l[posE l (tx x)] = q at *
    obtain ⟨t, a⟩ := q
    simp only at *
    generalize posE l (tx x) = B at *
    obtain ⟨b, o, rfl, _, _⟩ := HG.out w HS.out
    clear hX hg hso hh
    go_enter Tryz.func137, Tryz.ntmps137
    go_wp2_with fail
    refine (HX.out _ HS.out).mono ?_
    rintro e w1 ⟨rfl, hb⟩
    have HB := Lib.hid hb
    obtain ⟨b', o', e', hc0, hc1⟩ := HG.out _ (HS.out.below hb)
    have hbb : b' = b ∧ o' = o := by injection e' with e'; injection e' with e1 e2; exact ⟨e1.symm, e2.symm⟩
    obtain ⟨rfl, rfl⟩ := hbb
    clear hb e'
    go_wp2
    go_ret2
    exact ⟨rfl, HB.out⟩
end Go.Proofs.YtkglfmgmmnfmbaaGreatDoor

/- Versions: append, a copy, one more. -/
set_option linter.unusedVariables false
namespace Go.Proofs.YtkglfmgmmnfmbaaGreatDoor
open Go.RowKit

theorem step_appN {P : Program} {α : Type} {enc : α → List Value} {ops : Array Oper} {o : Oper} {a : Act} {K : Act → World → Prop} {Q : Exit → Act → World → Prop} {E' : Prop} {w0 wr : World} {B base size bytes : Nat} {t E : TypeId} {i : TypeInfo} {z : Value} {v : Value} {l m : List α} {A : Option Addr} {c : Nat}
    (ht : P.underlying t = some (.slice E)) (hi : P.info? E = some i) (hz : i.zero = some z) (hsize : i.size = size) (hby : i.bytes = bytes) (hzs : z.cells.size = size) (hsz : 0 < size) (hb200 : bytes ≤ 256)
    (hgd : o.guard = none) (s x : Operand) (ho : o.op = .call { callee := .builtin .append, args := #[s, x], argTypes := #[t, t] })
    (hown : Own wr base E size enc v l) (hb : Below B w0 wr) (hB : B ≤ base) (hbase : base ≤ wr.heap.size) (hn : l.length + m.length ≤ 33554432)
    (hsl : Sl wr enc size A m) (hcz : A = none → c = 0) (hce : ∀ y, (enc y).length = size) (h1 : ∀ y, ∀ u ∈ enc y, u.oneCell' = true)
    (hs : a.eval s = v) (hx : a.eval x = .slice A m.length c)
    (h : ∀ v' w', Own w' base E size enc v' (l ++ m) → Below B w0 w' → Grew v wr w' → K (a.put o.dst v') w') :
    if Region.wanted o (yielded ops a.tmps) = true then Oper.wp P o a wr K Q else E' := by
  have hw : Region.wanted o (yielded ops a.tmps) = true := by simp [Region.wanted, hgd]
  rw [if_pos hw]
  cases A with
  | none =>
    have hm : m = [] := by
      cases m with
      | nil => rfl
      | cons y r => obtain ⟨b, o, e, _⟩ := hsl (by simp); cases e
    subst hm
    rw [hcz rfl] at hx
    have hrun := run_append_owned_none (P := P) (w := wr) base t o.type E i size ht hi v l.length (flat enc l) hown
    have hK := h v wr (by rw [List.append_nil]; exact hown) hb (Grew.refl _ _)
    simp at hx
    unfold Oper.wp
    simp [execOp, ho, resolve, invoke, builtin, hs, hx, hrun, Result.andThen]
    exact hK
  | some ad =>
    refine wp_append_own wr s x t ho base E i z size bytes ht hi hz hsize hby hzs hsz v l.length (flat enc l) hs hown ad m.length c (flat enc m) hx (flat_length hce m) ?_ ?_ ?_ ?_ hbase ?_
    · intro j u hu
      have hpos : 0 < m.length := by
        have hlt := (List.getElem?_eq_some_iff.1 hu).1
        rw [flat_length hce] at hlt
        cases m with
        | nil => simp at hlt
        | cons y r => simp
      obtain ⟨b, o', e, hc⟩ := hsl hpos
      injection e with e
      subst e
      have hadd : (⟨b, o', none⟩ : Addr).add j = ⟨b, o' + j, none⟩ := by unfold Addr.add; split <;> simp_all
      rw [hadd]; exact hc j u hu
    · intro u hu
      unfold flat at hu
      obtain ⟨y, _, hy⟩ := List.mem_flatMap.1 hu
      exact h1 y u hy
    · unfold maxLen; omega
    · have := Nat.mul_le_mul_left (l.length + m.length) hb200; omega
    · intro v' w' hown' hg _
      refine h v' w' ?_ (hb.grown hg (Nat.le_trans hB hbase) (fun k hk => Nat.le_trans hB (World.ownsRow.lt hown k hk).1)) hg
      show w'.ownsRow base E size v' (l ++ m).length (flat enc (l ++ m))
      rw [flat_append, List.length_append]; exact hown'
theorem Grew.cell {v u : Value} {w w' : World} (h : Grew v w w') {b o : Nat} (hv : v.ownBlock ≠ some b) (hc : w.cell? ⟨b, o, none⟩ = some u) : w'.cell? ⟨b, o, none⟩ = some u := by
  rw [World.cell?_of_block (w := w) (h.block b (World.block_lt_of_cell? w _ hc) (fun e => hv e.symm))]; exact hc
theorem cell_alloc {u : Value} {w : World} {x : Obj} {a : Addr} (hc : w.cell? a = some u) : (w.alloc x).cell? a = some u :=
  (World.cell?_alloc_lt w x a (World.block_lt_of_cell? w _ hc)).trans hc
theorem keep3 {w w' : World} {x : Nat} {v0 v1 v2 : Value} (hb : Below w.heap.size w w') (h : w.cell? ⟨x, 0, none⟩ = some v0 ∧ w.cell? ⟨x, 1, none⟩ = some v1 ∧ w.cell? ⟨x, 2, none⟩ = some v2) :
    w'.cell? ⟨x, 0, none⟩ = some v0 ∧ w'.cell? ⟨x, 1, none⟩ = some v1 ∧ w'.cell? ⟨x, 2, none⟩ = some v2 :=
  ⟨Below_cells hb _ _ _ h.1, Below_cells hb _ _ _ h.2.1, Below_cells hb _ _ _ h.2.2⟩
section
variable {ops : Array Oper} {rest : List Oper} {o : Oper} {a : Act} {K : Act → World → Prop} {Q : Exit → Act → World → Prop} {E' : Prop} {w0 wr : World} {v : Value}
theorem app_vrN {l m : List Vr} {A : Option Addr} {c : Nat} {s x : Operand} (hgd : o.guard = none) (ho : o.op = .call { callee := .builtin .append, args := #[s, x], argTypes := #[28, 28] })
    (hown : Own wr w0.heap.size 63 3 encV v l) (hb : Below w0.heap.size w0 wr) (hn : l.length + m.length ≤ 33554432) (hsl : Sl wr encV 3 A m) (hcz : A = none → c = 0)
    (hs : a.eval s = v) (hx : a.eval x = .slice A m.length c)
    (h : ∀ v' w', Own w' w0.heap.size 63 3 encV v' (l ++ m) → Below w0.heap.size w0 w' → Grew v wr w' → wpList Tryz.prog ops Q rest (a.put o.dst v') w') : wpList Tryz.prog ops Q (o :: rest) a wr := by
  obtain ⟨i0, hi0, hz0, hz1, hz2⟩ := info_parts encV_info
  exact wpList_appN Tryz.underlying28 hi0 hz0 hz1 hz2 rfl (by decide) (by decide) hgd s x ho hown hb (Nat.le_refl _) hb.size hn hsl hcz (fun _ => rfl) oneV hs hx h
theorem step_vrN {l m : List Vr} {A : Option Addr} {c : Nat} {s x : Operand} (hgd : o.guard = none) (ho : o.op = .call { callee := .builtin .append, args := #[s, x], argTypes := #[28, 28] })
    (hown : Own wr w0.heap.size 63 3 encV v l) (hb : Below w0.heap.size w0 wr) (hn : l.length + m.length ≤ 33554432) (hsl : Sl wr encV 3 A m) (hcz : A = none → c = 0)
    (hs : a.eval s = v) (hx : a.eval x = .slice A m.length c)
    (h : ∀ v' w', Own w' w0.heap.size 63 3 encV v' (l ++ m) → Below w0.heap.size w0 w' → Grew v wr w' → K (a.put o.dst v') w') : if Region.wanted o (yielded ops a.tmps) = true then Oper.wp Tryz.prog o a wr K Q else E' := by
  obtain ⟨i0, hi0, hz0, hz1, hz2⟩ := info_parts encV_info
  exact step_appN Tryz.underlying28 hi0 hz0 hz1 hz2 rfl (by decide) (by decide) hgd s x ho hown hb (Nat.le_refl _) hb.size hn hsl hcz (fun _ => rfl) oneV hs hx h
theorem step_vr {l : List Vr} {y : Vr} {g : Nat} {s x : Operand} (hgd : o.guard = none) (ho : o.op = .call { callee := .builtin .append, args := #[s, x], argTypes := #[28, 28] })
    (hown : Own wr w0.heap.size 63 3 encV v l) (hb : Below w0.heap.size w0 wr) (hn : l.length ≤ 16777216)
    (c0 : wr.cell? ⟨g, 0, none⟩ = some (.int .i64 y.1)) (c1 : wr.cell? ⟨g, 1, none⟩ = some (.int .i64 y.2.1)) (c2 : wr.cell? ⟨g, 2, none⟩ = some (.string y.2.2))
    (hs : a.eval s = v) (hx : a.eval x = .slice (some ⟨g, 0, none⟩) 1 1)
    (h : ∀ v' w', Own w' w0.heap.size 63 3 encV v' (l ++ [y]) → Below w0.heap.size w0 w' → K (a.put o.dst v') w') : if Region.wanted o (yielded ops a.tmps) = true then Oper.wp Tryz.prog o a wr K Q else E' := by
  obtain ⟨i0, hi0, hz0, hz1, hz2⟩ := info_parts encV_info
  exact step_app1 Tryz.underlying28 hi0 hz0 hz1 hz2 rfl (by decide) (by decide) hgd s x ho hs hx hown hb (Nat.le_refl _) hb.size hn y (by
    intro j u hu
    have hj : j < 3 := by have := (List.getElem?_eq_some_iff.1 hu).1; simp [encV] at this; omega
    match j, hj with
    | 0, _ => simp [encV] at hu; rw [← hu]; exact c0
    | 1, _ => simp [encV] at hu; rw [← hu]; exact c1
    | 2, _ => simp [encV] at hu; rw [← hu]; exact c2) rfl (oneV y) h
end
/-! ### 'append(append([]Version{}, l...), y)' in whatever order -/
abbrev rowV (y : Vr) : Obj := .cells #[.int .i64 y.1, .int .i64 y.2.1, .string y.2.2] 63
abbrev madeV : Obj := .cells #[] 63
def RowAt (w : World) (g : Nat) (y : Vr) : Prop := w.cell? ⟨g, 0, none⟩ = some (.int .i64 y.1) ∧ w.cell? ⟨g, 1, none⟩ = some (.int .i64 y.2.1) ∧ w.cell? ⟨g, 2, none⟩ = some (.string y.2.2)
theorem RowAt.new (w : World) (y : Vr) : RowAt (w.alloc (rowV y)) w.heap.size y := ⟨new_cell rfl, new_cell rfl, new_cell rfl⟩
theorem RowAt.alloc {w : World} {g : Nat} {y : Vr} (h : RowAt w g y) (x : Obj) : RowAt (w.alloc x) g y := ⟨cell_alloc h.1, cell_alloc h.2.1, cell_alloc h.2.2⟩
theorem RowAt.grew {w w' : World} {g : Nat} {y : Vr} {v : Value} (h : RowAt w g y) (hg : Grew v w w') (hv : v.ownBlock ≠ some g) : RowAt w' g y := ⟨hg.cell hv h.1, hg.cell hv h.2.1, hg.cell hv h.2.2⟩
section
variable {ops : Array Oper} {o : Oper} {a : Act} {K : Act → World → Prop} {Q : Exit → Act → World → Prop} {E' : Prop} {w1 : World} {l : List Vr} {A : Option Addr} {c : Nat} {y : Vr} {s x : Operand}
theorem step_vr_a (hsl : Sl w1 encV 3 A l) (hcz : A = none → c = 0) (hl : l.length ≤ 16777216) (hgd : o.guard = none) (ho : o.op = .call { callee := .builtin .append, args := #[s, x], argTypes := #[28, 28] })
    (hs : a.eval s = .slice (some ⟨w1.heap.size, 0, none⟩) 0 0) (hx : a.eval x = .slice A l.length c)
    (h : ∀ v' w', Own w' w1.heap.size 63 3 encV v' l → Below w1.heap.size w1 w' → K (a.put o.dst v') w') : if Region.wanted o (yielded ops a.tmps) = true then Oper.wp Tryz.prog o a (w1.alloc madeV).drew K Q else E' :=
  step_vrN (w0 := w1) (l := []) hgd ho ((Own.made (w := w1) (Nat.le_refl _)).drew) (((Below.refl _ _).alloc (Nat.le_refl _) _).drew) (by simp; omega) ((hsl.alloc _).drew) hcz hs hx fun v' w' h1 h2 _ => h v' w' h1 h2
theorem step_vr_b (hsl : Sl w1 encV 3 A l) (hcz : A = none → c = 0) (hl : l.length ≤ 16777216) (hgd : o.guard = none) (ho : o.op = .call { callee := .builtin .append, args := #[s, x], argTypes := #[28, 28] })
    (hs : a.eval s = .slice (some ⟨w1.heap.size, 0, none⟩) 0 0) (hx : a.eval x = .slice A l.length c)
    (h : ∀ v' w', Own w' w1.heap.size 63 3 encV v' l → Below w1.heap.size w1 w' → RowAt w' (w1.heap.size + 1) y → K (a.put o.dst v') w') : if Region.wanted o (yielded ops a.tmps) = true then Oper.wp Tryz.prog o a ((w1.alloc madeV).alloc (rowV y)).drew K Q else E' := by
  have hz : w1.heap.size ≤ (w1.alloc madeV).heap.size := by simp
  have hr := RowAt.new (w1.alloc madeV) y
  have hzz : (w1.alloc madeV).heap.size = w1.heap.size + 1 := by simp
  rw [hzz] at hr
  exact step_vrN (w0 := w1) (l := []) hgd ho (((Own.made (w := w1) (Nat.le_refl _)).alloc _).drew) ((((Below.refl _ _).alloc (Nat.le_refl _) _).alloc hz _).drew) (by simp; omega) (((hsl.alloc _).alloc _).drew) hcz hs hx fun v' w' h1 h2 h3 => h v' w' h1 h2 (RowAt.grew (w := ((w1.alloc madeV).alloc (rowV y)).drew) hr h3 (by simp [Value.ownBlock]))
theorem step_vr_c (hsl : Sl w1 encV 3 A l) (hcz : A = none → c = 0) (hl : l.length ≤ 16777216) (hgd : o.guard = none) (ho : o.op = .call { callee := .builtin .append, args := #[s, x], argTypes := #[28, 28] })
    (hs : a.eval s = .slice (some ⟨w1.heap.size + 1, 0, none⟩) 0 0) (hx : a.eval x = .slice A l.length c)
    (h : ∀ v' w', Own w' w1.heap.size 63 3 encV v' l → Below w1.heap.size w1 w' → RowAt w' w1.heap.size y → K (a.put o.dst v') w') : if Region.wanted o (yielded ops a.tmps) = true then Oper.wp Tryz.prog o a ((w1.alloc (rowV y)).alloc madeV).drew K Q else E' := by
  have hz : w1.heap.size ≤ (w1.alloc (rowV y)).heap.size := by simp
  have hr := (RowAt.new w1 y).alloc madeV
  have hm := (Own.made (enc := encV) (E := 63) (size := 3) (w := w1.alloc (rowV y)) hz).drew
  have hzz : (w1.alloc (rowV y)).heap.size = w1.heap.size + 1 := by simp
  rw [hzz] at hm
  exact step_vrN (w0 := w1) (l := []) hgd ho hm ((((Below.refl _ _).alloc (Nat.le_refl _) _).alloc hz _).drew) (by simp; omega) (((hsl.alloc _).alloc _).drew) hcz hs hx fun v' w' h1 h2 h3 => h v' w' h1 h2 (RowAt.grew (w := ((w1.alloc (rowV y)).alloc madeV).drew) hr h3 (by simp [Value.ownBlock]))
theorem step_vr_d {w0 W : World} {v : Value} {g : Nat} (hown : Own W w0.heap.size 63 3 encV v l) (hb : Below w0.heap.size w0 W) (hr : RowAt W g y) (hl : l.length ≤ 16777216) (hgd : o.guard = none) (ho : o.op = .call { callee := .builtin .append, args := #[s, x], argTypes := #[28, 28] })
    (hs : a.eval s = v) (hx : a.eval x = .slice (some ⟨g, 0, none⟩) 1 1)
    (h : ∀ v' w', Own w' w0.heap.size 63 3 encV v' (l ++ [y]) → Below w0.heap.size w0 w' → K (a.put o.dst v') w') : if Region.wanted o (yielded ops a.tmps) = true then Oper.wp Tryz.prog o a W K Q else E' :=
  step_vr hgd ho hown hb hl hr.1 hr.2.1 hr.2.2 hs hx h
end
/-! ### slices.Clone -/
set_option maxHeartbeats 2000000 in
set_option maxRecDepth 100000 in
theorem CloneVr_any (A : Option Addr) (c : Nat) (l : List Vr) (w : World) (hs : Sl w encV 3 A l) (hcz : A = none → c = 0) (hl : l.length ≤ 16777216) :
    Calls Tryz.prog 98 #[.slice A l.length c] w (OwnRes 63 3 encV l w) := by
  have HS := Lib.hid hs
  have HC := Lib.hid hcz
  clear hs hcz
  have hnil := fun (W : World) (A : Option Addr) (n c : Nat) => Lib.run_eql_slice_nil (P := Tryz.prog) W 28 63 A n c 0 0 Tryz.underlying28
  cases A with
  | none =>
    have hm : l = [] := by
      cases l with
      | nil => rfl
      | cons y r => obtain ⟨b, o, e, _⟩ := HS.out (by simp); cases e
    subst hm
    go_enter Tryz.func98, Tryz.ntmps98
    go_wp2
    go_ret
    exact ⟨_, rfl, Own.nil, Below.refl _ _⟩
  | some ad =>
    go_enter Tryz.func98, Tryz.ntmps98
    go_wp2_with (at_builtin; refine app_vrN rfl rfl (Own.made (Nat.le_refl _)) ((Below.refl _ _).alloc (Nat.le_refl _) _) (by simp; omega) (HS.out.alloc _) HC.out (by rfl) (by rfl) ?_; intro v1 w2 hown2 hb2 hg2; have HW2 := Lib.hid hown2; have HB2 := Lib.hid hb2; clear hown2 hb2 hg2)
    go_ret
    exact ⟨_, rfl, by have h := HW2.out; rwa [List.nil_append] at h, HB2.out⟩
/-! ### one more version -/
end Go.Proofs.YtkglfmgmmnfmbaaGreatDoor

/- 'append' of strings in regions that draw their order. -/
set_option linter.unusedVariables false
namespace Go.Proofs.YtkglfmgmmnfmbaaGreatDoor
open Go.RowKit

theorem step_appW {P : Program} {α : Type} {enc : α → List Value} {ops : Array Oper} {o : Oper} {a : Act} {K : Act → World → Prop} {Q : Exit → Act → World → Prop} {E' : Prop} {w0 wr : World} {B base size bytes : Nat} {t E : TypeId} {i : TypeInfo} {z : Value} {v : Value} {l m : List α} {A : Option Addr} {c : Nat}
    (ht : P.underlying t = some (.slice E)) (hi : P.info? E = some i) (hz : i.zero = some z) (hsize : i.size = size) (hby : i.bytes = bytes) (hzs : z.cells.size = size) (hsz : 0 < size) (hb200 : bytes ≤ 256)
    (hw : Region.wanted o (yielded ops a.tmps) = true) (s x : Operand) (ho : o.op = .call { callee := .builtin .append, args := #[s, x], argTypes := #[t, t] })
    (hown : Own wr base E size enc v l) (hb : Below B w0 wr) (hB : B ≤ base) (hbase : base ≤ wr.heap.size) (hn : l.length + m.length ≤ 33554432)
    (hsl : Sl wr enc size A m) (hcz : A = none → c = 0) (hce : ∀ y, (enc y).length = size) (h1 : ∀ y, ∀ u ∈ enc y, u.oneCell' = true)
    (hs : a.eval s = v) (hx : a.eval x = .slice A m.length c)
    (h : ∀ v' w', Own w' base E size enc v' (l ++ m) → Below B w0 w' → Grew v wr w' → K (a.put o.dst v') w') :
    if Region.wanted o (yielded ops a.tmps) = true then Oper.wp P o a wr K Q else E' := by
  rw [if_pos hw]
  cases A with
  | none =>
    have hm : m = [] := by
      cases m with
      | nil => rfl
      | cons y r => obtain ⟨b, o, e, _⟩ := hsl (by simp); cases e
    subst hm
    rw [hcz rfl] at hx
    have hrun := run_append_owned_none (P := P) (w := wr) base t o.type E i size ht hi v l.length (flat enc l) hown
    have hK := h v wr (by rw [List.append_nil]; exact hown) hb (Grew.refl _ _)
    simp at hx
    unfold Oper.wp
    simp [execOp, ho, resolve, invoke, builtin, hs, hx, hrun, Result.andThen]
    exact hK
  | some ad =>
    refine wp_append_own wr s x t ho base E i z size bytes ht hi hz hsize hby hzs hsz v l.length (flat enc l) hs hown ad m.length c (flat enc m) hx (flat_length hce m) ?_ ?_ ?_ ?_ hbase ?_
    · intro j u hu
      have hpos : 0 < m.length := by
        have hlt := (List.getElem?_eq_some_iff.1 hu).1
        rw [flat_length hce] at hlt
        cases m with
        | nil => simp at hlt
        | cons y r => simp
      obtain ⟨b, o', e, hc⟩ := hsl hpos
      injection e with e
      subst e
      have hadd : (⟨b, o', none⟩ : Addr).add j = ⟨b, o' + j, none⟩ := by unfold Addr.add; split <;> simp_all
      rw [hadd]; exact hc j u hu
    · intro u hu
      unfold flat at hu
      obtain ⟨y, _, hy⟩ := List.mem_flatMap.1 hu
      exact h1 y u hy
    · unfold maxLen; omega
    · have := Nat.mul_le_mul_left (l.length + m.length) hb200; omega
    · intro v' w' hown' hg _
      refine h v' w' ?_ (hb.grown hg (Nat.le_trans hB hbase) (fun k hk => Nat.le_trans hB (World.ownsRow.lt hown k hk).1)) hg
      show w'.ownsRow base E size v' (l ++ m).length (flat enc (l ++ m))
      rw [flat_append, List.length_append]; exact hown'
abbrev rowS (y : ByteArray) : Obj := .cells #[.string y] 9
abbrev madeS : Obj := .cells #[] 9
section
variable {ops : Array Oper} {o : Oper} {a : Act} {K : Act → World → Prop} {Q : Exit → Act → World → Prop} {E' : Prop} {w1 : World} {l : List ByteArray} {A : Option Addr} {c : Nat} {y : ByteArray} {s x : Operand}
theorem step_strN {l m : List ByteArray} {w0 wr : World} {v : Value} {A : Option Addr} {c : Nat} {s x : Operand} (hw : Region.wanted o (yielded ops a.tmps) = true) (ho : o.op = .call { callee := .builtin .append, args := #[s, x], argTypes := #[37, 37] })
    (hown : Own wr w0.heap.size 9 1 encS v l) (hb : Below w0.heap.size w0 wr) (hn : l.length + m.length ≤ 33554432) (hsl : Sl wr encS 1 A m) (hcz : A = none → c = 0)
    (hs : a.eval s = v) (hx : a.eval x = .slice A m.length c)
    (h : ∀ v' w', Own w' w0.heap.size 9 1 encS v' (l ++ m) → Below w0.heap.size w0 w' → Grew v wr w' → K (a.put o.dst v') w') : if Region.wanted o (yielded ops a.tmps) = true then Oper.wp Tryz.prog o a wr K Q else E' := by
  obtain ⟨i0, hi0, hz0, hz1, hz2⟩ := info_parts str_info
  exact step_appW Tryz.underlying37 hi0 hz0 hz1 hz2 rfl (by decide) (by decide) hw s x ho hown hb (Nat.le_refl _) hb.size hn hsl hcz (fun _ => rfl) oneS hs hx h
def StrAt (w : World) (g : Nat) (y : ByteArray) : Prop := w.cell? ⟨g, 0, none⟩ = some (.string y)
theorem StrAt.new (w : World) (y : ByteArray) : StrAt (w.alloc (rowS y)) w.heap.size y := new_cell rfl
theorem StrAt.sl {w : World} {g : Nat} {y : ByteArray} (h : StrAt w g y) : Sl w encS 1 (some ⟨g, 0, none⟩) [y] := by
  intro _
  refine ⟨g, 0, rfl, fun j u hu => ?_⟩
  have hj : j = 0 := by have := (List.getElem?_eq_some_iff.1 hu).1; simp [flat, encS] at this; omega
  subst hj; simp [flat, encS] at hu; rw [← hu]; exact h
theorem step_str_d {w0 W : World} {v : Value} {g : Nat} (hown : Own W w0.heap.size 9 1 encS v l) (hb : Below w0.heap.size w0 W) (hr : StrAt W g y) (hl : l.length ≤ 16777216) (hw : Region.wanted o (yielded ops a.tmps) = true) (ho : o.op = .call { callee := .builtin .append, args := #[s, x], argTypes := #[37, 37] })
    (hs : a.eval s = v) (hx : a.eval x = .slice (some ⟨g, 0, none⟩) 1 1)
    (h : ∀ v' w', Own w' w0.heap.size 9 1 encS v' (l ++ [y]) → Below w0.heap.size w0 w' → K (a.put o.dst v') w') : if Region.wanted o (yielded ops a.tmps) = true then Oper.wp Tryz.prog o a W K Q else E' :=
  step_strN (l := l) (m := [y]) hw ho hown hb (by simp; omega) hr.sl (by intro h; cases h) hs hx fun v' w' h1 h2 _ => h v' w' h1 h2
end
section
variable {ops : Array Oper} {o : Oper} {a : Act} {K : Act → World → Prop} {Q : Exit → Act → World → Prop} {E' : Prop} {l : List ByteArray} {s x : Operand}
end
section
variable {ops : Array Oper} {o : Oper} {a : Act} {K : Act → World → Prop} {Q : Exit → Act → World → Prop} {E' : Prop} {l : List ByteArray} {s x : Operand}
end
theorem str_add {x y : ByteArray} (hx : x.size ≤ 1073741824) (hy : y.size ≤ 1073741824) : Op.stringOp .add x y = pure (.string (x ++ y)) := by
  have h : ¬ (((x.size + y.size : Nat) : Int) > IntKind.i64.max) := by
    have e : IntKind.i64.max = 9223372036854775807 := by decide
    rw [e]; omega
  unfold Op.stringOp
  simp only [h, if_false]
end Go.Proofs.YtkglfmgmmnfmbaaGreatDoor

/- Archives by value: sizes, copies, comparisons, marks, walked. -/
set_option linter.unusedVariables false
namespace Go.Proofs.YtkglfmgmmnfmbaaGreatDoor
open Go.RowKit
/-- Two rows in different blocks. -/
def ApartV (u v : Value) : Prop := ∀ g, u.ownBlock = some g → v.ownBlock ≠ some g
theorem ApartV.symm {u v : Value} (h : ApartV u v) : ApartV v u := fun g h1 h2 => h g h2 h1
theorem ApartV.nil (u : Value) : ApartV u (.slice none 0 0) := fun g _ h => by cases h
theorem World.alloc_size_ (w : World) (o : Obj) : (w.alloc o).heap.size = w.heap.size + 1 := by simp
theorem Row3.grew {w w' : World} {b : Nat} {v v0 v1 v2 : Value} (h : Row3 w b v0 v1 v2) (hg : Grew v w w') (hne : v.ownBlock ≠ some b) : Row3 w' b v0 v1 v2 := by
  obtain ⟨⟨h0, h1, h2⟩, hf, hlt⟩ := h
  have hblk : w'.heap[b]? = w.heap[b]? := hg.block b hlt (fun e => hne e.symm)
  have hc : ∀ o, w'.cell? ⟨b, o, none⟩ = w.cell? ⟨b, o, none⟩ := fun o => by unfold World.cell?; simp only [hblk]
  refine ⟨⟨(hc _).trans h0, (hc _).trans h1, (hc _).trans h2⟩, fun o => (World.frozen?_of_block (w := w) hblk).trans (hf o), Nat.lt_of_lt_of_le hlt hg.size⟩
theorem Own.slm {w : World} {base : Nat} {A : Option Addr} {n c : Nat} {E : TypeId} {α : Type} {enc : α → List Value} {size : Nat} {l : List α} (h : Own w base E size enc (.slice A n c) l) : Sl w enc size A l := by
  obtain ⟨A', c', e, _, hs, _⟩ := h.sl
  injection e with e1 _ _
  rw [e1]; exact hs
def FitsAr (l : List Pc) (m : List Vr) : Prop := l.length ≤ 1048576 ∧ m.length ≤ 1048576 ∧ (∀ p ∈ l, p.2.size ≤ 1048576) ∧ FitsVersion m
def SizedAr (l : List Pc) (m : List Vr) (w : World) (e : Ending) (w' : World) : Prop :=
  ∃ r : Int, e = .returned (.int .i64 r) ∧ r ≤ 1048576 ∧ (0 ≤ r → FitsAr l m) ∧ Below w.heap.size w w'
set_option maxHeartbeats 2000000 in
set_option maxRecDepth 100000 in
theorem szArchive_any (A B : Option Addr) (c d : Nat) (l : List Pc) (m : List Vr) (x : Int) (w : World) (hs : Sl w encP 2 A l) (hl : l.length ≤ maxLen) (hm : ∀ p ∈ l, p.2.size ≤ maxLen) (ht : Sl w encV 3 B m) (hl2 : m.length ≤ maxLen) (hm2 : ∀ p ∈ m, p.2.2.size ≤ maxLen) :
    Calls Tryz.prog 9 #[.agg #[.slice A l.length c, .int .i64 x, .slice B m.length d], .int .i64 1048576] w (SizedAr l m w) := by
  have HS := Lib.hid hs
  have HT := Lib.hid ht
  have HL := Lib.hid hl
  have HM := Lib.hid hm
  have HL2 := Lib.hid hl2
  have HM2 := Lib.hid hm2
  clear hs ht hl hm hl2 hm2
  go_enter Tryz.func9, Tryz.ntmps9
  go_wp2_with fail
  refine (szPieceS_any _ _ l 1048576 _ (HS.out.alloc _) HL.out HM.out (by omega) (by omega)).mono ?_
  rintro e w1 ⟨r0, rfl, hr0, hg0, hb⟩
  have x2 := box_cell hb 2 rfl
  have HB1 := Lib.hid (Below_of_alloc hb)
  have HG := Lib.hid hg0
  clear hb hg0
  by_cases hn0 : r0 < 0
  case pos =>
    go_wp2
    go_ret
    exact ⟨-1, rfl, by omega, fun h => absurd h (by omega), HB1.out⟩
  case neg =>
    have h0 : 0 ≤ r0 := by omega
    go_wp2_with fail
    refine (szVersionS_any _ _ m r0 _ (HT.out.below HB1.out) HL2.out HM2.out h0 (by omega)).mono ?_
    rintro e w2 ⟨r1, rfl, hr1, hg1, hb⟩
    have HB2 := Lib.hid (Below_then HB1.out hb (Nat.le_refl _))
    have HG1 := Lib.hid hg1
    clear hb hg1 x2
    by_cases hn1 : r1 < 0
    case pos =>
      go_wp2
      go_ret
      exact ⟨-1, rfl, by omega, fun h => absurd h (by omega), HB2.out⟩
    case neg =>
      go_wp2
      go_ret
      exact ⟨r1, rfl, by omega, fun _ => ⟨(HG.out h0).1, (HG1.out (by omega)).1, (HG.out h0).2, (HG1.out (by omega)).2⟩, HB2.out⟩
def ToAr (l : List Pc) (x : Int) (m : List Vr) (w : World) (e : Ending) (w' : World) : Prop :=
  ∃ p q, e = .returned (.agg #[p, .int .i64 x, q]) ∧ Own w' w.heap.size 107 2 encP p l ∧ Own w' w.heap.size 63 3 encV q m ∧ ApartV p q ∧ Below w.heap.size w w'
theorem ToAr.mk {l : List Pc} {x : Int} {m : List Vr} {w w' : World} {A B : Option Addr} {c d : Nat} (h1 : Own w' w.heap.size 107 2 encP (.slice A l.length c) l) (h2 : Own w' w.heap.size 63 3 encV (.slice B m.length d) m) (h3 : ApartV (.slice A l.length c) (.slice B m.length d)) (h4 : Below w.heap.size w w') :
    ToAr l x m w (.returned (.agg #[.slice A l.length c, .int .i64 x, .slice B m.length d])) w' := ⟨_, _, rfl, h1, h2, h3, h4⟩
set_option maxHeartbeats 2000000 in
set_option maxRecDepth 100000 in
theorem toArchive_any (A B : Option Addr) (c d : Nat) (l : List Pc) (m : List Vr) (x : Int) (w : World) (hs : Sl w encP 2 A l) (hl : l.length ≤ 16777216) (ht : Sl w encV 3 B m) (hl2 : m.length ≤ 16777216) :
    Calls Tryz.prog 11 #[.agg #[.slice A l.length c, .int .i64 x, .slice B m.length d]] w (ToAr l x m w) := by
  have HS := Lib.hid hs
  have HT := Lib.hid ht
  clear hs ht
  go_enter Tryz.func11, Tryz.ntmps11
  go_wp2_with fail
  refine (toPieceS_any _ _ _ _ (((HS.out.alloc _).alloc _).alloc _) hl).mono ?_
  rintro e w1 ⟨p, rfl, hown, hb⟩
  have hx := Row3.new.below (w' := w1) (Below_of_alloc (Below_of_alloc hb))
  have hy := Row3.new.below (w' := w1) (Below_of_alloc hb)
  have hz := Row3.new.below hb
  simp only [World.alloc_size_] at hx hy hz
  have HB1 := Lib.hid (Below_of_alloc (Below_of_alloc (Below_of_alloc hb)))
  have HO1 := Lib.hid hown
  have HU1 := Lib.hid hown.up
  obtain ⟨X, d2, rfl, _, _, _⟩ := hown.sl
  have HZ := Lib.hid ((hz.set0 (.slice X l.length d2)).set1 (.int .i64 x))
  have HY := Lib.hid ((hy.other (p := ⟨w.heap.size + 1 + 1, 0, none⟩) (by simp) (.slice X l.length d2)).other (p := ⟨w.heap.size + 1 + 1, 1, none⟩) (by simp) (.int .i64 x))
  obtain ⟨⟨x0, x1, x2⟩, fx, lx⟩ := hx
  obtain ⟨⟨z0, z1, z2⟩, fz, lz⟩ := hz
  clear hb hown hy
  go_wp2_with fail
  refine (toVersionS_any _ _ _ _ (HT.out.below ((HB1.out.setCell (p := ⟨w.heap.size + 1 + 1, 0, none⟩) (by simp; omega) _).setCell (p := ⟨w.heap.size + 1 + 1, 1, none⟩) (by simp; omega) _)) hl2).mono ?_
  rintro e w2 ⟨q, rfl, hown, hb⟩
  have HB2 := Lib.hid (Below_then ((HB1.out.setCell (p := ⟨w.heap.size + 1 + 1, 0, none⟩) (by simp; omega) _).setCell (p := ⟨w.heap.size + 1 + 1, 1, none⟩) (by simp; omega) _) hb (Nat.le_refl _))
  have HP2 := Lib.hid (((HO1.out.setBelow (p := ⟨w.heap.size + 1 + 1, 0, none⟩) (by simp) (.slice X l.length d2)).setBelow (p := ⟨w.heap.size + 1 + 1, 1, none⟩) (by simp) (.int .i64 x)).below hb)
  have hlo := hown.lo
  rw [setCell_size, setCell_size] at hown hlo
  have HO2 := Lib.hid hown
  have HAP := Lib.hid (apart_of HU1.out hlo (Nat.le_refl _))
  obtain ⟨Y, d3, rfl, _, _, _⟩ := hown.sl
  obtain ⟨⟨y0, y1, y2⟩, fy, ly⟩ := HY.out.below hb
  obtain ⟨⟨u0, u1, u2⟩, fu, lu⟩ := HZ.out.below hb
  clear hb hown hlo x0 x1 x2 fx z0 z1 z2 fz
  go_wp2_with fail
  exact bodyPost_ret (v := .agg #[.slice X l.length d2, .int .i64 x, .slice Y m.length d3]) (by simp [results, Tryz.results11, go_sem, y0, y1, y2]) rfl
    (ToAr.mk
      (((((HP2.out.setBelow (p := ⟨w.heap.size + 1 + 1, 2, none⟩) (by simp) _).setBelow (p := ⟨w.heap.size + 1, 0, none⟩) (by simp) _).setBelow (p := ⟨w.heap.size + 1, 1, none⟩) (by simp) _).setBelow (p := ⟨w.heap.size + 1, 2, none⟩) (by simp) _).mono (by simp; omega))
      (((((HO2.out.setBelow (p := ⟨w.heap.size + 1 + 1, 2, none⟩) lz _).setBelow (p := ⟨w.heap.size + 1, 0, none⟩) (Nat.lt_of_succ_lt lz) _).setBelow (p := ⟨w.heap.size + 1, 1, none⟩) (Nat.lt_of_succ_lt lz) _).setBelow (p := ⟨w.heap.size + 1, 2, none⟩) (Nat.lt_of_succ_lt lz) _).mono (by omega))
      HAP.out
      ((((HB2.out.setCell (by simp; omega) _).setCell (by simp) _).setCell (by simp) _).setCell (by simp) _))
set_option maxHeartbeats 2000000 in
set_option maxRecDepth 100000 in
theorem eqArchive_same (A B A' B' : Option Addr) (c d c' d' : Nat) (l : List Pc) (m : List Vr) (x : Int) (w : World) (h1 : Sl w encP 2 A l) (h2 : Sl w encP 2 A' l) (hl : l.length ≤ 16777216) (h3 : Sl w encV 3 B m) (h4 : Sl w encV 3 B' m) (hl2 : m.length ≤ 16777216) :
    Calls Tryz.prog 13 #[.agg #[.slice A l.length c, .int .i64 x, .slice B m.length d], .agg #[.slice A' l.length c', .int .i64 x, .slice B' m.length d']] w fun e w' => e = .returned (.bool true) ∧ Below w.heap.size w w' := by
  have H1 := Lib.hid h1
  have H2 := Lib.hid h2
  have H3 := Lib.hid h3
  have H4 := Lib.hid h4
  clear h1 h2 h3 h4
  go_enter Tryz.func13, Tryz.ntmps13
  go_wp2_with fail
  refine (eqPieceS_same _ _ _ _ l _ ((H1.out.alloc _).alloc _) ((H2.out.alloc _).alloc _) hl).mono ?_
  rintro e w1 ⟨rfl, hb⟩
  have HB1 := Lib.hid (Below_of_alloc (Below_of_alloc hb))
  have hx := Row3.new.below (w' := w1) (Below_of_alloc hb)
  have hy := Row3.new.below hb
  obtain ⟨⟨x0, x1, x2⟩, _, _⟩ := hx
  obtain ⟨⟨y0, y1, y2⟩, _, _⟩ := hy
  rw [World.alloc_size_] at y0 y1 y2
  clear hb
  go_wp2_with fail
  refine (eqVersionS_same _ _ _ _ m _ (H3.out.below HB1.out) (H4.out.below HB1.out) hl2).mono ?_
  rintro e w2 ⟨rfl, hb⟩
  have HB2 := Lib.hid (Below_then HB1.out hb (Nat.le_refl _))
  clear hb
  go_wp2
  go_ret
  exact ⟨rfl, HB2.out⟩
def MarkAr (base : Nat) (p q : Value) (n m k : Nat) (w : World) (e : Ending) (w' : World) : Prop :=
  e = .returned (.int .i64 ((k + 2 * n + 3 * m : Nat) : Int)) ∧ Own w' base 107 2 encP p (markPieceL k n) ∧ Own w' base 63 3 encV q (markVersionL (k + 2 * n) m) ∧ ∃ w1, Grew p w w1 ∧ Grew q w1 w'
set_option maxHeartbeats 2000000 in
set_option maxRecDepth 100000 in
theorem markArchive_any (base : Nat) (A B : Option Addr) (c d : Nat) (l : List Pc) (m : List Vr) (x : Int) (k : Nat) (w : World) (h1 : Own w base 107 2 encP (.slice A l.length c) l) (h2 : Own w base 63 3 encV (.slice B m.length d) m) (hap : ApartV (.slice A l.length c) (.slice B m.length d)) (hl : l.length ≤ 16777216) (hl2 : m.length ≤ 16777216) (hk : k ≤ 10000000) :
    Calls Tryz.prog 14 #[.agg #[.slice A l.length c, .int .i64 x, .slice B m.length d], .int .i64 (k : Int)] w (MarkAr base (.slice A l.length c) (.slice B m.length d) l.length m.length k w) := by
  have H1 := Lib.hid h1
  have H2 := Lib.hid h2
  have HA := Lib.hid hap
  clear h1 h2 hap
  unfold MarkAr
  generalize hK : k + 2 * l.length = K at *
  have hKb : K ≤ 100000000 := by omega
  have HK := Lib.hid hK
  clear hK
  generalize hK2 : K + 3 * m.length = K2 at *
  have hK2b : K2 ≤ 1000000000 := by omega
  have HK2 := Lib.hid hK2
  clear hK2
  go_enter Tryz.func14, Tryz.ntmps14
  go_wp2_with fail
  refine (markPieceS_any base _ l k _ (H1.out.alloc _) hl (by omega)).mono ?_
  rintro e w1 ⟨rfl, hown, hgr⟩
  obtain ⟨⟨x0, x1, x2⟩, _, _⟩ := Row3.new.grew hgr (H1.out.ne)
  have HP1 := Lib.hid hown
  have HG1 := Lib.hid ((Grew.below (v := .slice A l.length c) ((Below.refl w.heap.size w).alloc (Nat.le_refl _) _)).trans hgr)
  have HQ1 := Lib.hid ((H2.out.alloc _).grew hgr HA.out.symm)
  rw [HK.out]
  clear hown hgr
  go_wp2_with fail
  refine (markVersionS_any base _ m K _ HQ1.out hl2 hKb).mono ?_
  rintro e w2 ⟨rfl, hown, hgr⟩
  have HQ2 := Lib.hid hown
  have HG2 := Lib.hid hgr
  have HP2 := Lib.hid (HP1.out.grew hgr HA.out)
  rw [HK2.out]
  clear hown hgr
  go_wp2
  go_ret
  exact ⟨rfl, HP2.out, HQ2.out, w1, HG1.out, HG2.out⟩
set_option maxHeartbeats 2000000 in
set_option maxRecDepth 100000 in
theorem heldArchive_any (A B : Option Addr) (c d : Nat) (n m : Nat) (x : Int) (k : Nat) (w : World) (h1 : Sl w encP 2 A (markPieceL k n)) (h2 : Sl w encV 3 B (markVersionL (k + 2 * n) m)) (hl : n ≤ 16777216) (hl2 : m ≤ 16777216) (hk : k ≤ 10000000) :
    Calls Tryz.prog 15 #[.agg #[.slice A n c, .int .i64 x, .slice B m d], .int .i64 (k : Int)] w fun e w' => e = .returned (.int .i64 ((k + 2 * n + 3 * m : Nat) : Int)) ∧ Below w.heap.size w w' := by
  generalize hK : k + 2 * n = K at *
  have hKb : K ≤ 100000000 := by omega
  have hK0 : ¬ (K : Int) < 0 := by omega
  have HK := Lib.hid hK
  clear hK
  generalize hK2 : K + 3 * m = K2 at *
  have hK2b : K2 ≤ 1000000000 := by omega
  have hK20 : ¬ (K2 : Int) < 0 := by omega
  have HK2 := Lib.hid hK2
  clear hK2
  have H1 := Lib.hid h1
  have H2 := Lib.hid h2
  clear h1 h2
  go_enter Tryz.func15, Tryz.ntmps15
  go_wp2_with fail
  refine (heldPieceS_any _ _ k n _ (H1.out.alloc _) hl (by omega)).mono ?_
  rintro e w1 ⟨rfl, hb⟩
  obtain ⟨⟨x0, x1, x2⟩, _, _⟩ := Row3.new.below hb
  have HB1 := Lib.hid (Below_of_alloc hb)
  rw [HK.out]
  clear hb
  go_wp2_with fail
  refine (heldVersionS_any _ _ K m _ (H2.out.below HB1.out) hl2 hKb).mono ?_
  rintro e w2 ⟨rfl, hb⟩
  have HB2 := Lib.hid (Below_then HB1.out hb (Nat.le_refl _))
  rw [HK2.out]
  clear hb
  go_wp2
  go_ret
  exact ⟨rfl, HB2.out⟩
end Go.Proofs.YtkglfmgmmnfmbaaGreatDoor

/- Appends of entries in regions that draw their order. -/
set_option linter.unusedVariables false
namespace Go.Proofs.YtkglfmgmmnfmbaaGreatDoor
open Go.RowKit
section
variable {ops : Array Oper} {o : Oper} {a : Act} {K : Act → World → Prop} {Q : Exit → Act → World → Prop} {E' : Prop} {w0 wr : World} {v : Value}
set_option maxRecDepth 100000 in
theorem step_enK {l m : List En} {A : Option Addr} {c n : Nat} {s x : Operand} (hw : Region.wanted o (yielded ops a.tmps) = true) (ho : o.op = .call { callee := .builtin .append, args := #[s, x], argTypes := #[87, 87] })
    (hown : Own wr w0.heap.size 131 2 encE v l) (hb : Below w0.heap.size w0 wr) (hn : l.length + m.length ≤ 33554432) (hsl : Sl wr encE 2 A m) (hcz : A = none → c = 0)
    (hs : a.eval s = v) (hmn : m.length = n) (hx : a.eval x = .slice A n c)
    (h : ∀ v' w', Own w' w0.heap.size 131 2 encE v' (l ++ m) → Below w0.heap.size w0 w' → Grew v wr w' → Kin v wr v' → K (a.put o.dst v') w') : if Region.wanted o (yielded ops a.tmps) = true then Oper.wp Tryz.prog o a wr K Q else E' := by
  subst hmn
  obtain ⟨i0, hi0, hz0, hz1, hz2⟩ := info_parts en_info
  rw [if_pos hw]
  cases A with
  | none =>
    have hm : m = [] := by
      cases m with
      | nil => rfl
      | cons y r => obtain ⟨b, o, e, _⟩ := hsl (by simp); cases e
    subst hm
    rw [hcz rfl] at hx
    have hrun := run_append_owned_none (P := Tryz.prog) (w := wr) w0.heap.size 87 o.type 131 i0 2 Tryz.underlying87 hi0 v l.length (flat encE l) hown
    have hK := h v wr (by rw [List.append_nil]; exact hown) hb (Grew.refl _ _) (fun b _ h => h)
    simp at hx
    unfold Oper.wp
    simp [execOp, ho, resolve, invoke, builtin, hs, hx, hrun, Result.andThen]
    exact hK
  | some ad =>
    obtain ⟨v', w', hr, h2, h3, h4, h5⟩ := run_append_own_at (P := Tryz.prog) wr w0.heap.size 87 o.type 131 i0 _ 2 24 Tryz.underlying87 hi0 hz0 hz1 hz2 rfl (by decide) v l.length (flat encE l) hown ad m.length c (flat encE m) (flat_length (enc := encE) (size := 2) (fun _ => rfl) m) (by
        intro j u hu
        have hpos : 0 < m.length := by
          have hlt := (List.getElem?_eq_some_iff.1 hu).1
          rw [flat_length (enc := encE) (size := 2) (fun _ => rfl)] at hlt
          cases m with
          | nil => simp at hlt
          | cons y r => simp
        obtain ⟨b, o', e, hc⟩ := hsl hpos
        injection e with e
        subst e
        have hadd : (⟨b, o', none⟩ : Addr).add j = ⟨b, o' + j, none⟩ := by unfold Addr.add; split <;> simp_all
        rw [hadd]; exact hc j u hu) (by
        intro u hu
        unfold flat at hu
        obtain ⟨y, _, hy⟩ := List.mem_flatMap.1 hu
        exact oneE y u hy) (by unfold maxLen; omega) (by omega) hb.size
    unfold Oper.wp execOp
    simp only [ho, resolve, invoke, builtin, Sem.run_bind, Sem.run_pure, Result.andThen_ok, List.map_toArray, List.map_cons, List.map_nil, hs, hx, hr]
    refine h v' w' ?_ (hb.grown h3 hb.size (fun k hk => (World.ownsRow.lt hown k hk).1)) h3 ?_
    · show w'.ownsRow _ _ _ v' (l ++ m).length (flat encE (l ++ m))
      rw [flat_append, List.length_append]; exact h2
    · intro b hb2 hne hv'
      rcases h5 with h5 | h5
      · exact hne (h5 ▸ hv')
      · rw [h5] at hv'; injection hv' with e; omega
end
abbrev rowEn (y : En) : Obj := .cells #[.string y.1, .int .i64 y.2] 131
abbrev madeEn : Obj := .cells #[] 131
theorem slEn_new (w : World) (y : En) : Sl (w.alloc (rowEn y)) encE 2 (some ⟨w.heap.size, 0, none⟩) [y] := by
  intro _
  refine ⟨w.heap.size, 0, rfl, fun j u hu => ?_⟩
  rw [cell_of_row _ _ _ _ 131 (0, 0) (heap_alloc_new w _)]
  rw [Nat.zero_add]
  simpa [flat, encE] using hu
theorem Sl.takeE {w : World} {A : Option Addr} {l : List En} {n : Nat} (h : Sl w encE 2 A l) : Sl w encE 2 A (l.take n) := by
  intro hn
  have hlt : 0 < l.length := by rw [List.length_take] at hn; omega
  obtain ⟨b, o, e, hc⟩ := h hlt
  refine ⟨b, o, e, fun j u hu => hc j u ?_⟩
  have e2 : flat encE l = flat encE (l.take n) ++ flat encE (l.drop n) := by rw [← flat_append, List.take_append_drop]
  rw [e2, List.getElem?_append_left (List.getElem?_eq_some_iff.1 hu).1]; exact hu
theorem Sl.dropE {w : World} {b o : Nat} {l : List En} {n : Nat} (h : Sl w encE 2 (some ⟨b, o, none⟩) l) (hn : n ≤ l.length) : Sl w encE 2 (some ⟨b, o + n * 2, none⟩) (l.drop n) := by
  intro hd
  have hlt : 0 < l.length := by rw [List.length_drop] at hd; omega
  obtain ⟨b2, o2, e, hc⟩ := h hlt
  injection e with e; injection e with e1 e2
  subst e1 e2
  refine ⟨b, o + n * 2, rfl, fun j u hu => ?_⟩
  have e2 : flat encE l = flat encE (l.take n) ++ flat encE (l.drop n) := by rw [← flat_append, List.take_append_drop]
  have hlen : (flat encE (l.take n)).length = n * 2 := by rw [flat_length (enc := encE) (size := 2) (fun _ => rfl), List.length_take]; congr 1; omega
  have := hc (n * 2 + j) u (by rw [e2, List.getElem?_append_right (by omega), hlen]; simpa using hu)
  rwa [← Nat.add_assoc] at this
def BoxE (w : World) (g : Nat) (y : En) : Prop := w.cell? ⟨g, 0, none⟩ = some (.string y.1) ∧ w.cell? ⟨g, 1, none⟩ = some (.int .i64 y.2)
theorem BoxE.new (w : World) (y : En) : BoxE (w.alloc (rowEn y)) w.heap.size y := ⟨new_cell rfl, new_cell rfl⟩
theorem BoxE.below {w w' : World} {g : Nat} {y : En} (h : BoxE w g y) (hb : Below w.heap.size w w') : BoxE w' g y := ⟨Below_cells hb _ _ _ h.1, Below_cells hb _ _ _ h.2⟩
theorem fitE_valid {l : List En} (h : entsV l = true) : FitE l := fun e he => by
  have := (entOk_iff.1 (entsV_ok h he)).1
  unfold wordV at this
  rw [Bool.and_eq_true, Bool.and_eq_true, decide_eq_true_eq] at this
  have h2 : (tx e.1).length = e.1.size := by simp
  omega
theorem fitE_ins {l : List En} (h : entsV l = true) {e : En} (he : e.1.size ≤ 16777216) : FitE (insE l e) := fun x hx => by
  rcases (mem_insE (entsV_sorted h) e x).1 hx with rfl | ⟨hx, _⟩
  · exact he
  · exact fitE_valid h x hx
end Go.Proofs.YtkglfmgmmnfmbaaGreatDoor

/- Arguments that came in: slices of structs. -/
set_option linter.unusedVariables false
namespace Go.Proofs.YtkglfmgmmnfmbaaGreatDoor
open Go.ChangeShapes Go.WideShapes Go.ChangeAt Go.RowKit
open Go.ChangeMaps (open_string shut_string)

theorem list_of {α : Type} {P : Nat → α → Prop} : ∀ n : Nat, (∀ i, i < n → ∃ x, P i x) → ∃ l : List α, l.length = n ∧ ∀ i x, l[i]? = some x → P i x
  | 0, _ => ⟨[], rfl, fun i x h => by simp at h⟩
  | n + 1, h => by
    obtain ⟨l, hl, hp⟩ := list_of n (fun i hi => h i (by omega))
    obtain ⟨y, hy⟩ := h n (by omega)
    refine ⟨l ++ [y], by simp [hl], fun i x hx => ?_⟩
    rw [List.getElem?_append] at hx
    split at hx
    · exact hp i x hx
    · rename_i hi
      have hlt := (List.getElem?_eq_some_iff.1 hx).1
      simp at hlt
      have e : i = n := by omega
      subst e
      rw [hl, Nat.sub_self] at hx
      simp at hx; subst hx; exact hy
section
variable {H : Type} {enc : TypeId × Value → H} {W : World} {a : Option Addr} {n c : Nat} {d : DataW H} {p : List MemPlace}
/-- Each element of a slice that came in, read by 'read'. -/
theorem rows_open {α : Type} {t e : TypeId} {fs : Array Field} (ht : Tryz.prog.underlying t = some (.slice e)) (he : Tryz.prog.underlying e = some (.struct fs)) (encA : α → List Value) (size : Nat) (good : α → Prop)
    (hC : Tryz.prog.cellsOf e = size) (hsz : 0 < size) (hlen : ∀ x, (encA x).length = size)
    (read : ∀ (cs : List Value) (q : Nat) (xs : List (DataW H × List MemPlace)), cs.length = size → xs.length = fs.size → (∀ (i : Nat) (f : Field), fs[i]? = some f → DataW.trod enc Tryz.prog W 0 (fun _ => true) true q f.type ((cs.drop f.offset).take (Tryz.prog.cellsOf f.type)) = xs[i]?) → ∃ x, good x ∧ cs = encA x)
    (h : DataW.Trod enc Tryz.prog W 0 (fun _ => true) true t (.slice a n c) d p) :
    ∃ l : List α, l.length = n ∧ n ≤ c ∧ c ≤ maxLen ∧ Sl W encA size a l ∧ ∀ x ∈ l, good x := by
  obtain ⟨fuel, hf⟩ := h
  rcases Go.Deep.open_slice ht hf with ⟨hcs, _⟩ | ⟨ad, len, cap, m, q, D, Pl, hcs, _, hl, hm, hmm, _, hel⟩
  · simp [Value.cells] at hcs
    obtain ⟨rfl, rfl, rfl⟩ := hcs
    exact ⟨[], rfl, Nat.le_refl _, by unfold maxLen; omega, Sl.none_, by simp⟩
  · simp [Value.cells] at hcs
    obtain ⟨rfl, rfl, rfl⟩ := hcs
    simp at hmm
    obtain ⟨l, hll, hp⟩ := list_of (P := fun i x => good x ∧ ∀ j u, (encA x)[j]? = some u → W.cell? (ad.add (i * size + j)) = some u) n (fun i hi => by
      obtain ⟨cs', hc, ht'⟩ := hel i (by omega)
      rw [hC] at hc
      obtain ⟨_, hcl, hat⟩ := World.cells?_some hc
      obtain ⟨xs, n', _, _, _, hxl, hfl⟩ := DataW.trod_struct he ht'
      obtain ⟨x, hg, rfl⟩ := read cs' n' xs hcl hxl hfl
      refine ⟨x, hg, fun j u hu => ?_⟩
      have hj : j < size := by rw [← hlen x]; exact (List.getElem?_eq_some_iff.1 hu).1
      rw [← Go.Deep.add_add, hat j hj, hu])
    refine ⟨l, hll, hl, hm, sl_of_add hsz hlen fun j u hu => ?_, fun x hx => ?_⟩
    · have hj : j < l.length * size := by
        have := (List.getElem?_eq_some_iff.1 hu).1
        rwa [flat_length hlen] at this
      have hq : j / size < l.length := Nat.div_lt_of_lt_mul (by rwa [Nat.mul_comm] at hj)
      have hdm := Nat.div_add_mod j size
      have hms := Nat.mod_lt j hsz
      have hg := flat_get hlen l (j / size) hq (j % size) hms
      have e : j / size * size + j % size = j := by rw [Nat.mul_comm]; exact hdm
      rw [e] at hg
      rw [hg] at hu
      have := (hp (j / size) l[j / size] (List.getElem?_eq_getElem hq)).2 (j % size) u hu
      rwa [e] at this
    · obtain ⟨i, hi, rfl⟩ := List.getElem_of_mem hx
      exact (hp i _ (List.getElem?_eq_getElem hi)).1
set_option maxRecDepth 100000 in
theorem openPieces (h : DataW.Trod enc Tryz.prog W 0 (fun _ => true) true 22 (.slice a n c) d p) : PiecesIn W a n c := by
  refine rows_open Tryz.underlying22 Tryz.underlying93 encP 2 (fun p => p.2.size ≤ maxLen) (by kernel_rfl) (by omega) (fun _ => rfl) ?_ h
  intro cs q xs hcl hxl hf
  match cs, hcl with
  | [v0, v1], _ =>
    match xs, hxl with
    | [x0, x1], _ =>
      obtain ⟨x, e0, _, _⟩ := DataW.trod_int Tryz.underlying3 (hf 0 _ rfl)
      obtain ⟨t, e1, _, ht⟩ := DataW.trod_string Tryz.underlying9 (hf 1 _ rfl)
      have k0 : Tryz.prog.cellsOf 3 = 1 := by kernel_rfl
      have k1 : Tryz.prog.cellsOf 9 = 1 := by kernel_rfl
      simp [k0] at e0
      simp [k1] at e1
      subst e0 e1
      exact ⟨(x, t), ht, rfl⟩
set_option maxRecDepth 100000 in
theorem openVersions (h : DataW.Trod enc Tryz.prog W 0 (fun _ => true) true 23 (.slice a n c) d p) : VersionsIn W a n c := by
  refine rows_open Tryz.underlying23 Tryz.underlying95 encV 3 (fun p => p.2.2.size ≤ maxLen) (by kernel_rfl) (by omega) (fun _ => rfl) ?_ h
  intro cs q xs hcl hxl hf
  match cs, hcl with
  | [v0, v1, v2], _ =>
    match xs, hxl with
    | [x0, x1, x2], _ =>
      obtain ⟨x, e0, _, _⟩ := DataW.trod_int Tryz.underlying3 (hf 0 _ rfl)
      obtain ⟨y, e1, _, _⟩ := DataW.trod_int Tryz.underlying3 (hf 1 _ rfl)
      obtain ⟨t, e2, _, ht⟩ := DataW.trod_string Tryz.underlying9 (hf 2 _ rfl)
      have k0 : Tryz.prog.cellsOf 3 = 1 := by kernel_rfl
      have k1 : Tryz.prog.cellsOf 9 = 1 := by kernel_rfl
      simp [k0] at e0
      simp [k0] at e1
      simp [k1] at e2
      subst e0 e1 e2
      exact ⟨(x, y, t), ht, rfl⟩
end
end Go.Proofs.YtkglfmgmmnfmbaaGreatDoor
