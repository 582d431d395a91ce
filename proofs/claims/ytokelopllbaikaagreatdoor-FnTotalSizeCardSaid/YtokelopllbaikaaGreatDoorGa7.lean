/- Texts in one: En, Be, Av, Ss, Ar, Ek, Open3. -/
import Derived.Test.YtokelopllbaikaaGreatDoorGa6
import Derived.Test.YtokelopllbaikaaGreatDoorGa2
import Derived.Test.YtokelopllbaikaaGreatDoorGa5
import Derived.Shelf.Abstract
import Derived.Test.YtokelopllbaikaaGreatDoorGa9
import Derived.Test.YtokelopllbaikaaGreatDoorGa1
import Derived.Test.YtokelopllbaikaaGreatDoorGa8
import Derived.Deep.RegionHeld3
import Derived.Test.YtokelopllbaikaaGreatDoorGa3
import Derived.Test.YtokelopllbaikaaGreatDoorGa4
import Derived.Maps.AppendAt
import Derived.Deep.Slices
import Derived.DataReads
/- Entries: the type's facts, slices.Clone, append of one. -/
set_option linter.unusedVariables false
namespace Go.Proofs.YtokelopllbaikaaGreatDoor
open Go.RowKit
theorem en_info : (Tryz.prog.info? 70).map (fun i => (i.zero, i.size, i.bytes)) = some (some (.agg #[.string ⟨#[]⟩, .int .i64 0]), 2, 24) := by kernel_rfl
theorem oneE : ∀ y, ∀ u ∈ encE y, u.oneCell' = true := by intro y u hu; simp [encE] at hu; rcases hu with rfl | rfl <;> rfl
section
variable {ops : Array Oper} {rest : List Oper} {o : Oper} {a : Act} {Q : Exit → Act → World → Prop} {w0 wr : World} {v : Value}
theorem app_enN {l m : List En} {A : Option Addr} {c : Nat} {s x : Operand} (hgd : o.guard = none) (ho : o.op = .call { callee := .builtin .append, args := #[s, x], argTypes := #[62, 62] })
    (hown : Own wr w0.heap.size 70 2 encE v l) (hb : Below w0.heap.size w0 wr) (hn : l.length + m.length ≤ 33554432) (hsl : Sl wr encE 2 A m) (hcz : A = none → c = 0)
    (hs : a.eval s = v) (hx : a.eval x = .slice A m.length c)
    (h : ∀ v' w', Own w' w0.heap.size 70 2 encE v' (l ++ m) → Below w0.heap.size w0 w' → Grew v wr w' → wpList Tryz.prog ops Q rest (a.put o.dst v') w') : wpList Tryz.prog ops Q (o :: rest) a wr := by
  obtain ⟨i0, hi0, hz0, hz1, hz2⟩ := info_parts en_info
  exact wpList_appN Tryz.underlying62 hi0 hz0 hz1 hz2 rfl (by decide) (by decide) hgd s x ho hown hb (Nat.le_refl _) hb.size hn hsl hcz (fun _ => rfl) oneE hs hx h
theorem app_en {base : Nat} {l : List En} {y : En} {s x : Operand} (hgd : o.guard = none) (ho : o.op = .call { callee := .builtin .append, args := #[s, x], argTypes := #[62, 62] })
    (hs : a.eval s = v) (hx : a.eval x = .slice (some ⟨wr.heap.size, 0, none⟩) 1 1)
    (hown : Own wr base 70 2 encE v l) (hb : Below w0.heap.size w0 wr) (hB : w0.heap.size ≤ base) (hbase : base ≤ wr.heap.size) (hn : l.length ≤ 16777216)
    (h : ∀ v' w', Own w' base 70 2 encE v' (l ++ [y]) → Below w0.heap.size w0 w' → wpList Tryz.prog ops Q rest (a.put o.dst v') w') : wpList Tryz.prog ops Q (o :: rest) a (wr.alloc (.cells #[.string y.1, .int .i64 y.2] 70)) := by
  obtain ⟨i0, hi0, hz0, hz1, hz2⟩ := info_parts en_info
  exact wpList_app1 Tryz.underlying62 hi0 hz0 hz1 hz2 rfl (by decide) (by decide) hgd s x ho hs hx hown hb hB hbase hn y _ rfl rfl (oneE y) h
end
set_option maxHeartbeats 2000000 in
set_option maxRecDepth 100000 in
theorem CloneEn_any (A : Option Addr) (c : Nat) (l : List En) (w : World) (hs : Sl w encE 2 A l) (hcz : A = none → c = 0) (hl : l.length ≤ 16777216) :
    Calls Tryz.prog 77 #[.slice A l.length c] w (OwnRes 70 2 encE l w) := by
  have HS := Lib.hid hs
  have HC := Lib.hid hcz
  clear hs hcz
  have hnil := fun (W : World) (A : Option Addr) (n c : Nat) => Lib.run_eql_slice_nil (P := Tryz.prog) W 62 70 A n c 0 0 Tryz.underlying62
  cases A with
  | none =>
    have hm : l = [] := by
      cases l with
      | nil => rfl
      | cons y r => obtain ⟨b, o, e, _⟩ := HS.out (by simp); cases e
    subst hm
    go_enter Tryz.func77, Tryz.ntmps77
    go_wp2
    go_ret
    exact ⟨_, rfl, Own.nil, Below.refl _ _⟩
  | some ad =>
    go_enter Tryz.func77, Tryz.ntmps77
    go_wp2_with (at_builtin; refine app_enN rfl rfl (Own.made (Nat.le_refl _)) ((Below.refl _ _).alloc (Nat.le_refl _) _) (by simp; omega) (HS.out.alloc _) HC.out (by rfl) (by rfl) ?_; intro v1 w2 hown2 hb2 hg2; have HW2 := Lib.hid hown2; have HB2 := Lib.hid hb2; clear hown2 hb2 hg2)
    go_ret
    exact ⟨_, rfl, by have h := HW2.out; rwa [List.nil_append] at h, HB2.out⟩
end Go.Proofs.YtokelopllbaikaaGreatDoor

/- Where a name stands: cmp.Compare of texts, slices.BinarySearchFunc, findEntry, printNamed, walked. -/
set_option linter.unusedVariables false
namespace Go.Proofs.YtokelopllbaikaaGreatDoor
open Go.RowKit

def FitE (l : List En) : Prop := ∀ p ∈ l, p.1.size ≤ 16777216
def cmpS (a b : ByteArray) : Int := if lessB (tx a) (tx b) then -1 else if lessB (tx b) (tx a) then 1 else 0
theorem less_tl (a b : ByteArray) : Op.bytesLess a.toList b.toList = lessB (tx a) (tx b) := by rw [ByteArray.toList_eq, ByteArray.toList_eq]
theorem eq_tl (a b : ByteArray) : (a.toList == b.toList) = (tx a == tx b) := by rw [ByteArray.toList_eq, ByteArray.toList_eq]
set_option maxHeartbeats 2000000 in
set_option maxRecDepth 100000 in
theorem isNaNS_any (a : ByteArray) (w : World) : Calls Tryz.prog 119 #[.string a] w fun e w' => e = .returned (.bool false) ∧ w = w' := by
  go_enter Tryz.func119, Tryz.ntmps119
  go_wp2
  go_ret
  exact ⟨ret_bool (by simp), rfl⟩
set_option maxHeartbeats 2000000 in
set_option maxRecDepth 100000 in
theorem CompareS_any (a b : ByteArray) (w : World) : Calls Tryz.prog 98 #[.string a, .string b] w fun e w' => e = .returned (.int .i64 (cmpS a b)) ∧ w = w' := by
  cases h1 : lessB (tx a) (tx b)
  · cases h2 : lessB (tx b) (tx a)
    · have E : Hid (cmpS a b = 0) := by show _ = _; unfold cmpS; rw [h1, h2]; rfl
      have l1 : Op.bytesLess a.toList b.toList = false := by rw [less_tl]; exact h1
      have l2 : (a.toList == b.toList) = true := by rw [eq_tl]; exact beq_iff_eq.2 (lessB_tri h1 h2)
      clear h1 h2
      go_enter Tryz.func98, Tryz.ntmps98
      go_wp2_with (go_at_call 119; refine (isNaNS_any _ _).mono ?_; rintro e w' ⟨rfl, rfl⟩)
      go_ret
      exact ⟨ret_int E.out.symm, rfl⟩
    · have E : Hid (cmpS a b = 1) := by show _ = _; unfold cmpS; rw [h1, h2]; rfl
      have l1 : Op.bytesLess a.toList b.toList = false := by rw [less_tl]; exact h1
      have l2 : (a.toList == b.toList) = false := by rw [eq_tl, beq_eq_false_iff_ne]; intro e; rw [e, lessB_irrefl] at h2; cases h2
      clear h1 h2
      go_enter Tryz.func98, Tryz.ntmps98
      go_wp2_with (go_at_call 119; refine (isNaNS_any _ _).mono ?_; rintro e w' ⟨rfl, rfl⟩)
      go_ret
      exact ⟨ret_int E.out.symm, rfl⟩
  · have E : Hid (cmpS a b = -1) := by show _ = _; unfold cmpS; rw [h1]; rfl
    have l1 : Op.bytesLess a.toList b.toList = true := by rw [less_tl]; exact h1
    clear h1
    go_enter Tryz.func98, Tryz.ntmps98
    go_wp2_with (go_at_call 119; refine (isNaNS_any _ _).mono ?_; rintro e w' ⟨rfl, rfl⟩)
    go_ret
    exact ⟨ret_int E.out.symm, rfl⟩
set_option maxHeartbeats 2000000 in
set_option maxRecDepth 100000 in
theorem feCmp_any (a : Int) (x t : ByteArray) (w : World) : Calls Tryz.prog 97 #[.agg #[.string t, .int .i64 a], .string x] w fun e w' => e = .returned (.int .i64 (cmpS t x)) ∧ Below w.heap.size w w' := by
  have HB := Lib.hid ((Below.refl w.heap.size w).alloc (Nat.le_refl _) (.cells #[.string t, .int .i64 a] 70))
  generalize hc : cmpS t x = c at *
  have HC := Lib.hid (fun w => hc ▸ CompareS_any t x w)
  clear hc
  go_enter Tryz.func97, Tryz.ntmps97
  go_wp2_with (go_at_call 98; refine (HC.out _).mono ?_; rintro e w' ⟨rfl, rfl⟩)
  go_ret
  exact ⟨rfl, HB.out⟩
def FeRes (l : List En) (x : ByteArray) (w : World) (e : Ending) (w' : World) : Prop := e = .returned (.tuple #[.int .i64 (posE l (tx x) : Nat), .bool (hereE l (tx x))]) ∧ Below w.heap.size w w'
theorem ret_twoE {a b : Int} {c d : Bool} (h1 : a = b) (h2 : c = d) : Ending.returned (.tuple #[.int .i64 a, .bool c]) = .returned (.tuple #[.int .i64 b, .bool d]) := by rw [h1, h2]
set_option maxHeartbeats 4000000 in
set_option maxRecDepth 100000 in
theorem BSearchE_any (A : Option Addr) (c : Nat) (l : List En) (x : ByteArray) (w : World) (hs : Sl w encE 2 A l) (hl : l.length ≤ 16777216) (hso : SortE l) :
    Calls Tryz.prog 96 #[.slice A l.length c, .string x, .func (.func 97) #[] #[]] w (FeRes l x w) := by
  have HS := Lib.hid hs
  have HSO := Lib.hid hso
  clear hs hso
  go_enter Tryz.func96, Tryz.ntmps96
  go_wp2_with fail
  go_loopw [9, 10] (fun vi vj wr => ∃ lo hi : Nat, vi = .int .i64 lo ∧ vj = .int .i64 hi ∧ lo ≤ hi ∧ hi ≤ l.length ∧ Hid (∀ t (h : t < l.length), t < lo → lessB (tx l[t].1) (tx x) = true) ∧ Hid (∀ t (h : t < l.length), hi ≤ t → lessB (tx l[t].1) (tx x) = false) ∧ Hid (Below w.heap.size w wr)) (fun vi vj _ => (intOf vj).toNat - (intOf vi).toNat)
  case atStart => exact ⟨0, l.length, rfl, rfl, Nat.zero_le _, Nat.le_refl _, (fun t h h2 => by omega), (fun t h h2 => by omega), Below.refl _ _⟩
  case round =>
    obtain ⟨lo, hi, rfl, rfl, hle, hhi, H1, H2, HB⟩ := hrel
    by_cases hlt : lo < hi
    · obtain ⟨m, hm⟩ : ∃ m, m = (lo + hi) / 2 := ⟨_, rfl⟩
      have hm1 : lo ≤ m := by omega
      have hm2 : m < hi := by omega
      have hml : m < l.length := by omega
      have hmi : ((lo : Int) + (hi : Int)) / 2 = (m : Int) := by omega
      obtain ⟨b, o, rfl, hc0, hc1⟩ := (HS.out.below HB.out).getE hml
      have HP := Lib.hid (List.pairwise_iff_getElem.1 HSO.out)
      have HQ1 := Lib.hid (fun (hx : lessB (tx l[m].1) (tx x) = true) (t : Nat) (h : t < l.length) (ht : t < m + 1) => show lessB (tx l[t].1) (tx x) = true by
        by_cases e : t = m
        · subst e; exact hx
        · exact lessB_trans (HP.out t m h hml (by omega)) hx)
      have HQ2 := Lib.hid (fun (hx : lessB (tx l[m].1) (tx x) = false) (t : Nat) (h : t < l.length) (ht : m ≤ t) => show lessB (tx l[t].1) (tx x) = false by
        by_cases e : m = t
        · subst e; exact hx
        · have h1 := HP.out m t hml h (by omega)
          cases h2 : lessB (tx l[t].1) (tx x)
          · rfl
          · rw [lessB_trans h1 h2] at hx; cases hx)
      generalize l[m] = p at *
      obtain ⟨t, a⟩ := p
      simp only at *
      clear hm HP
      have hC := fun w => feCmp_any a x t w
      cases hax : lessB (tx t) (tx x)
      · have HN := Lib.hid (HQ2.out hax)
        have hcm : ¬ cmpS t x < 0 := by unfold cmpS; rw [hax]; simp only [Bool.false_eq_true, if_false]; split <;> omega
        generalize cmpS t x = cv at *
        have HC := Lib.hid hC
        clear hC HQ1 HQ2 hax
        go_wp2_with ((first | go_at_call 97 | go_at_fn 97); refine (HC.out _).mono ?_; rintro e w2 ⟨rfl, hb2⟩; have HB2 := Lib.hid (Below_then HB.out hb2 (Nat.le_refl _)); clear hb2)
        go_roundw
        case rel => exact ⟨lo, m, rfl, rfl, by omega, by omega, H1.out, HN.out, HB2.out⟩
        case measure => simp [intOf]; omega
      · have HN := Lib.hid (HQ1.out hax)
        have hcm : cmpS t x = -1 := by unfold cmpS; rw [hax]; rfl
        rw [hcm] at hC
        have HC := Lib.hid hC
        clear hC hcm HQ1 HQ2 hax
        go_wp2_with ((first | go_at_call 97 | go_at_fn 97); refine (HC.out _).mono ?_; rintro e w2 ⟨rfl, hb2⟩; have HB2 := Lib.hid (Below_then HB.out hb2 (Nat.le_refl _)); clear hb2)
        go_roundw
        case rel => exact ⟨m + 1, hi, by go_num, rfl, by omega, hhi, HN.out, H2.out, HB2.out⟩
        case measure => simp [intOf]; omega
    · obtain rfl : hi = lo := by omega
      have HE := Lib.hid (posE_of l (tx x) hi hhi H1.out (fun h => H2.out hi h (Nat.le_refl _)))
      by_cases hn : hi < l.length
      · obtain ⟨b, o, rfl, hc0, hc1⟩ := (HS.out.below HB.out).getE hn
        have hh : hereE l (tx x) = (tx l[hi].1 == tx x) := by unfold hereE; rw [HE.out, getD_en hn, decide_eq_true hn, Bool.true_and]
        have hnl := H2.out hi hn (Nat.le_refl _)
        generalize l[hi] = p at *
        obtain ⟨t, a⟩ := p
        simp only at *
        have hC := fun w => feCmp_any a x t w
        cases hgx : lessB (tx x) (tx t)
        · have HH := Lib.hid (show hereE l (tx x) = true by rw [hh]; exact beq_iff_eq.2 (lessB_tri hnl hgx))
          have hcm : cmpS t x = 0 := by unfold cmpS; rw [hnl, hgx]; rfl
          rw [hcm] at hC
          have HC := Lib.hid hC
          clear hC hcm hh hgx hnl
          go_wp2_with ((first | go_at_call 97 | go_at_fn 97); refine (HC.out _).mono ?_; rintro e w2 ⟨rfl, hb2⟩; have HB2 := Lib.hid (Below_then HB.out hb2 (Nat.le_refl _)); clear hb2)
          go_ret2
          exact ⟨ret_twoE (by rw [HE.out]) (by rw [HH.out]), HB2.out⟩
        · have HH := Lib.hid (show hereE l (tx x) = false by rw [hh, beq_eq_false_iff_ne]; intro e; rw [e, lessB_irrefl] at hgx; cases hgx)
          have hcm : cmpS t x = 1 := by unfold cmpS; rw [hnl, hgx]; rfl
          rw [hcm] at hC
          have HC := Lib.hid hC
          clear hC hcm hh hgx hnl
          go_wp2_with ((first | go_at_call 97 | go_at_fn 97); refine (HC.out _).mono ?_; rintro e w2 ⟨rfl, hb2⟩; have HB2 := Lib.hid (Below_then HB.out hb2 (Nat.le_refl _)); clear hb2)
          go_ret2
          exact ⟨ret_twoE (by rw [HE.out]) (by rw [HH.out]), HB2.out⟩
      · have HH := Lib.hid (show hereE l (tx x) = false by unfold hereE; rw [HE.out, decide_eq_false hn]; rfl)
        go_wp2
        go_ret2
        exact ⟨ret_twoE (by rw [HE.out]) (by rw [HH.out]), HB.out⟩
set_option maxHeartbeats 4000000 in
set_option maxRecDepth 100000 in
theorem findEntry_any (A : Option Addr) (c : Nat) (l : List En) (x : ByteArray) (w : World) (hs : Sl w encE 2 A l) (hl : l.length ≤ 16777216) (hso : SortE l) :
    Calls Tryz.prog 70 #[.slice A l.length c, .string x] w (FeRes l x w) := by
  have HX := Lib.hid (fun w h => BSearchE_any A c l x w h hl hso)
  have HS := Lib.hid hs
  clear hs hso
  unfold FeRes at *
  go_enter Tryz.func70, Tryz.ntmps70
  go_wp2_with fail
  refine (HX.out _ HS.out).mono ?_
  rintro e w1 ⟨rfl, hb⟩
  have HB := Lib.hid hb
  clear hb
  go_wp2
  go_ret2
  exact ⟨rfl, HB.out⟩
def PnRes (l : List En) (x : ByteArray) (w : World) (e : Ending) (w' : World) : Prop := e = .returned (.tuple #[.int .i64 ((getE l (tx x)).getD (-1)), .bool (getE l (tx x)).isSome]) ∧ Below w.heap.size w w'
set_option maxHeartbeats 4000000 in
set_option maxRecDepth 100000 in
theorem printNamed_any (A : Option Addr) (c : Nat) (l : List En) (x : ByteArray) (w : World) (hs : Sl w encE 2 A l) (hl : l.length ≤ 16777216) (hso : SortE l) :
    Calls Tryz.prog 41 #[.slice A l.length c, .string x] w (PnRes l x w) := by
  have hX := fun w h => findEntry_any A c l x w h hl hso
  have HS := Lib.hid hs
  have hg := getE_here hso (n := tx x)
  clear hs
  unfold FeRes at hX
  unfold PnRes
  rw [hg]
  cases hh : hereE l (tx x)
  · rw [hh] at hX
    have HX := Lib.hid hX
    clear hX hg hso hh
    go_enter Tryz.func41, Tryz.ntmps41
    go_wp2_with fail
    refine (HX.out _ HS.out).mono ?_
    rintro e w1 ⟨rfl, hb⟩
    have HB := Lib.hid hb
    clear hb
    go_wp2
    go_ret2
    exact ⟨rfl, HB.out⟩
  · have hlt : posE l (tx x) < l.length := (hereE_iff.1 hh).1
    rw [hh] at hX
    rw [getD_en hlt]
    have HX := Lib.hid hX
    have HG := Lib.hid (fun (w : World) (h : Sl w encE 2 A l) => h.getE hlt)
    generalize l[posE l (tx x)] = q at *
    obtain ⟨t, a⟩ := q
    simp only at *
    generalize posE l (tx x) = B at *
    obtain ⟨b, o, rfl, _, _⟩ := HG.out w HS.out
    clear hX hg hso hh
    go_enter Tryz.func41, Tryz.ntmps41
    go_wp2_with fail
    refine (HX.out _ HS.out).mono ?_
    rintro e w1 ⟨rfl, hb⟩
    have HB := Lib.hid hb
    obtain ⟨b', o', e', hc0, hc1⟩ := HG.out _ (HS.out.below hb)
    have hbb : b' = b ∧ o' = o := by injection e' with e'; injection e' with e1 e2; exact ⟨e1.symm, e2.symm⟩
    obtain ⟨rfl, rfl⟩ := hbb
    clear hb e'
    go_wp2
    go_ret2
    exact ⟨rfl, HB.out⟩
end Go.Proofs.YtokelopllbaikaaGreatDoor

/- Versions: append, a copy, one more. -/
set_option linter.unusedVariables false
namespace Go.Proofs.YtokelopllbaikaaGreatDoor
open Go.RowKit

theorem step_appN {P : Program} {α : Type} {enc : α → List Value} {ops : Array Oper} {o : Oper} {a : Act} {K : Act → World → Prop} {Q : Exit → Act → World → Prop} {E' : Prop} {w0 wr : World} {B base size bytes : Nat} {t E : TypeId} {i : TypeInfo} {z : Value} {v : Value} {l m : List α} {A : Option Addr} {c : Nat}
    (ht : P.underlying t = some (.slice E)) (hi : P.info? E = some i) (hz : i.zero = some z) (hsize : i.size = size) (hby : i.bytes = bytes) (hzs : z.cells.size = size) (hsz : 0 < size) (hb200 : bytes ≤ 256)
    (hgd : o.guard = none) (s x : Operand) (ho : o.op = .call { callee := .builtin .append, args := #[s, x], argTypes := #[t, t] })
    (hown : Own wr base E size enc v l) (hb : Below B w0 wr) (hB : B ≤ base) (hbase : base ≤ wr.heap.size) (hn : l.length + m.length ≤ 33554432)
    (hsl : Sl wr enc size A m) (hcz : A = none → c = 0) (hce : ∀ y, (enc y).length = size) (h1 : ∀ y, ∀ u ∈ enc y, u.oneCell' = true)
    (hs : a.eval s = v) (hx : a.eval x = .slice A m.length c)
    (h : ∀ v' w', Own w' base E size enc v' (l ++ m) → Below B w0 w' → Grew v wr w' → K (a.put o.dst v') w') :
    if Region.wanted o (yielded ops a.tmps) = true then Oper.wp P o a wr K Q else E' := by
  have hw : Region.wanted o (yielded ops a.tmps) = true := by simp [Region.wanted, hgd]
  rw [if_pos hw]
  cases A with
  | none =>
    have hm : m = [] := by
      cases m with
      | nil => rfl
      | cons y r => obtain ⟨b, o, e, _⟩ := hsl (by simp); cases e
    subst hm
    rw [hcz rfl] at hx
    have hrun := run_append_owned_none (P := P) (w := wr) base t o.type E i size ht hi v l.length (flat enc l) hown
    have hK := h v wr (by rw [List.append_nil]; exact hown) hb (Grew.refl _ _)
    simp at hx
    unfold Oper.wp
    simp [execOp, ho, resolve, invoke, builtin, hs, hx, hrun, Result.andThen]
    exact hK
  | some ad =>
    refine wp_append_own wr s x t ho base E i z size bytes ht hi hz hsize hby hzs hsz v l.length (flat enc l) hs hown ad m.length c (flat enc m) hx (flat_length hce m) ?_ ?_ ?_ ?_ hbase ?_
    · intro j u hu
      have hpos : 0 < m.length := by
        have hlt := (List.getElem?_eq_some_iff.1 hu).1
        rw [flat_length hce] at hlt
        cases m with
        | nil => simp at hlt
        | cons y r => simp
      obtain ⟨b, o', e, hc⟩ := hsl hpos
      injection e with e
      subst e
      have hadd : (⟨b, o', none⟩ : Addr).add j = ⟨b, o' + j, none⟩ := by unfold Addr.add; split <;> simp_all
      rw [hadd]; exact hc j u hu
    · intro u hu
      unfold flat at hu
      obtain ⟨y, _, hy⟩ := List.mem_flatMap.1 hu
      exact h1 y u hy
    · unfold maxLen; omega
    · have := Nat.mul_le_mul_left (l.length + m.length) hb200; omega
    · intro v' w' hown' hg _
      refine h v' w' ?_ (hb.grown hg (Nat.le_trans hB hbase) (fun k hk => Nat.le_trans hB (World.ownsRow.lt hown k hk).1)) hg
      show w'.ownsRow base E size v' (l ++ m).length (flat enc (l ++ m))
      rw [flat_append, List.length_append]; exact hown'
theorem Grew.cell {v u : Value} {w w' : World} (h : Grew v w w') {b o : Nat} (hv : v.ownBlock ≠ some b) (hc : w.cell? ⟨b, o, none⟩ = some u) : w'.cell? ⟨b, o, none⟩ = some u := by
  rw [World.cell?_of_block (w := w) (h.block b (World.block_lt_of_cell? w _ hc) (fun e => hv e.symm))]; exact hc
theorem cell_alloc {u : Value} {w : World} {x : Obj} {a : Addr} (hc : w.cell? a = some u) : (w.alloc x).cell? a = some u :=
  (World.cell?_alloc_lt w x a (World.block_lt_of_cell? w _ hc)).trans hc
section
variable {ops : Array Oper} {rest : List Oper} {o : Oper} {a : Act} {K : Act → World → Prop} {Q : Exit → Act → World → Prop} {E' : Prop} {w0 wr : World} {v : Value}
end
/-! ### 'append(append([]Version{}, l...), y)' in whatever order -/
def RowAt (w : World) (g : Nat) (y : Vr) : Prop := w.cell? ⟨g, 0, none⟩ = some (.int .i64 y.1) ∧ w.cell? ⟨g, 1, none⟩ = some (.int .i64 y.2.1) ∧ w.cell? ⟨g, 2, none⟩ = some (.string y.2.2)
theorem RowAt.alloc {w : World} {g : Nat} {y : Vr} (h : RowAt w g y) (x : Obj) : RowAt (w.alloc x) g y := ⟨cell_alloc h.1, cell_alloc h.2.1, cell_alloc h.2.2⟩
theorem RowAt.grew {w w' : World} {g : Nat} {y : Vr} {v : Value} (h : RowAt w g y) (hg : Grew v w w') (hv : v.ownBlock ≠ some g) : RowAt w' g y := ⟨hg.cell hv h.1, hg.cell hv h.2.1, hg.cell hv h.2.2⟩
section
variable {ops : Array Oper} {o : Oper} {a : Act} {K : Act → World → Prop} {Q : Exit → Act → World → Prop} {E' : Prop} {w1 : World} {l : List Vr} {A : Option Addr} {c : Nat} {y : Vr} {s x : Operand}
end
/-! ### slices.Clone -/
/-! ### one more version -/
end Go.Proofs.YtokelopllbaikaaGreatDoor

/- 'append' of strings in regions that draw their order. -/
set_option linter.unusedVariables false
namespace Go.Proofs.YtokelopllbaikaaGreatDoor
open Go.RowKit

theorem step_appW {P : Program} {α : Type} {enc : α → List Value} {ops : Array Oper} {o : Oper} {a : Act} {K : Act → World → Prop} {Q : Exit → Act → World → Prop} {E' : Prop} {w0 wr : World} {B base size bytes : Nat} {t E : TypeId} {i : TypeInfo} {z : Value} {v : Value} {l m : List α} {A : Option Addr} {c : Nat}
    (ht : P.underlying t = some (.slice E)) (hi : P.info? E = some i) (hz : i.zero = some z) (hsize : i.size = size) (hby : i.bytes = bytes) (hzs : z.cells.size = size) (hsz : 0 < size) (hb200 : bytes ≤ 256)
    (hw : Region.wanted o (yielded ops a.tmps) = true) (s x : Operand) (ho : o.op = .call { callee := .builtin .append, args := #[s, x], argTypes := #[t, t] })
    (hown : Own wr base E size enc v l) (hb : Below B w0 wr) (hB : B ≤ base) (hbase : base ≤ wr.heap.size) (hn : l.length + m.length ≤ 33554432)
    (hsl : Sl wr enc size A m) (hcz : A = none → c = 0) (hce : ∀ y, (enc y).length = size) (h1 : ∀ y, ∀ u ∈ enc y, u.oneCell' = true)
    (hs : a.eval s = v) (hx : a.eval x = .slice A m.length c)
    (h : ∀ v' w', Own w' base E size enc v' (l ++ m) → Below B w0 w' → Grew v wr w' → K (a.put o.dst v') w') :
    if Region.wanted o (yielded ops a.tmps) = true then Oper.wp P o a wr K Q else E' := by
  rw [if_pos hw]
  cases A with
  | none =>
    have hm : m = [] := by
      cases m with
      | nil => rfl
      | cons y r => obtain ⟨b, o, e, _⟩ := hsl (by simp); cases e
    subst hm
    rw [hcz rfl] at hx
    have hrun := run_append_owned_none (P := P) (w := wr) base t o.type E i size ht hi v l.length (flat enc l) hown
    have hK := h v wr (by rw [List.append_nil]; exact hown) hb (Grew.refl _ _)
    simp at hx
    unfold Oper.wp
    simp [execOp, ho, resolve, invoke, builtin, hs, hx, hrun, Result.andThen]
    exact hK
  | some ad =>
    refine wp_append_own wr s x t ho base E i z size bytes ht hi hz hsize hby hzs hsz v l.length (flat enc l) hs hown ad m.length c (flat enc m) hx (flat_length hce m) ?_ ?_ ?_ ?_ hbase ?_
    · intro j u hu
      have hpos : 0 < m.length := by
        have hlt := (List.getElem?_eq_some_iff.1 hu).1
        rw [flat_length hce] at hlt
        cases m with
        | nil => simp at hlt
        | cons y r => simp
      obtain ⟨b, o', e, hc⟩ := hsl hpos
      injection e with e
      subst e
      have hadd : (⟨b, o', none⟩ : Addr).add j = ⟨b, o' + j, none⟩ := by unfold Addr.add; split <;> simp_all
      rw [hadd]; exact hc j u hu
    · intro u hu
      unfold flat at hu
      obtain ⟨y, _, hy⟩ := List.mem_flatMap.1 hu
      exact h1 y u hy
    · unfold maxLen; omega
    · have := Nat.mul_le_mul_left (l.length + m.length) hb200; omega
    · intro v' w' hown' hg _
      refine h v' w' ?_ (hb.grown hg (Nat.le_trans hB hbase) (fun k hk => Nat.le_trans hB (World.ownsRow.lt hown k hk).1)) hg
      show w'.ownsRow base E size v' (l ++ m).length (flat enc (l ++ m))
      rw [flat_append, List.length_append]; exact hown'
abbrev rowS (y : ByteArray) : Obj := .cells #[.string y] 9
abbrev madeS : Obj := .cells #[] 9
section
variable {ops : Array Oper} {o : Oper} {a : Act} {K : Act → World → Prop} {Q : Exit → Act → World → Prop} {E' : Prop} {w1 : World} {l : List ByteArray} {A : Option Addr} {c : Nat} {y : ByteArray} {s x : Operand}
theorem step_strN {l m : List ByteArray} {w0 wr : World} {v : Value} {A : Option Addr} {c : Nat} {s x : Operand} (hw : Region.wanted o (yielded ops a.tmps) = true) (ho : o.op = .call { callee := .builtin .append, args := #[s, x], argTypes := #[33, 33] })
    (hown : Own wr w0.heap.size 9 1 encS v l) (hb : Below w0.heap.size w0 wr) (hn : l.length + m.length ≤ 33554432) (hsl : Sl wr encS 1 A m) (hcz : A = none → c = 0)
    (hs : a.eval s = v) (hx : a.eval x = .slice A m.length c)
    (h : ∀ v' w', Own w' w0.heap.size 9 1 encS v' (l ++ m) → Below w0.heap.size w0 w' → Grew v wr w' → K (a.put o.dst v') w') : if Region.wanted o (yielded ops a.tmps) = true then Oper.wp Tryz.prog o a wr K Q else E' := by
  obtain ⟨i0, hi0, hz0, hz1, hz2⟩ := info_parts str_info
  exact step_appW Tryz.underlying33 hi0 hz0 hz1 hz2 rfl (by decide) (by decide) hw s x ho hown hb (Nat.le_refl _) hb.size hn hsl hcz (fun _ => rfl) oneS hs hx h
def StrAt (w : World) (g : Nat) (y : ByteArray) : Prop := w.cell? ⟨g, 0, none⟩ = some (.string y)
theorem StrAt.new (w : World) (y : ByteArray) : StrAt (w.alloc (rowS y)) w.heap.size y := new_cell rfl
theorem StrAt.sl {w : World} {g : Nat} {y : ByteArray} (h : StrAt w g y) : Sl w encS 1 (some ⟨g, 0, none⟩) [y] := by
  intro _
  refine ⟨g, 0, rfl, fun j u hu => ?_⟩
  have hj : j = 0 := by have := (List.getElem?_eq_some_iff.1 hu).1; simp [flat, encS] at this; omega
  subst hj; simp [flat, encS] at hu; rw [← hu]; exact h
theorem step_str_d {w0 W : World} {v : Value} {g : Nat} (hown : Own W w0.heap.size 9 1 encS v l) (hb : Below w0.heap.size w0 W) (hr : StrAt W g y) (hl : l.length ≤ 16777216) (hw : Region.wanted o (yielded ops a.tmps) = true) (ho : o.op = .call { callee := .builtin .append, args := #[s, x], argTypes := #[33, 33] })
    (hs : a.eval s = v) (hx : a.eval x = .slice (some ⟨g, 0, none⟩) 1 1)
    (h : ∀ v' w', Own w' w0.heap.size 9 1 encS v' (l ++ [y]) → Below w0.heap.size w0 w' → K (a.put o.dst v') w') : if Region.wanted o (yielded ops a.tmps) = true then Oper.wp Tryz.prog o a W K Q else E' :=
  step_strN (l := l) (m := [y]) hw ho hown hb (by simp; omega) hr.sl (by intro h; cases h) hs hx fun v' w' h1 h2 _ => h v' w' h1 h2
end
section
variable {ops : Array Oper} {o : Oper} {a : Act} {K : Act → World → Prop} {Q : Exit → Act → World → Prop} {E' : Prop} {l : List ByteArray} {s x : Operand}
end
section
variable {ops : Array Oper} {o : Oper} {a : Act} {K : Act → World → Prop} {Q : Exit → Act → World → Prop} {E' : Prop} {l : List ByteArray} {s x : Operand}
end
theorem str_add {x y : ByteArray} (hx : x.size ≤ 1073741824) (hy : y.size ≤ 1073741824) : Op.stringOp .add x y = pure (.string (x ++ y)) := by
  have h : ¬ (((x.size + y.size : Nat) : Int) > IntKind.i64.max) := by
    have e : IntKind.i64.max = 9223372036854775807 := by decide
    rw [e]; omega
  unfold Op.stringOp
  simp only [h, if_false]
end Go.Proofs.YtokelopllbaikaaGreatDoor

/- Archives by value: sizes, copies, comparisons, marks, walked. -/
set_option linter.unusedVariables false
namespace Go.Proofs.YtokelopllbaikaaGreatDoor
open Go.RowKit
/-- Two rows in different blocks. -/
def ApartV (u v : Value) : Prop := ∀ g, u.ownBlock = some g → v.ownBlock ≠ some g
theorem ApartV.symm {u v : Value} (h : ApartV u v) : ApartV v u := fun g h1 h2 => h g h2 h1
theorem ApartV.nil (u : Value) : ApartV u (.slice none 0 0) := fun g _ h => by cases h
theorem Row3.grew {w w' : World} {b : Nat} {v v0 v1 v2 : Value} (h : Row3 w b v0 v1 v2) (hg : Grew v w w') (hne : v.ownBlock ≠ some b) : Row3 w' b v0 v1 v2 := by
  obtain ⟨⟨h0, h1, h2⟩, hf, hlt⟩ := h
  have hblk : w'.heap[b]? = w.heap[b]? := hg.block b hlt (fun e => hne e.symm)
  have hc : ∀ o, w'.cell? ⟨b, o, none⟩ = w.cell? ⟨b, o, none⟩ := fun o => by unfold World.cell?; simp only [hblk]
  refine ⟨⟨(hc _).trans h0, (hc _).trans h1, (hc _).trans h2⟩, fun o => (World.frozen?_of_block (w := w) hblk).trans (hf o), Nat.lt_of_lt_of_le hlt hg.size⟩
end Go.Proofs.YtokelopllbaikaaGreatDoor

/- Appends of entries in regions that draw their order. -/
set_option linter.unusedVariables false
namespace Go.Proofs.YtokelopllbaikaaGreatDoor
open Go.RowKit
section
variable {ops : Array Oper} {o : Oper} {a : Act} {K : Act → World → Prop} {Q : Exit → Act → World → Prop} {E' : Prop} {w0 wr : World} {v : Value}
set_option maxRecDepth 100000 in
theorem step_enK {l m : List En} {A : Option Addr} {c n : Nat} {s x : Operand} (hw : Region.wanted o (yielded ops a.tmps) = true) (ho : o.op = .call { callee := .builtin .append, args := #[s, x], argTypes := #[62, 62] })
    (hown : Own wr w0.heap.size 70 2 encE v l) (hb : Below w0.heap.size w0 wr) (hn : l.length + m.length ≤ 33554432) (hsl : Sl wr encE 2 A m) (hcz : A = none → c = 0)
    (hs : a.eval s = v) (hmn : m.length = n) (hx : a.eval x = .slice A n c)
    (h : ∀ v' w', Own w' w0.heap.size 70 2 encE v' (l ++ m) → Below w0.heap.size w0 w' → Grew v wr w' → Kin v wr v' → K (a.put o.dst v') w') : if Region.wanted o (yielded ops a.tmps) = true then Oper.wp Tryz.prog o a wr K Q else E' := by
  subst hmn
  obtain ⟨i0, hi0, hz0, hz1, hz2⟩ := info_parts en_info
  rw [if_pos hw]
  cases A with
  | none =>
    have hm : m = [] := by
      cases m with
      | nil => rfl
      | cons y r => obtain ⟨b, o, e, _⟩ := hsl (by simp); cases e
    subst hm
    rw [hcz rfl] at hx
    have hrun := run_append_owned_none (P := Tryz.prog) (w := wr) w0.heap.size 62 o.type 70 i0 2 Tryz.underlying62 hi0 v l.length (flat encE l) hown
    have hK := h v wr (by rw [List.append_nil]; exact hown) hb (Grew.refl _ _) (fun b _ h => h)
    simp at hx
    unfold Oper.wp
    simp [execOp, ho, resolve, invoke, builtin, hs, hx, hrun, Result.andThen]
    exact hK
  | some ad =>
    obtain ⟨v', w', hr, h2, h3, h4, h5⟩ := run_append_own_at (P := Tryz.prog) wr w0.heap.size 62 o.type 70 i0 _ 2 24 Tryz.underlying62 hi0 hz0 hz1 hz2 rfl (by decide) v l.length (flat encE l) hown ad m.length c (flat encE m) (flat_length (enc := encE) (size := 2) (fun _ => rfl) m) (by
        intro j u hu
        have hpos : 0 < m.length := by
          have hlt := (List.getElem?_eq_some_iff.1 hu).1
          rw [flat_length (enc := encE) (size := 2) (fun _ => rfl)] at hlt
          cases m with
          | nil => simp at hlt
          | cons y r => simp
        obtain ⟨b, o', e, hc⟩ := hsl hpos
        injection e with e
        subst e
        have hadd : (⟨b, o', none⟩ : Addr).add j = ⟨b, o' + j, none⟩ := by unfold Addr.add; split <;> simp_all
        rw [hadd]; exact hc j u hu) (by
        intro u hu
        unfold flat at hu
        obtain ⟨y, _, hy⟩ := List.mem_flatMap.1 hu
        exact oneE y u hy) (by unfold maxLen; omega) (by omega) hb.size
    unfold Oper.wp execOp
    simp only [ho, resolve, invoke, builtin, Sem.run_bind, Sem.run_pure, Result.andThen_ok, List.map_toArray, List.map_cons, List.map_nil, hs, hx, hr]
    refine h v' w' ?_ (hb.grown h3 hb.size (fun k hk => (World.ownsRow.lt hown k hk).1)) h3 ?_
    · show w'.ownsRow _ _ _ v' (l ++ m).length (flat encE (l ++ m))
      rw [flat_append, List.length_append]; exact h2
    · intro b hb2 hne hv'
      rcases h5 with h5 | h5
      · exact hne (h5 ▸ hv')
      · rw [h5] at hv'; injection hv' with e; omega
end
abbrev rowEn (y : En) : Obj := .cells #[.string y.1, .int .i64 y.2] 70
abbrev madeEn : Obj := .cells #[] 70
theorem slEn_new (w : World) (y : En) : Sl (w.alloc (rowEn y)) encE 2 (some ⟨w.heap.size, 0, none⟩) [y] := by
  intro _
  refine ⟨w.heap.size, 0, rfl, fun j u hu => ?_⟩
  rw [cell_of_row _ _ _ _ 70 (0, 0) (heap_alloc_new w _)]
  rw [Nat.zero_add]
  simpa [flat, encE] using hu
theorem Sl.takeE {w : World} {A : Option Addr} {l : List En} {n : Nat} (h : Sl w encE 2 A l) : Sl w encE 2 A (l.take n) := by
  intro hn
  have hlt : 0 < l.length := by rw [List.length_take] at hn; omega
  obtain ⟨b, o, e, hc⟩ := h hlt
  refine ⟨b, o, e, fun j u hu => hc j u ?_⟩
  have e2 : flat encE l = flat encE (l.take n) ++ flat encE (l.drop n) := by rw [← flat_append, List.take_append_drop]
  rw [e2, List.getElem?_append_left (List.getElem?_eq_some_iff.1 hu).1]; exact hu
theorem Sl.dropE {w : World} {b o : Nat} {l : List En} {n : Nat} (h : Sl w encE 2 (some ⟨b, o, none⟩) l) (hn : n ≤ l.length) : Sl w encE 2 (some ⟨b, o + n * 2, none⟩) (l.drop n) := by
  intro hd
  have hlt : 0 < l.length := by rw [List.length_drop] at hd; omega
  obtain ⟨b2, o2, e, hc⟩ := h hlt
  injection e with e; injection e with e1 e2
  subst e1 e2
  refine ⟨b, o + n * 2, rfl, fun j u hu => ?_⟩
  have e2 : flat encE l = flat encE (l.take n) ++ flat encE (l.drop n) := by rw [← flat_append, List.take_append_drop]
  have hlen : (flat encE (l.take n)).length = n * 2 := by rw [flat_length (enc := encE) (size := 2) (fun _ => rfl), List.length_take]; congr 1; omega
  have := hc (n * 2 + j) u (by rw [e2, List.getElem?_append_right (by omega), hlen]; simpa using hu)
  rwa [← Nat.add_assoc] at this
def BoxE (w : World) (g : Nat) (y : En) : Prop := w.cell? ⟨g, 0, none⟩ = some (.string y.1) ∧ w.cell? ⟨g, 1, none⟩ = some (.int .i64 y.2)
theorem BoxE.new (w : World) (y : En) : BoxE (w.alloc (rowEn y)) w.heap.size y := ⟨new_cell rfl, new_cell rfl⟩
theorem BoxE.below {w w' : World} {g : Nat} {y : En} (h : BoxE w g y) (hb : Below w.heap.size w w') : BoxE w' g y := ⟨Below_cells hb _ _ _ h.1, Below_cells hb _ _ _ h.2⟩
theorem fitE_valid {l : List En} (h : entsV l = true) : FitE l := fun e he => by
  have := (entOk_iff.1 (entsV_ok h he)).1
  unfold wordV at this
  rw [Bool.and_eq_true, Bool.and_eq_true, decide_eq_true_eq] at this
  have h2 : (tx e.1).length = e.1.size := by simp
  omega
theorem fitE_ins {l : List En} (h : entsV l = true) {e : En} (he : e.1.size ≤ 16777216) : FitE (insE l e) := fun x hx => by
  rcases (mem_insE (entsV_sorted h) e x).1 hx with rfl | ⟨hx, _⟩
  · exact he
  · exact fitE_valid h x hx
end Go.Proofs.YtokelopllbaikaaGreatDoor

/- Arguments that came in: slices of structs. -/
set_option linter.unusedVariables false
namespace Go.Proofs.YtokelopllbaikaaGreatDoor
open Go.ChangeShapes Go.WideShapes Go.ChangeAt Go.RowKit
open Go.ChangeMaps (open_string shut_string)

section
variable {H : Type} {enc : TypeId × Value → H} {W : World} {a : Option Addr} {n c : Nat} {d : DataW H} {p : List MemPlace}
end
end Go.Proofs.YtokelopllbaikaaGreatDoor
