/- Where a name stands: cmp.Compare of texts, slices.BinarySearchFunc, findEntry, printNamed, walked. -/
import Derived.Test.YtedcgbmdfmgcgaaGreatDoorGa1
import Derived.Shelf.Abstract
set_option linter.unusedVariables false
namespace Go.Proofs.YtedcgbmdfmgcgaaGreatDoor
open Go.RowKit

def FitE (l : List En) : Prop := ∀ p ∈ l, p.1.size ≤ 16777216
def cmpS (a b : ByteArray) : Int := if lessB (tx a) (tx b) then -1 else if lessB (tx b) (tx a) then 1 else 0
theorem less_tl (a b : ByteArray) : Op.bytesLess a.toList b.toList = lessB (tx a) (tx b) := by rw [ByteArray.toList_eq, ByteArray.toList_eq]
theorem eq_tl (a b : ByteArray) : (a.toList == b.toList) = (tx a == tx b) := by rw [ByteArray.toList_eq, ByteArray.toList_eq]
theorem less_ne {a b : ByteArray} (h : lessB (tx a) (tx b) = true) : (tx a == tx b) = false := by
  rw [beq_eq_false_iff_ne]; intro e; rw [e, lessB_irrefl] at h; cases h
set_option maxHeartbeats 2000000 in
set_option maxRecDepth 100000 in
theorem isNaNS_any (a : ByteArray) (w : World) : Calls Tryz.prog 157 #[.string a] w fun e w' => e = .returned (.bool false) ∧ w = w' := by
  go_enter Tryz.func157, Tryz.ntmps157
  go_wp2
  go_ret
  exact ⟨ret_bool (by simp), rfl⟩
set_option maxHeartbeats 2000000 in
set_option maxRecDepth 100000 in
theorem CompareS_any (a b : ByteArray) (w : World) : Calls Tryz.prog 142 #[.string a, .string b] w fun e w' => e = .returned (.int .i64 (cmpS a b)) ∧ w = w' := by
  cases h1 : lessB (tx a) (tx b)
  · cases h2 : lessB (tx b) (tx a)
    · have E : Hid (cmpS a b = 0) := by show _ = _; unfold cmpS; rw [h1, h2]; rfl
      have l1 : Op.bytesLess a.toList b.toList = false := by rw [less_tl]; exact h1
      have l2 : (a.toList == b.toList) = true := by rw [eq_tl]; exact beq_iff_eq.2 (lessB_tri h1 h2)
      clear h1 h2
      go_enter Tryz.func142, Tryz.ntmps142
      go_wp2_with (go_at_call 157; refine (isNaNS_any _ _).mono ?_; rintro e w' ⟨rfl, rfl⟩)
      go_ret
      exact ⟨ret_int E.out.symm, rfl⟩
    · have E : Hid (cmpS a b = 1) := by show _ = _; unfold cmpS; rw [h1, h2]; rfl
      have l1 : Op.bytesLess a.toList b.toList = false := by rw [less_tl]; exact h1
      have l2 : (a.toList == b.toList) = false := by rw [eq_tl, beq_eq_false_iff_ne]; intro e; rw [e, lessB_irrefl] at h2; cases h2
      clear h1 h2
      go_enter Tryz.func142, Tryz.ntmps142
      go_wp2_with (go_at_call 157; refine (isNaNS_any _ _).mono ?_; rintro e w' ⟨rfl, rfl⟩)
      go_ret
      exact ⟨ret_int E.out.symm, rfl⟩
  · have E : Hid (cmpS a b = -1) := by show _ = _; unfold cmpS; rw [h1]; rfl
    have l1 : Op.bytesLess a.toList b.toList = true := by rw [less_tl]; exact h1
    clear h1
    go_enter Tryz.func142, Tryz.ntmps142
    go_wp2_with (go_at_call 157; refine (isNaNS_any _ _).mono ?_; rintro e w' ⟨rfl, rfl⟩)
    go_ret
    exact ⟨ret_int E.out.symm, rfl⟩
set_option maxHeartbeats 2000000 in
set_option maxRecDepth 100000 in
theorem feCmp_any (a : Int) (x t : ByteArray) (w : World) : Calls Tryz.prog 141 #[.agg #[.string t, .int .i64 a], .string x] w fun e w' => e = .returned (.int .i64 (cmpS t x)) ∧ Below w.heap.size w w' := by
  have HB := Lib.hid ((Below.refl w.heap.size w).alloc (Nat.le_refl _) (.cells #[.string t, .int .i64 a] 100))
  generalize hc : cmpS t x = c at *
  have HC := Lib.hid (fun w => hc ▸ CompareS_any t x w)
  clear hc
  go_enter Tryz.func141, Tryz.ntmps141
  go_wp2_with (go_at_call 142; refine (HC.out _).mono ?_; rintro e w' ⟨rfl, rfl⟩)
  go_ret
  exact ⟨rfl, HB.out⟩
def FeRes (l : List En) (x : ByteArray) (w : World) (e : Ending) (w' : World) : Prop := e = .returned (.tuple #[.int .i64 (posE l (tx x) : Nat), .bool (hereE l (tx x))]) ∧ Below w.heap.size w w'
theorem ret_twoE {a b : Int} {c d : Bool} (h1 : a = b) (h2 : c = d) : Ending.returned (.tuple #[.int .i64 a, .bool c]) = .returned (.tuple #[.int .i64 b, .bool d]) := by rw [h1, h2]
set_option maxHeartbeats 4000000 in
set_option maxRecDepth 100000 in
theorem BSearchE_any (A : Option Addr) (c : Nat) (l : List En) (x : ByteArray) (w : World) (hs : Sl w encE 2 A l) (hl : l.length ≤ 16777216) (hso : SortE l) :
    Calls Tryz.prog 140 #[.slice A l.length c, .string x, .func (.func 141) #[] #[]] w (FeRes l x w) := by
  have HS := Lib.hid hs
  have HSO := Lib.hid hso
  clear hs hso
  go_enter Tryz.func140, Tryz.ntmps140
  go_wp2_with fail
  go_loopw [9, 10] (fun vi vj wr => ∃ lo hi : Nat, vi = .int .i64 lo ∧ vj = .int .i64 hi ∧ lo ≤ hi ∧ hi ≤ l.length ∧ Hid (∀ t (h : t < l.length), t < lo → lessB (tx l[t].1) (tx x) = true) ∧ Hid (∀ t (h : t < l.length), hi ≤ t → lessB (tx l[t].1) (tx x) = false) ∧ Hid (Below w.heap.size w wr)) (fun vi vj _ => (intOf vj).toNat - (intOf vi).toNat)
  case atStart => exact ⟨0, l.length, rfl, rfl, Nat.zero_le _, Nat.le_refl _, (fun t h h2 => by omega), (fun t h h2 => by omega), Below.refl _ _⟩
  case round =>
    obtain ⟨lo, hi, rfl, rfl, hle, hhi, H1, H2, HB⟩ := hrel
    by_cases hlt : lo < hi
    · obtain ⟨m, hm⟩ : ∃ m, m = (lo + hi) / 2 := ⟨_, rfl⟩
      have hm1 : lo ≤ m := by omega
      have hm2 : m < hi := by omega
      have hml : m < l.length := by omega
      have hmi : ((lo : Int) + (hi : Int)) / 2 = (m : Int) := by omega
      obtain ⟨b, o, rfl, hc0, hc1⟩ := (HS.out.below HB.out).getE hml
      have HP := Lib.hid (List.pairwise_iff_getElem.1 HSO.out)
      have HQ1 := Lib.hid (fun (hx : lessB (tx l[m].1) (tx x) = true) (t : Nat) (h : t < l.length) (ht : t < m + 1) => show lessB (tx l[t].1) (tx x) = true by
        by_cases e : t = m
        · subst e; exact hx
        · exact lessB_trans (HP.out t m h hml (by omega)) hx)
      have HQ2 := Lib.hid (fun (hx : lessB (tx l[m].1) (tx x) = false) (t : Nat) (h : t < l.length) (ht : m ≤ t) => show lessB (tx l[t].1) (tx x) = false by
        by_cases e : m = t
        · subst e; exact hx
        · have h1 := HP.out m t hml h (by omega)
          cases h2 : lessB (tx l[t].1) (tx x)
          · rfl
          · rw [lessB_trans h1 h2] at hx; cases hx)
      generalize l[m] = p at *
      obtain ⟨t, a⟩ := p
      simp only at *
      clear hm HP
      have hC := fun w => feCmp_any a x t w
      cases hax : lessB (tx t) (tx x)
      · have HN := Lib.hid (HQ2.out hax)
        have hcm : ¬ cmpS t x < 0 := by unfold cmpS; rw [hax]; simp only [Bool.false_eq_true, if_false]; split <;> omega
        generalize cmpS t x = cv at *
        have HC := Lib.hid hC
        clear hC HQ1 HQ2 hax
        go_wp2_with ((first | go_at_call 141 | go_at_fn 141); refine (HC.out _).mono ?_; rintro e w2 ⟨rfl, hb2⟩; have HB2 := Lib.hid (Below_then HB.out hb2 (Nat.le_refl _)); clear hb2)
        go_roundw
        case rel => exact ⟨lo, m, rfl, rfl, by omega, by omega, H1.out, HN.out, HB2.out⟩
        case measure => simp [intOf]; omega
      · have HN := Lib.hid (HQ1.out hax)
        have hcm : cmpS t x = -1 := by unfold cmpS; rw [hax]; rfl
        rw [hcm] at hC
        have HC := Lib.hid hC
        clear hC hcm HQ1 HQ2 hax
        go_wp2_with ((first | go_at_call 141 | go_at_fn 141); refine (HC.out _).mono ?_; rintro e w2 ⟨rfl, hb2⟩; have HB2 := Lib.hid (Below_then HB.out hb2 (Nat.le_refl _)); clear hb2)
        go_roundw
        case rel => exact ⟨m + 1, hi, by go_num, rfl, by omega, hhi, HN.out, H2.out, HB2.out⟩
        case measure => simp [intOf]; omega
    · obtain rfl : hi = lo := by omega
      have HE := Lib.hid (posE_of l (tx x) hi hhi H1.out (fun h => H2.out hi h (Nat.le_refl _)))
      by_cases hn : hi < l.length
      · obtain ⟨b, o, rfl, hc0, hc1⟩ := (HS.out.below HB.out).getE hn
        have hh : hereE l (tx x) = (tx l[hi].1 == tx x) := by unfold hereE; rw [HE.out, getD_en hn, decide_eq_true hn, Bool.true_and]
        have hnl := H2.out hi hn (Nat.le_refl _)
        generalize l[hi] = p at *
        obtain ⟨t, a⟩ := p
        simp only at *
        have hC := fun w => feCmp_any a x t w
        cases hgx : lessB (tx x) (tx t)
        · have HH := Lib.hid (show hereE l (tx x) = true by rw [hh]; exact beq_iff_eq.2 (lessB_tri hnl hgx))
          have hcm : cmpS t x = 0 := by unfold cmpS; rw [hnl, hgx]; rfl
          rw [hcm] at hC
          have HC := Lib.hid hC
          clear hC hcm hh hgx hnl
          go_wp2_with ((first | go_at_call 141 | go_at_fn 141); refine (HC.out _).mono ?_; rintro e w2 ⟨rfl, hb2⟩; have HB2 := Lib.hid (Below_then HB.out hb2 (Nat.le_refl _)); clear hb2)
          go_ret2
          exact ⟨ret_twoE (by rw [HE.out]) (by rw [HH.out]), HB2.out⟩
        · have HH := Lib.hid (show hereE l (tx x) = false by rw [hh, beq_eq_false_iff_ne]; intro e; rw [e, lessB_irrefl] at hgx; cases hgx)
          have hcm : cmpS t x = 1 := by unfold cmpS; rw [hnl, hgx]; rfl
          rw [hcm] at hC
          have HC := Lib.hid hC
          clear hC hcm hh hgx hnl
          go_wp2_with ((first | go_at_call 141 | go_at_fn 141); refine (HC.out _).mono ?_; rintro e w2 ⟨rfl, hb2⟩; have HB2 := Lib.hid (Below_then HB.out hb2 (Nat.le_refl _)); clear hb2)
          go_ret2
          exact ⟨ret_twoE (by rw [HE.out]) (by rw [HH.out]), HB2.out⟩
      · have HH := Lib.hid (show hereE l (tx x) = false by unfold hereE; rw [HE.out, decide_eq_false hn]; rfl)
        go_wp2
        go_ret2
        exact ⟨ret_twoE (by rw [HE.out]) (by rw [HH.out]), HB.out⟩
set_option maxHeartbeats 4000000 in
set_option maxRecDepth 100000 in
theorem findEntry_any (A : Option Addr) (c : Nat) (l : List En) (x : ByteArray) (w : World) (hs : Sl w encE 2 A l) (hl : l.length ≤ 16777216) (hso : SortE l) :
    Calls Tryz.prog 119 #[.slice A l.length c, .string x] w (FeRes l x w) := by
  have HX := Lib.hid (fun w h => BSearchE_any A c l x w h hl hso)
  have HS := Lib.hid hs
  clear hs hso
  unfold FeRes at *
  go_enter Tryz.func119, Tryz.ntmps119
  go_wp2_with fail
  refine (HX.out _ HS.out).mono ?_
  rintro e w1 ⟨rfl, hb⟩
  have HB := Lib.hid hb
  clear hb
  go_wp2
  go_ret2
  exact ⟨rfl, HB.out⟩
def PnRes (l : List En) (x : ByteArray) (w : World) (e : Ending) (w' : World) : Prop := e = .returned (.tuple #[.int .i64 ((getE l (tx x)).getD (-1)), .bool (getE l (tx x)).isSome]) ∧ Below w.heap.size w w'
set_option maxHeartbeats 4000000 in
set_option maxRecDepth 100000 in
theorem printNamed_any (A : Option Addr) (c : Nat) (l : List En) (x : ByteArray) (w : World) (hs : Sl w encE 2 A l) (hl : l.length ≤ 16777216) (hso : SortE l) :
    Calls Tryz.prog 98 #[.slice A l.length c, .string x] w (PnRes l x w) := by
  have hX := fun w h => findEntry_any A c l x w h hl hso
  have HS := Lib.hid hs
  have hg := getE_here hso (n := tx x)
  clear hs
  unfold FeRes at hX
  unfold PnRes
  rw [hg]
  cases hh : hereE l (tx x)
  · rw [hh] at hX
    have HX := Lib.hid hX
    clear hX hg hso hh
    go_enter Tryz.func98, Tryz.ntmps98
    go_wp2_with fail
    refine (HX.out _ HS.out).mono ?_
    rintro e w1 ⟨rfl, hb⟩
    have HB := Lib.hid hb
    clear hb
    go_wp2
    go_ret2
    exact ⟨rfl, HB.out⟩
  · have hlt : posE l (tx x) < l.length := (hereE_iff.1 hh).1
    rw [hh] at hX
    rw [getD_en hlt]
    have HX := Lib.hid hX
    have HG := Lib.hid (fun (w : World) (h : Sl w encE 2 A l) => h.getE hlt)
    generalize l[posE l (tx x)] = q at *
    obtain ⟨t, a⟩ := q
    simp only at *
    generalize posE l (tx x) = B at *
    obtain ⟨b, o, rfl, _, _⟩ := HG.out w HS.out
    clear hX hg hso hh
    go_enter Tryz.func98, Tryz.ntmps98
    go_wp2_with fail
    refine (HX.out _ HS.out).mono ?_
    rintro e w1 ⟨rfl, hb⟩
    have HB := Lib.hid hb
    obtain ⟨b', o', e', hc0, hc1⟩ := HG.out _ (HS.out.below hb)
    have hbb : b' = b ∧ o' = o := by injection e' with e'; injection e' with e1 e2; exact ⟨e1.symm, e2.symm⟩
    obtain ⟨rfl, rfl⟩ := hbb
    clear hb e'
    go_wp2
    go_ret2
    exact ⟨rfl, HB.out⟩
end Go.Proofs.YtedcgbmdfmgcgaaGreatDoor
