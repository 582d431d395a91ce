/- Texts in one: Pt, Ad, Ine. -/
import Derived.Test.YtokelopllbaikaaGreatDoorGb0
import Derived.Test.YtokelopllbaikaaGreatDoorGa5
import Derived.Test.YtokelopllbaikaaGreatDoorGa7
import Derived.Test.YtokelopllbaikaaGreatDoorGa4
/- PutText of the program, walked. -/
set_option linter.unusedVariables false
namespace Go.Proofs.YtokelopllbaikaaGreatDoor
open Go.RowKit
attribute [local go_sem] mk_toList

def PutRes (r : List Pc × Int × Bool) (w : World) (e : Ending) (w' : World) : Prop :=
  ∃ v, e = .returned (.tuple #[v, .int .i64 r.2.1, .bool r.2.2]) ∧ Own w' w.heap.size 38 2 encP v r.1 ∧ Below w.heap.size w w'
theorem InsertPc_any (base : Nat) (A : Option Addr) (c : Nat) (l : List Pc) (x : Pc) (i : Nat) (w : World) (vb : Nat) (hbase : base ≤ w.heap.size) (hown : Own w base 38 2 encP (.slice A l.length c) l)
    (hv : w.heap[vb]? = some (.cells #[.int .i64 x.1, .string x.2] 38 (0, 0))) (hne : ∀ g o, A = some ⟨g, o, none⟩ → vb ≠ g) (hi : i ≤ l.length) (hl : l.length ≤ 16777216) :
    Calls Tryz.prog 43 #[.slice A l.length c, .int .i64 (i : Nat), .slice (some ⟨vb, 0, none⟩) 1 1] w (InsRes base (l.take i ++ x :: l.drop i) w) := by
  by_cases e : i = l.length
  · subst e
    rw [← ins_end]
    exact Insert_end base _ l x w vb hbase hown hv hl
  · have h2 := hown.2
    rcases h2 with ⟨hv2, hn⟩ | ⟨g, cap, cur, hv2, hg, hh, hnc, hcm, hsz, ht⟩
    · omega
    · injection hv2 with e1 e2 e3
      subst e1 e3
      by_cases hr : l.length + 1 ≤ c
      · exact Insert_room base l x i w vb g c cur hbase hg hh hcm hsz ht hr hv (hne g 0 rfl) (by omega) hl
      · exact Insert_grow base l x i w vb g c cur hbase hg hh hnc ht (by omega) hv (by omega) hl
theorem Below_of_alloc2 {w2 w3 w4 : World} {x : Obj} (h3 : Below w2.heap.size w2 w3) (h4 : Below w2.heap.size (w3.alloc x) w4) : Below w2.heap.size w2 w4 := (h3.alloc h3.size x).trans h4
theorem ins_call {l : List Pc} {x : Pc} {B : Nat} {w0 w2 w3 : World} {X : Option Addr} {d : Nat} (hb2 : Below w0.heap.size w0 w2) (hown3 : Own w3 w2.heap.size 38 2 encP (.slice X l.length d) l) (hb3 : Below w2.heap.size w2 w3) (hB : B ≤ l.length) (hl : l.length ≤ 16777216) :
    Calls Tryz.prog 43 #[.slice X l.length d, .int .i64 (B : Nat), .slice (some ⟨w3.heap.size, 0, none⟩) 1 1] (w3.alloc (.cells #[.int .i64 x.1, .string x.2] 38)) fun e w' => ∃ v', e = .returned v' ∧ Own w' w0.heap.size 38 2 encP v' (l.take B ++ x :: l.drop B) ∧ Below w0.heap.size w0 w' :=
  (InsertPc_any w2.heap.size X d l x B _ w3.heap.size (Nat.le_trans hb3.size (by simp)) (hown3.alloc _) (heap_alloc_new w3 _) (by
    rintro g o rfl
    have := hown3.blk g rfl
    omega) hB hl).mono fun e w' ⟨v', he, ho, hb⟩ => ⟨v', he, ho.mono hb2.size, Below_then hb2 (Below_of_alloc2 hb3 hb) (Nat.le_refl _)⟩
set_option maxHeartbeats 1000000 in
set_option maxRecDepth 100000 in
theorem iPutText_any (A : Option Addr) (c : Nat) (l : List Pc) (t : ByteArray) (w : World) (hs : Sl w encP 2 A l) (hcz : A = none → c = 0) (hl : l.length ≤ 16777216) (hf : FitP l) (ht : t.size ≤ 16777216) :
    Calls Tryz.prog 23 #[.slice A l.length c, .string t] w (PutRes (putT l t) w) := by
  have HS := Lib.hid hs
  have HCZ := Lib.hid hcz
  have hsv := fun w h => iStoreValid_any A c l w h hl hf
  have HCL := Lib.hid (fun w h => ClonePc_any A c l w h HCZ.out hl)
  have hTV := fun w => iTextValid_any t w ht
  unfold OwnRes at HCL
  cases hv : storeV l
  case false =>
    have E := Lib.hid (putT_bad (t := t) hv)
    rw [hv] at hsv
    have HSV := Lib.hid hsv
    clear hsv hs hcz hTV
    rw [E.out]
    unfold PutRes
    go_enter Tryz.func23, Tryz.ntmps23
    go_wp2_with fail
    refine (HSV.out _ HS.out).mono ?_
    rintro e w1 ⟨rfl, hb⟩
    have HB := Lib.hid hb
    clear hb
    go_wp2
    go_ret3
    exact ⟨_, rfl, Own.nil, HB.out⟩
  case true =>
    rw [hv] at hsv
    have HSV := Lib.hid hsv
    clear hsv hs hcz
    cases htv : textV (bs t)
    case false =>
      have E := Lib.hid (putT_text (t := t) hv htv)
      rw [htv] at hTV
      have HTV := Lib.hid hTV
      clear hTV
      rw [E.out]
      unfold PutRes
      go_enter Tryz.func23, Tryz.ntmps23
      go_wp2_with (first
        | (go_at_call 7; refine (HSV.out _ HS.out).mono ?_; rintro e w1 ⟨rfl, hb⟩; have HB1 := Lib.hid hb; have HS1 := Lib.hid (HS.out.below hb); clear hb)
        | (go_at_call 16; refine (HTV.out _).mono ?_; rintro e w' ⟨rfl, rfl⟩)
        | (go_at_call 22; refine (HCL.out _ HS1.out).mono ?_; rintro e w2 ⟨v2, rfl, hown2, hb2⟩; have HW2 := Lib.hid hown2; have HB2 := Lib.hid (Below_then HB1.out hb2 (Nat.le_refl _)); clear hown2 hb2))
      go_ret3
      exact ⟨_, rfl, HW2.out.mono HB1.out.size, HB2.out⟩
    case true =>
      rw [htv] at hTV
      have HTV := Lib.hid hTV
      have hPO := fun w => iPrintOf_any t w ht
      have HFP := Lib.hid (fun w h => findPiece_any A c l (prOf (bs t)) w h hl (storeV_sorted hv))
      have hgh := getT_here (storeV_sorted hv) (p := prOf (bs t))
      have hbl := below_le l (prOf (bs t))
      have hl40 := storeV_len hv
      have H0 := Lib.hid (putT_there hv htv)
      have H1 := Lib.hid (fun u => putT_clash (u := u) hv htv)
      have H2 := Lib.hid (putT_full hv htv)
      have H3 := Lib.hid (putT_new hv htv)
      unfold FpRes at HFP
      unfold tx at H0 H1 H2 H3
      generalize prOf (bs t) = p at *
      have HPO := Lib.hid hPO
      clear hTV hPO
      cases hh : hereP l p
      case true =>
        rw [hh, if_pos rfl] at hgh
        have hlt : below l p < l.length := by unfold hereP at hh; simp at hh; exact hh.1
        rw [getD_pc hlt] at hgh
        rw [hh] at HFP
        have HG := Lib.hid (fun (w : World) (h : Sl w encP 2 A l) => h.getP hlt)
        generalize l[below l p] = q at *
        obtain ⟨q0, u⟩ := q
        simp only at *
        generalize below l p = B at *
        obtain ⟨b, o, rfl, _, _⟩ := HG.out w HS.out
        by_cases hu : u = t
        case pos =>
          have E := Lib.hid (H0.out (by rw [hgh, hu]))
          clear H0 H1 H2 H3
          subst hu
          rw [E.out]
          unfold PutRes
          go_enter Tryz.func23, Tryz.ntmps23
          go_wp2_with (first
            | (go_at_call 7; refine (HSV.out _ HS.out).mono ?_; rintro e w1 ⟨rfl, hb⟩; have HB1 := Lib.hid hb; have HS1 := Lib.hid (HS.out.below hb); clear hb)
            | (go_at_call 16; refine (HTV.out _).mono ?_; rintro e w' ⟨rfl, rfl⟩)
            | (go_at_call 17; refine (HPO.out _).mono ?_; rintro e w' ⟨rfl, rfl⟩)
            | (go_at_call 42; refine (HFP.out _ HS1.out).mono ?_; rintro e w2 ⟨rfl, hb2⟩; have HB2 := Lib.hid (Below_then HB1.out hb2 (Nat.le_refl _)); have HS2 := Lib.hid (HS1.out.below hb2); obtain ⟨b', o', e', hc0, hc1⟩ := HG.out _ HS2.out; have hbb : b' = b ∧ o' = o := (by injection e' with e'; injection e' with e1 e2; exact ⟨e1.symm, e2.symm⟩); obtain ⟨rfl, rfl⟩ := hbb; clear hb2 e')
            | (go_at_call 22; refine (HCL.out _ HS2.out).mono ?_; rintro e w3 ⟨v3, rfl, hown3, hb3⟩; have HW3 := Lib.hid hown3; have HB3 := Lib.hid (Below_then HB2.out hb3 (Nat.le_refl _));  clear hown3 hb3))
          go_ret3
          exact ⟨_, rfl, HW3.out.mono HB2.out.size, HB3.out⟩
        case neg =>
          have E := Lib.hid (H1.out u hgh hu)
          clear H0 H1 H2 H3
          have hne : (u.toList == t.toList) = false := by
            rw [ByteArray.toList_eq, ByteArray.toList_eq]
            rw [beq_eq_false_iff_ne]; intro e
            apply hu
            rw [← mk_bs u, ← mk_bs t, e]
          rw [E.out]
          unfold PutRes
          go_enter Tryz.func23, Tryz.ntmps23
          go_wp2_with (first
            | (go_at_call 7; refine (HSV.out _ HS.out).mono ?_; rintro e w1 ⟨rfl, hb⟩; have HB1 := Lib.hid hb; have HS1 := Lib.hid (HS.out.below hb); clear hb)
            | (go_at_call 16; refine (HTV.out _).mono ?_; rintro e w' ⟨rfl, rfl⟩)
            | (go_at_call 17; refine (HPO.out _).mono ?_; rintro e w' ⟨rfl, rfl⟩)
            | (go_at_call 42; refine (HFP.out _ HS1.out).mono ?_; rintro e w2 ⟨rfl, hb2⟩; have HB2 := Lib.hid (Below_then HB1.out hb2 (Nat.le_refl _)); have HS2 := Lib.hid (HS1.out.below hb2); obtain ⟨b', o', e', hc0, hc1⟩ := HG.out _ HS2.out; have hbb : b' = b ∧ o' = o := (by injection e' with e'; injection e' with e1 e2; exact ⟨e1.symm, e2.symm⟩); obtain ⟨rfl, rfl⟩ := hbb; clear hb2 e')
            | (go_at_call 22; refine (HCL.out _ HS2.out).mono ?_; rintro e w3 ⟨v3, rfl, hown3, hb3⟩; have HW3 := Lib.hid hown3; have HB3 := Lib.hid (Below_then HB2.out hb3 (Nat.le_refl _));  clear hown3 hb3))
          go_ret3
          exact ⟨_, rfl, HW3.out.mono HB2.out.size, HB3.out⟩
      case false =>
        rw [hh, if_neg (by simp)] at hgh
        rw [hh] at HFP
        by_cases h40 : l.length = 40
        case pos =>
          have E := Lib.hid (H2.out hgh h40)
          clear H0 H1 H2 H3
          rw [E.out]
          have h40' : (l.length : Int) = 40 := by omega
          generalize below l p = B at *
          clear hbl hl40 hv hh hgh h40
          unfold PutRes
          go_enter Tryz.func23, Tryz.ntmps23
          go_wp2_with (first
            | (go_at_call 7; refine (HSV.out _ HS.out).mono ?_; rintro e w1 ⟨rfl, hb⟩; have HB1 := Lib.hid hb; have HS1 := Lib.hid (HS.out.below hb); clear hb)
            | (go_at_call 16; refine (HTV.out _).mono ?_; rintro e w' ⟨rfl, rfl⟩)
            | (go_at_call 17; refine (HPO.out _).mono ?_; rintro e w' ⟨rfl, rfl⟩)
            | (go_at_call 42; refine (HFP.out _ HS1.out).mono ?_; rintro e w2 ⟨rfl, hb2⟩; have HB2 := Lib.hid (Below_then HB1.out hb2 (Nat.le_refl _)); have HS2 := Lib.hid (HS1.out.below hb2); clear hb2)
            | (go_at_call 22; refine (HCL.out _ HS2.out).mono ?_; rintro e w3 ⟨v3, rfl, hown3, hb3⟩; have HW3 := Lib.hid hown3; have HB3 := Lib.hid (Below_then HB2.out hb3 (Nat.le_refl _));  clear hown3 hb3))
          go_ret3
          exact ⟨_, rfl, HW3.out.mono HB2.out.size, HB3.out⟩
        case neg =>
          have E := Lib.hid (H3.out hgh h40)
          clear H0 H1 H2 H3
          rw [E.out]
          have h40' : ¬ (l.length : Int) = 40 := by omega
          generalize below l p = B at *
          clear hv hh hgh
          unfold PutRes
          go_enter Tryz.func23, Tryz.ntmps23
          go_wp2_with (first
            | (go_at_call 7; refine (HSV.out _ HS.out).mono ?_; rintro e w1 ⟨rfl, hb⟩; have HB1 := Lib.hid hb; have HS1 := Lib.hid (HS.out.below hb); clear hb)
            | (go_at_call 16; refine (HTV.out _).mono ?_; rintro e w' ⟨rfl, rfl⟩)
            | (go_at_call 17; refine (HPO.out _).mono ?_; rintro e w' ⟨rfl, rfl⟩)
            | (go_at_call 42; refine (HFP.out _ HS1.out).mono ?_; rintro e w2 ⟨rfl, hb2⟩; have HB2 := Lib.hid (Below_then HB1.out hb2 (Nat.le_refl _)); have HS2 := Lib.hid (HS1.out.below hb2); clear hb2)
            | (go_at_call 22; refine (HCL.out _ HS2.out).mono ?_; rintro e w3 ⟨v3, rfl, hown3, hb3⟩; have HW3 := Lib.hid hown3; have HB3 := Lib.hid (Below_then HB2.out hb3 (Nat.le_refl _)); obtain ⟨X, d3, rfl, _, _, hX3⟩ := hown3.sl; have hb3z := Lib.hid hb3.size; have hb3y := Lib.hid hb3; clear hown3 hb3)
            | (go_at_call 43; refine (ins_call (x := (p, t)) HB2.out HW3.out hb3y.out hbl hl).mono ?_; rintro e w4 ⟨v4, rfl, hown4, hb4⟩; have HW4 := Lib.hid hown4; have HB4 := Lib.hid hb4; clear hown4 hb4))
          go_ret3
          exact ⟨_, rfl, HW4.out, HB4.out⟩
end Go.Proofs.YtokelopllbaikaaGreatDoor

/- AddVersion of the reference, told exactly. Written by gen_ad.py. -/
set_option linter.unusedVariables false
namespace Go.Proofs.YtokelopllbaikaaGreatDoor
open Go.RowKit
end Go.Proofs.YtokelopllbaikaaGreatDoor

/- slices.Insert of one entry into a row of the call's own, walked. Written by gen_ine.py. -/
set_option linter.unusedVariables false
namespace Go.Proofs.YtokelopllbaikaaGreatDoor
open Go.RowKit

def InsResE (base : Nat) (l : List En) (w : World) (e : Ending) (w' : World) : Prop := ∃ v', e = .returned v' ∧ Own w' base 70 2 encE v' l ∧ Below base w w'
theorem ins_endE (l : List En) (x : En) : l ++ [x] = l.take l.length ++ x :: l.drop l.length := by simp
theorem one_slE {w : World} {vb : Nat} {x : En} (hv : w.heap[vb]? = some (.cells #[.string x.1, .int .i64 x.2] 70 (0, 0))) : Sl w encE 2 (some ⟨vb, 0, none⟩) [x] := by
  intro _
  refine ⟨vb, 0, rfl, fun j u hu => ?_⟩
  rw [cell_of_row _ _ _ _ _ (0, 0) hv]
  simpa [flat, encE] using hu
set_option maxHeartbeats 4000000 in
set_option maxRecDepth 100000 in
theorem Insert_endE (base : Nat) (v : Value) (l : List En) (x : En) (w : World) (vb : Nat) (hbase : base ≤ w.heap.size) (hown : Own w base 70 2 encE v l)
    (hv : w.heap[vb]? = some (.cells #[.string x.1, .int .i64 x.2] 70 (0, 0))) (hl : l.length ≤ 16777216) :
    Calls Tryz.prog 78 #[v, .int .i64 l.length, .slice (some ⟨vb, 0, none⟩) 1 1] w (InsResE base (l ++ [x]) w) := by
  obtain ⟨i0, hi0, hz0, hz1, hz2⟩ := info_parts en_info
  have hsx := one_slE hv
  have HBR := Lib.hid (Below.refl base w)
  have hcz := hown
  obtain ⟨A, c, rfl, hle, hs, hA⟩ := hown.sl
  have HO := Lib.hid hcz
  have HCZ := Lib.hid hcz.cz
  have HSX := Lib.hid hsx
  clear hcz hsx hown hs hv
  have hcm : c ≤ 9223372036854775807 := by
    rcases HO.out.2 with ⟨hv, hn⟩ | ⟨g, cap, cur, hv, hg, hh, hnc, hcm, hsz, ht⟩
    · injection hv with _ _ e; omega
    · injection hv with _ _ e; unfold maxLen at hcm; omega
  unfold InsResE
  rcases hA with ⟨hl0, rfl⟩ | ⟨g, rfl, hg, hgw⟩
  · subst hl0
    obtain rfl := HCZ.out rfl
    go_enter Tryz.func78, Tryz.ntmps78
    go_wp2_with (at_builtin; refine wpList_appN (w0 := w) (B := base) (base := base) (m := [x]) Tryz.underlying62 hi0 hz0 hz1 hz2 rfl (by decide) (by decide) rfl _ _ rfl HO.out HBR.out (Nat.le_refl _) hbase (by simp) HSX.out (by intro h; cases h) (fun _ => rfl) oneE rfl rfl ?_; intro v' w' hown' hb' _; have HO2 := Lib.hid hown'; have HB2 := Lib.hid hb'; clear hown' hb')
    go_ret
    exact ⟨_, rfl, HO2.out, HB2.out⟩
  · go_enter Tryz.func78, Tryz.ntmps78
    go_wp2_with (at_builtin; refine wpList_appN (w0 := w) (B := base) (base := base) (m := [x]) Tryz.underlying62 hi0 hz0 hz1 hz2 rfl (by decide) (by decide) rfl _ _ rfl HO.out HBR.out (Nat.le_refl _) hbase (by simp; omega) HSX.out (by intro h; cases h) (fun _ => rfl) oneE rfl rfl ?_; intro v' w' hown' hb' _; have HO2 := Lib.hid hown'; have HB2 := Lib.hid hb'; clear hown' hb')
    all_goals
      go_ret
      exact ⟨_, rfl, HO2.out, HB2.out⟩
set_option maxHeartbeats 4000000 in
set_option maxRecDepth 100000 in
theorem Insert_roomE (base : Nat) (l : List En) (x : En) (i : Nat) (w : World) (vb g cap : Nat) (cur : Array Value) (hbase : base ≤ w.heap.size)
    (hg : base ≤ g) (hh : w.heap[g]? = some (.cells cur 70 (0, 0))) (hcm : cap ≤ maxLen) (hsz : cur.size = cap * 2) (ht : cur.toList.take (l.length * 2) = flat encE l) (hroom : l.length + 1 ≤ cap)
    (hv : w.heap[vb]? = some (.cells #[.string x.1, .int .i64 x.2] 70 (0, 0))) (hne : vb ≠ g) (hi : i < l.length) (hl : l.length ≤ 16777216) :
    Calls Tryz.prog 78 #[.slice (some ⟨g, 0, none⟩) l.length cap, .int .i64 i, .slice (some ⟨vb, 0, none⟩) 1 1] w (InsResE base (l.take i ++ x :: l.drop i) w) := by
  obtain ⟨i0, hi0, hz0, hz1, hz2⟩ := info_parts en_info
  have hsz' : ∀ w, (Go.sizeOf 70).run Tryz.prog w = .ok 2 w := fun w => by simp [sizeOf, typeInfo, hi0, hz1]
  have hsa : w.shape? vb = some (70, 2) := by simp [World.shape?, hv]
  have hsb : w.shape? g = some (70, cur.size) := by simp [World.shape?, hh]
  have hfa : w.frozen? ⟨vb, 0, none⟩ = false := by simp [World.frozen?, hv]
  have hfe : w.frozen? ⟨vb, 2, none⟩ = false := by simp [World.frozen?, hv]
  have hov : ∀ o lb cb, (callFunc 102 #[.slice (some ⟨vb, 0, none⟩) 1 1, .slice (some ⟨g, o, none⟩) lb cb]).run Tryz.prog w = .ok (.value (.bool false)) w := fun o lb cb => by
    rw [run_callFunc_extern Tryz.func102 (by kernel_rfl) (by kernel_rfl) (by kernel_rfl) (e := Extern.SlicesOverlaps.overlaps #[62, 62] #[4]) (by kernel_rfl),
      Lib.run_overlaps_apart w 62 4 70 Tryz.underlying62 2 hsz' ⟨vb, 0, none⟩ ⟨g, o, none⟩ 1 1 lb cb hne 70 70 2 cur.size hsa hsb (by omega) hfa hfe]
    rfl
  obtain ⟨C, hC⟩ : ∃ C, C = flat encE l := ⟨_, rfl⟩
  have hCl : C.length = l.length * 2 := by rw [hC]; exact flat_length (enc := encE) (size := 2) (fun _ => rfl) l
  have hflat := flat_take (enc := encE) (k := 2) (fun _ => rfl) l i (by omega)
  rw [← hC] at ht hflat
  have hLl : cur.toList.length = cap * 2 := by rw [Array.length_toList]; exact hsz
  obtain ⟨S, hS⟩ : ∃ S, S = C.drop (i * 2) := ⟨_, rfl⟩
  have hSl : S.length = (l.length - i) * 2 := by rw [hS, List.length_drop, hCl]; omega
  obtain ⟨N1, hN1⟩ : ∃ N, N = cur.toList.take (i * 2 + 2) ++ S ++ cur.toList.drop (i * 2 + 2 + S.length) := ⟨_, rfl⟩
  obtain ⟨N2, hN2⟩ : ∃ N, N = N1.take (i * 2) ++ encE x ++ N1.drop (i * 2 + (encE x).length) := ⟨_, rfl⟩
  obtain ⟨l1, l2, tk⟩ := ins_row (a := i * 2) (b := l.length * 2) ht (by omega) (by omega) (X := encE x) rfl hS hN1 hN2
  have hz3 : (Tryz.prog.info? 70).map (·.size) = some 2 := by rw [hi0]; simp [hz1]
  have hcell : ∀ j u, C[j]? = some u → w.cell? ⟨g, j, none⟩ = some u := fun j u hu => by
    rw [cell_of_row _ _ _ _ _ (0, 0) hh, ← Array.getElem?_toList]
    rw [← ht, List.getElem?_take] at hu
    split at hu
    · exact hu
    · cases hu
  have hcp1 : ∀ ty dl sl dc sc, dl = l.length - i → sl = l.length + 1 - i → (Builtin.copy_ #[62, 62] ty #[.slice (some ⟨g, (i + 1) * 2, none⟩) dl dc, .slice (some ⟨g, i * 2, none⟩) sl sc]).run Tryz.prog w.drew = .ok (goInt ((l.length - i : Nat) : Int)) (w.drew.setRow g N1.toArray) := fun ty dl sl dc sc e1 e2 => by
    subst e1 e2
    have := run_copy_rowK (P := Tryz.prog) w.drew 62 62 ty 70 g ((i + 1) * 2) (l.length - i) dc ⟨g, i * 2, none⟩ (l.length + 1 - i) sc cur 70 S 2 (l.length - i) Tryz.underlying62 hz3 (by simp only [Nat.min_def]; split <;> omega) hh hSl
      (fun j u hu => by
        rw [Addr.add_lit]
        rw [hS, List.getElem?_drop] at hu
        exact hcell _ u hu)
      (by omega) (fun u hu => by
        rw [hS, hC] at hu
        unfold flat at hu
        obtain ⟨y, _, hy⟩ := List.mem_flatMap.1 (List.mem_of_mem_drop hu)
        exact oneE y u hy)
    rw [hN1, show i * 2 + 2 = (i + 1) * 2 by omega]
    exact this
  have hcp2 : ∀ ty dl dc, 0 < dl → (Builtin.copy_ #[62, 62] ty #[.slice (some ⟨g, i * 2, none⟩) dl dc, .slice (some ⟨vb, 0, none⟩) 1 1]).run Tryz.prog (w.drew.setRow g N1.toArray) = .ok (goInt 1) ((w.drew.setRow g N1.toArray).setRow g N2.toArray) := fun ty dl dc e1 => by
    have := run_copy_rowK (P := Tryz.prog) (w.drew.setRow g N1.toArray) 62 62 ty 70 g (i * 2) dl dc ⟨vb, 0, none⟩ 1 1 N1.toArray 70 (encE x) 2 1 Tryz.underlying62 hz3 (by simp only [Nat.min_def]; split <;> omega) (setRow_heap w.drew g _ _ _ _ hh) rfl
      (fun j u hu => by
        rw [Addr.add_lit, cell_of_row _ _ _ _ _ (0, 0) ((setRow_other w.drew g vb _ hne).trans hv)]
        simpa [encE] using hu)
      (by simp [encE, l1]; omega) (fun u hu => oneE x u hu)
    rw [hN2]
    exact this
  have hfin : Own ((w.drew.setRow g N1.toArray).setRow g N2.toArray) base 70 2 encE (.slice (some ⟨g, 0, none⟩) (l.length + 1) cap) (l.take i ++ x :: l.drop i) := by
    have hll : (l.take i ++ x :: l.drop i).length = l.length + 1 := by simp; omega
    refine ⟨flat_length (enc := encE) (size := 2) (fun _ => rfl) _, .inr ⟨g, cap, N2.toArray, by rw [hll], hg, setRow_heap _ g _ _ _ _ (setRow_heap w.drew g _ _ _ _ hh), by rw [hll]; exact hroom, hcm, by simp [l2, hLl], ?_⟩⟩
    have e : flat encE (l.take i ++ x :: l.drop i) = flat encE (l.take i) ++ (encE x ++ flat encE (l.drop i)) := by rw [flat_append]; rfl
    rw [e, hflat.1, hflat.2, hll, show (l.length + 1) * 2 = l.length * 2 + 2 by omega]
    show N2.take _ = _
    rw [tk, List.append_assoc]
  have mixed : Tryz.prog.follows .mixedOrders = true := by kernel_rfl
  have HFIN := Lib.hid hfin
  have HBEL := Lib.hid (below_setRow (below_setRow ((Below.refl base w).drew) hg N1.toArray) hg N2.toArray)
  have HC1 := Lib.hid (fun ty => hcp1 ty _ _ (cap - (i + 1)) (cap - i) rfl rfl)
  have HC2 := Lib.hid (fun ty => hcp2 ty (l.length + 1 - i) (cap - i) (by omega))
  clear hfin hcp1 hcp2 hcell tk l2 hN2 l1 hN1 hSl hS hLl hflat hCl hC hsz' hz3
  unfold maxLen at hcm
  unfold InsResE
  clear hh hv ht hsa hsb hfa hfe
  have hz2' : ¬ ((i : Int) = (l.length : Int)) := by omega
  have hin : i ≤ l.length := by omega
  have hb2 : ¬ (cap = i + 1) := by omega
  have hb4 : ¬ (cap = i) := by omega
  have hw1 : IntKind.i64.wrap ((i : Int) + 1) = (i : Int) + 1 := by rw [IntKind.wrap_i64]; omega
  have htn : ((i : Int) + 1).toNat = i + 1 := by omega
  have hb1 : (0 : Int) ≤ (i : Int) + 1 := by omega
  have hb3 : (i : Int) ≤ (l.length : Int) + 1 := by omega
  go_enter Tryz.func78, Tryz.ntmps78
  go_wp2_with (simp only [hov])
  go_region_law_o (refine step_copy_runI rfl _ _ 62 62 rfl (.slice (some ⟨g, (i + 1) * 2, none⟩) (l.length - i) (cap - (i + 1))) (.slice (some ⟨g, i * 2, none⟩) (l.length + 1 - i) (cap - i)) (by simp [Act.eval, Act.put]) (by simp [Act.eval, Act.put]) (HC1.out _) ?_)
  have hc2 := HC2.out
  go_wp2
  go_ret
  exact ⟨_, rfl, HFIN.out, HBEL.out⟩
set_option maxHeartbeats 4000000 in
set_option maxRecDepth 100000 in
theorem Insert_growE (base : Nat) (l : List En) (x : En) (i : Nat) (w : World) (vb g cap : Nat) (cur : Array Value) (hbase : base ≤ w.heap.size)
    (hg : base ≤ g) (hh : w.heap[g]? = some (.cells cur 70 (0, 0))) (hle : l.length ≤ cap) (ht : cur.toList.take (l.length * 2) = flat encE l) (hroom : cap < l.length + 1)
    (hv : w.heap[vb]? = some (.cells #[.string x.1, .int .i64 x.2] 70 (0, 0))) (hi : i < l.length) (hl : l.length ≤ 16777216) :
    Calls Tryz.prog 78 #[.slice (some ⟨g, 0, none⟩) l.length cap, .int .i64 i, .slice (some ⟨vb, 0, none⟩) 1 1] w (InsResE base (l.take i ++ x :: l.drop i) w) := by
  obtain ⟨i0, hi0, hz0, hz1, hz2⟩ := info_parts en_info
  have hgw : g < w.heap.size := (Array.getElem?_eq_some_iff.1 hh).1
  have hvw : vb < w.heap.size := (Array.getElem?_eq_some_iff.1 hv).1
  obtain ⟨C, hC⟩ : ∃ C, C = flat encE l := ⟨_, rfl⟩
  have hCl : C.length = l.length * 2 := by rw [hC]; exact flat_length (enc := encE) (size := 2) (fun _ => rfl) l
  have hflat := flat_take (enc := encE) (k := 2) (fun _ => rfl) l i (by omega)
  rw [← hC] at ht hflat
  obtain ⟨S, hS⟩ : ∃ S, S = C.drop (i * 2) := ⟨_, rfl⟩
  have hSl : S.length = (l.length - i) * 2 := by rw [hS, List.length_drop, hCl]; omega
  have hPl : (C.take (i * 2)).length = i * 2 := by rw [List.length_take, hCl]; omega
  have hz3 : (Tryz.prog.info? 70).map (·.size) = some 2 := by rw [hi0]; simp [hz1]
  have hcell : ∀ j u, C[j]? = some u → w.cell? ⟨g, j, none⟩ = some u := fun j u hu => by
    rw [cell_of_row _ _ _ _ _ (0, 0) hh, ← Array.getElem?_toList]
    rw [← ht, List.getElem?_take] at hu
    split at hu
    · exact hu
    · cases hu
  have hold : (Builtin.firstCells i0.size i (.slice (some ⟨g, 0, none⟩) i cap)).run Tryz.prog w.drew = .ok (C.take (i * 2)).toArray w.drew := by
    rw [hz1]
    exact run_firstCells_some w.drew 2 i ⟨g, 0, none⟩ i cap (C.take (i * 2)) hPl (fun j u hu => by
      rw [Addr.add_lit, Nat.zero_add]
      rw [List.getElem?_take] at hu
      split at hu
      · exact hcell j u hu
      · cases hu)
  have hik : i + (l.length + 1 - i) = l.length + 1 := by omega
  have hkk : (l.length : Int) + 1 - (i : Int) = ((l.length + 1 - i : Nat) : Int) := by omega
  obtain ⟨G, hG⟩ : ∃ G, G = grownCap w (l.length + 1) cap 70 := ⟨_, rfl⟩
  have hGn : l.length + 1 ≤ G := by rw [hG]; exact grownCap_ge w _ _ _
  have hG63 : G ≤ maxLen := by rw [hG]; exact grownCap_le_maxLen w (l.length + 1) cap 70 (by unfold maxLen; omega)
  obtain ⟨R, hR⟩ : ∃ R : Array Value, R = (C.take (i * 2)).toArray ++ Builtin.zeroCells (Value.agg #[.string ⟨#[]⟩, .int .i64 0]).cells (l.length + 1 - i) ++ Builtin.zeroCells (Value.agg #[.string ⟨#[]⟩, .int .i64 0]).cells (G - (l.length + 1)) := ⟨_, rfl⟩
  have hRl : R.size = G * 2 := by
    rw [hR]
    simp only [Array.size_append, List.size_toArray, hPl]
    have hz : ∀ k, (Builtin.zeroCells (Value.agg #[.string ⟨#[]⟩, .int .i64 0]).cells k).size = k * 2 := fun k => by simp [Builtin.zeroCells, Value.cells]
    rw [hz, hz]; omega
  have hRll : R.toList.length = G * 2 := by rw [Array.length_toList]; exact hRl
  have hRt : R.toList.take (i * 2) = C.take (i * 2) := by
    rw [hR]; simp only [Array.toList_append, List.append_assoc]
    exact List.take_left' hPl
  have hrz : ∀ ty, (Builtin.append_ #[62, 3] ty #[.slice (some ⟨g, 0, none⟩) i cap, .int .i64 ((l.length : Int) + 1 - (i : Int))]).run Tryz.prog w =
      .ok (.slice (some ⟨w.heap.size, 0, none⟩) (l.length + 1) G) (w.alloc (.cells R 70)).drew := fun ty => by
    have h := Lib.run_append_grow_zeros (P := Tryz.prog) w 62 3 ty 70 i0 _ .i64 .i64 Tryz.underlying62 Tryz.underlying3 hi0 hz0 (some ⟨g, 0, none⟩) i cap (C.take (i * 2)) hold (l.length + 1 - i) (by omega) (by omega) (by omega) (by omega) (by rw [hz2]; omega) (by rw [hz2, hik]; exact growslice_fits hroom (by omega))
    rw [hik, ← hG, ← hR] at h
    rw [hkk]
    exact h
  obtain ⟨N1, hN1⟩ : ∃ N, N = R.toList.take (i * 2) ++ encE x ++ R.toList.drop (i * 2 + (encE x).length) := ⟨_, rfl⟩
  obtain ⟨N2, hN2⟩ : ∃ N, N = N1.take (i * 2 + 2) ++ S ++ N1.drop (i * 2 + 2 + S.length) := ⟨_, rfl⟩
  obtain ⟨l1, l2, tk⟩ := grow_row (a := i * 2) (X := encE x) hRt hPl rfl (by rw [hRll, hSl]; omega) hN1 hN2
  rw [hRll] at l1 l2
  have hrow0 : (w.alloc (.cells R 70)).drew.heap[w.heap.size]? = some (.cells R 70 (0, 0)) := heap_alloc_new w _
  have hold0 : ∀ k, k < w.heap.size → (w.alloc (.cells R 70)).drew.heap[k]? = w.heap[k]? := fun k hk => by
    show (w.heap.push _)[k]? = _
    rw [Array.getElem?_push, if_neg (by omega)]
  have hcpA : ∀ ty, (Builtin.copy_ #[62, 62] ty #[.slice (some ⟨w.heap.size, i * 2, none⟩) (l.length + 1 - i) (G - i), .slice (some ⟨vb, 0, none⟩) 1 1]).run Tryz.prog (w.alloc (.cells R 70)).drew = .ok (goInt 1) ((w.alloc (.cells R 70)).drew.setRow w.heap.size N1.toArray) := fun ty => by
    have := run_copy_rowK (P := Tryz.prog) (w.alloc (.cells R 70)).drew 62 62 ty 70 w.heap.size (i * 2) (l.length + 1 - i) (G - i) ⟨vb, 0, none⟩ 1 1 R 70 (encE x) 2 1 Tryz.underlying62 hz3 (by simp only [Nat.min_def]; split <;> omega) hrow0 rfl
      (fun j u hu => by
        rw [Addr.add_lit, cell_of_row _ _ _ _ _ (0, 0) ((hold0 vb hvw).trans hv)]
        simpa [encE] using hu)
      (by rw [hRl]; simp [encE]; omega) (fun u hu => oneE x u hu)
    rw [hN1]
    exact this
  have hrow1 : ((w.alloc (.cells R 70)).drew.setRow w.heap.size N1.toArray).drew.heap[w.heap.size]? = some (.cells N1.toArray 70 (0, 0)) := setRow_heap _ _ _ _ _ _ hrow0
  have hcpB : ∀ ty, (Builtin.copy_ #[62, 62] ty #[.slice (some ⟨w.heap.size, (i + 1) * 2, none⟩) (l.length - i) (G - (i + 1)), .slice (some ⟨g, i * 2, none⟩) (l.length - i) (cap - i)]).run Tryz.prog ((w.alloc (.cells R 70)).drew.setRow w.heap.size N1.toArray).drew = .ok (goInt ((l.length - i : Nat) : Int)) (((w.alloc (.cells R 70)).drew.setRow w.heap.size N1.toArray).drew.setRow w.heap.size N2.toArray) := fun ty => by
    have := run_copy_rowK (P := Tryz.prog) ((w.alloc (.cells R 70)).drew.setRow w.heap.size N1.toArray).drew 62 62 ty 70 w.heap.size ((i + 1) * 2) (l.length - i) (G - (i + 1)) ⟨g, i * 2, none⟩ (l.length - i) (cap - i) N1.toArray 70 S 2 (l.length - i) Tryz.underlying62 hz3 (by simp) hrow1 hSl
      (fun j u hu => by
        rw [Addr.add_lit, cell_of_row _ _ _ _ _ (0, 0) (show ((w.alloc (.cells R 70)).drew.setRow w.heap.size N1.toArray).drew.heap[g]? = some (.cells cur 70 (0, 0)) from (setRow_other (w.alloc (.cells R 70)).drew w.heap.size g _ (by omega)).trans ((hold0 g hgw).trans hh)), ← Array.getElem?_toList]
        rw [hS, List.getElem?_drop, ← ht, List.getElem?_take] at hu
        split at hu
        · exact hu
        · cases hu)
      (by simp [l1]; omega) (fun u hu => by
        rw [hS, hC] at hu
        unfold flat at hu
        obtain ⟨y, _, hy⟩ := List.mem_flatMap.1 (List.mem_of_mem_drop hu)
        exact oneE y u hy)
    rw [hN2, show i * 2 + 2 = (i + 1) * 2 by omega]
    exact this
  have hfin : Own (((w.alloc (.cells R 70)).drew.setRow w.heap.size N1.toArray).drew.setRow w.heap.size N2.toArray) base 70 2 encE (.slice (some ⟨w.heap.size, 0, none⟩) (l.length + 1) G) (l.take i ++ x :: l.drop i) := by
    have hll : (l.take i ++ x :: l.drop i).length = l.length + 1 := by simp; omega
    refine ⟨flat_length (enc := encE) (size := 2) (fun _ => rfl) _, .inr ⟨w.heap.size, G, N2.toArray, by rw [hll], hbase, setRow_heap _ _ _ _ _ _ hrow1, by rw [hll]; exact hGn, hG63, by simp [l2], ?_⟩⟩
    have e : flat encE (l.take i ++ x :: l.drop i) = flat encE (l.take i) ++ (encE x ++ flat encE (l.drop i)) := by rw [flat_append]; rfl
    rw [e, hflat.1, hflat.2, hll, show (l.length + 1) * 2 = i * 2 + 2 + S.length by rw [hSl]; omega]
    show N2.take _ = _
    rw [tk, List.append_assoc, hS]
  have hbel : Below base w (((w.alloc (.cells R 70)).drew.setRow w.heap.size N1.toArray).drew.setRow w.heap.size N2.toArray) :=
    below_setRow (below_setRow (((Below.refl base w).alloc hbase _).drew) hbase N1.toArray).drew hbase N2.toArray
  have mixed : Tryz.prog.follows .mixedOrders = true := by kernel_rfl
  have HFIN := Lib.hid hfin
  have HBEL := Lib.hid hbel
  have HCA := Lib.hid hcpA
  have HCB := Lib.hid hcpB
  have HRZ := Lib.hid hrz
  unfold maxLen at hG63
  unfold InsResE
  clear hfin hbel hcpA hcpB hrz hcell tk l2 hN2 l1 hN1 hSl hS hflat hCl hC hz3 hold hrow0 hold0 hrow1 hR hRl hRll hRt hh hv ht hkk hik hPl hG
  have hz2' : ¬ ((i : Int) = (l.length : Int)) := by omega
  have hz4 : (cap : Int) < (l.length : Int) + 1 := by omega
  have hin : i ≤ l.length := by omega
  have hb2 : ¬ (G = i + 1) := by omega
  have hb4 : ¬ (G = i) := by omega
  have hb5 : ¬ (cap = i) := by omega
  have hw1 : IntKind.i64.wrap ((i : Int) + 1) = (i : Int) + 1 := by rw [IntKind.wrap_i64]; omega
  have hw2 : IntKind.i64.wrap ((l.length : Int) + 1 - (i : Int)) = (l.length : Int) + 1 - (i : Int) := by rw [IntKind.wrap_i64]; omega
  have htn : ((i : Int) + 1).toNat = i + 1 := by omega
  have hb1 : (0 : Int) ≤ (i : Int) + 1 := by omega
  have hca := HCA.out
  go_enter Tryz.func78, Tryz.ntmps78
  go_wp2_with (at_builtin; refine Lib.wpList_append_run _ rfl _ _ _ _ rfl _ _ rfl rfl _ _ (HRZ.out _) ?_)
  go_region_law_o (refine step_copy_runI rfl _ _ 62 62 rfl (.slice (some ⟨w.heap.size, (i + 1) * 2, none⟩) (l.length - i) (G - (i + 1))) (.slice (some ⟨g, i * 2, none⟩) (l.length - i) (cap - i)) (by simp [Act.eval, Act.put]) (by simp [Act.eval, Act.put]) (HCB.out _) ?_)
  go_wp2
  go_ret
  exact ⟨_, rfl, HFIN.out, HBEL.out⟩
theorem InsertEn_any (base : Nat) (A : Option Addr) (c : Nat) (l : List En) (x : En) (i : Nat) (w : World) (vb : Nat) (hbase : base ≤ w.heap.size) (hown : Own w base 70 2 encE (.slice A l.length c) l)
    (hv : w.heap[vb]? = some (.cells #[.string x.1, .int .i64 x.2] 70 (0, 0))) (hne : ∀ g o, A = some ⟨g, o, none⟩ → vb ≠ g) (hi : i ≤ l.length) (hl : l.length ≤ 16777216) :
    Calls Tryz.prog 78 #[.slice A l.length c, .int .i64 (i : Nat), .slice (some ⟨vb, 0, none⟩) 1 1] w (InsResE base (l.take i ++ x :: l.drop i) w) := by
  by_cases e : i = l.length
  · subst e
    rw [← ins_endE]
    exact Insert_endE base _ l x w vb hbase hown hv hl
  · have h2 := hown.2
    rcases h2 with ⟨hv2, hn⟩ | ⟨g, cap, cur, hv2, hg, hh, hnc, hcm, hsz, ht⟩
    · omega
    · injection hv2 with e1 e2 e3
      subst e1 e3
      by_cases hr : l.length + 1 ≤ c
      · exact Insert_roomE base l x i w vb g c cur hbase hg hh hcm hsz ht hr hv (hne g 0 rfl) (by omega) hl
      · exact Insert_growE base l x i w vb g c cur hbase hg hh hnc ht (by omega) hv (by omega) hl
end Go.Proofs.YtokelopllbaikaaGreatDoor
