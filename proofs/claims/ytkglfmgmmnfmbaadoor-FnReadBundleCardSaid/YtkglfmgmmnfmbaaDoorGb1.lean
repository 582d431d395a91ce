/- Texts in one: Pt, Ad, Ine. -/
import Derived.Test.YtkglfmgmmnfmbaaDoorGb0
import Derived.Test.YtkglfmgmmnfmbaaDoorGa5
import Derived.Test.YtkglfmgmmnfmbaaDoorGa7
import Derived.Test.YtkglfmgmmnfmbaaDoorGa4
/- PutText of the program, walked. -/
set_option linter.unusedVariables false
namespace Go.Proofs.YtkglfmgmmnfmbaaDoor
open Go.RowKit
attribute [local go_sem] mk_toList

def PutRes (r : List Pc × Int × Bool) (w : World) (e : Ending) (w' : World) : Prop :=
  ∃ v, e = .returned (.tuple #[v, .int .i64 r.2.1, .bool r.2.2]) ∧ Own w' w.heap.size 57 2 encP v r.1 ∧ Below w.heap.size w w'
theorem InsertPc_any (base : Nat) (A : Option Addr) (c : Nat) (l : List Pc) (x : Pc) (i : Nat) (w : World) (vb : Nat) (hbase : base ≤ w.heap.size) (hown : Own w base 57 2 encP (.slice A l.length c) l)
    (hv : w.heap[vb]? = some (.cells #[.int .i64 x.1, .string x.2] 57 (0, 0))) (hne : ∀ g o, A = some ⟨g, o, none⟩ → vb ≠ g) (hi : i ≤ l.length) (hl : l.length ≤ 16777216) :
    Calls Tryd.prog 56 #[.slice A l.length c, .int .i64 (i : Nat), .slice (some ⟨vb, 0, none⟩) 1 1] w (InsRes base (l.take i ++ x :: l.drop i) w) := by
  by_cases e : i = l.length
  · subst e
    rw [← ins_end]
    exact Insert_end base _ l x w vb hbase hown hv hl
  · have h2 := hown.2
    rcases h2 with ⟨hv2, hn⟩ | ⟨g, cap, cur, hv2, hg, hh, hnc, hcm, hsz, ht⟩
    · omega
    · injection hv2 with e1 e2 e3
      subst e1 e3
      by_cases hr : l.length + 1 ≤ c
      · exact Insert_room base l x i w vb g c cur hbase hg hh hcm hsz ht hr hv (hne g 0 rfl) (by omega) hl
      · exact Insert_grow base l x i w vb g c cur hbase hg hh hnc ht (by omega) hv (by omega) hl
theorem Below_of_alloc2 {w2 w3 w4 : World} {x : Obj} (h3 : Below w2.heap.size w2 w3) (h4 : Below w2.heap.size (w3.alloc x) w4) : Below w2.heap.size w2 w4 := (h3.alloc h3.size x).trans h4
theorem ins_call {l : List Pc} {x : Pc} {B : Nat} {w0 w2 w3 : World} {X : Option Addr} {d : Nat} (hb2 : Below w0.heap.size w0 w2) (hown3 : Own w3 w2.heap.size 57 2 encP (.slice X l.length d) l) (hb3 : Below w2.heap.size w2 w3) (hB : B ≤ l.length) (hl : l.length ≤ 16777216) :
    Calls Tryd.prog 56 #[.slice X l.length d, .int .i64 (B : Nat), .slice (some ⟨w3.heap.size, 0, none⟩) 1 1] (w3.alloc (.cells #[.int .i64 x.1, .string x.2] 57)) fun e w' => ∃ v', e = .returned v' ∧ Own w' w0.heap.size 57 2 encP v' (l.take B ++ x :: l.drop B) ∧ Below w0.heap.size w0 w' :=
  (InsertPc_any w2.heap.size X d l x B _ w3.heap.size (Nat.le_trans hb3.size (by simp)) (hown3.alloc _) (heap_alloc_new w3 _) (by
    rintro g o rfl
    have := hown3.blk g rfl
    omega) hB hl).mono fun e w' ⟨v', he, ho, hb⟩ => ⟨v', he, ho.mono hb2.size, Below_then hb2 (Below_of_alloc2 hb3 hb) (Nat.le_refl _)⟩
set_option maxHeartbeats 1000000 in
set_option maxRecDepth 100000 in
theorem iPutText_any (A : Option Addr) (c : Nat) (l : List Pc) (t : ByteArray) (w : World) (hs : Sl w encP 2 A l) (hcz : A = none → c = 0) (hl : l.length ≤ 16777216) (hf : FitP l) (ht : t.size ≤ 16777216) :
    Calls Tryd.prog 29 #[.slice A l.length c, .string t] w (PutRes (putT l t) w) := by
  have HS := Lib.hid hs
  have HCZ := Lib.hid hcz
  have hsv := fun w h => iStoreValid_any A c l w h hl hf
  have HCL := Lib.hid (fun w h => ClonePc_any A c l w h HCZ.out hl)
  have hTV := fun w => iTextValid_any t w ht
  unfold OwnRes at HCL
  cases hv : storeV l
  case false =>
    have E := Lib.hid (putT_bad (t := t) hv)
    rw [hv] at hsv
    have HSV := Lib.hid hsv
    clear hsv hs hcz hTV
    rw [E.out]
    unfold PutRes
    go_enter Tryd.func29, Tryd.ntmps29
    go_wp2_with fail
    refine (HSV.out _ HS.out).mono ?_
    rintro e w1 ⟨rfl, hb⟩
    have HB := Lib.hid hb
    clear hb
    go_wp2
    go_ret3
    exact ⟨_, rfl, Own.nil, HB.out⟩
  case true =>
    rw [hv] at hsv
    have HSV := Lib.hid hsv
    clear hsv hs hcz
    cases htv : textV (bs t)
    case false =>
      have E := Lib.hid (putT_text (t := t) hv htv)
      rw [htv] at hTV
      have HTV := Lib.hid hTV
      clear hTV
      rw [E.out]
      unfold PutRes
      go_enter Tryd.func29, Tryd.ntmps29
      go_wp2_with (first
        | (go_at_call 13; refine (HSV.out _ HS.out).mono ?_; rintro e w1 ⟨rfl, hb⟩; have HB1 := Lib.hid hb; have HS1 := Lib.hid (HS.out.below hb); clear hb)
        | (go_at_call 33; refine (HTV.out _).mono ?_; rintro e w' ⟨rfl, rfl⟩)
        | (go_at_call 54; refine (HCL.out _ HS1.out).mono ?_; rintro e w2 ⟨v2, rfl, hown2, hb2⟩; have HW2 := Lib.hid hown2; have HB2 := Lib.hid (Below_then HB1.out hb2 (Nat.le_refl _)); clear hown2 hb2))
      go_ret3
      exact ⟨_, rfl, HW2.out.mono HB1.out.size, HB2.out⟩
    case true =>
      rw [htv] at hTV
      have HTV := Lib.hid hTV
      have hPO := fun w => iPrintOf_any t w ht
      have HFP := Lib.hid (fun w h => findPiece_any A c l (prOf (bs t)) w h hl (storeV_sorted hv))
      have hgh := getT_here (storeV_sorted hv) (p := prOf (bs t))
      have hbl := below_le l (prOf (bs t))
      have hl40 := storeV_len hv
      have H0 := Lib.hid (putT_there hv htv)
      have H1 := Lib.hid (fun u => putT_clash (u := u) hv htv)
      have H2 := Lib.hid (putT_full hv htv)
      have H3 := Lib.hid (putT_new hv htv)
      unfold FpRes at HFP
      unfold tx at H0 H1 H2 H3
      generalize prOf (bs t) = p at *
      have HPO := Lib.hid hPO
      clear hTV hPO
      cases hh : hereP l p
      case true =>
        rw [hh, if_pos rfl] at hgh
        have hlt : below l p < l.length := by unfold hereP at hh; simp at hh; exact hh.1
        rw [getD_pc hlt] at hgh
        rw [hh] at HFP
        have HG := Lib.hid (fun (w : World) (h : Sl w encP 2 A l) => h.getP hlt)
        generalize l[below l p] = q at *
        obtain ⟨q0, u⟩ := q
        simp only at *
        generalize below l p = B at *
        obtain ⟨b, o, rfl, _, _⟩ := HG.out w HS.out
        by_cases hu : u = t
        case pos =>
          have E := Lib.hid (H0.out (by rw [hgh, hu]))
          clear H0 H1 H2 H3
          subst hu
          rw [E.out]
          unfold PutRes
          go_enter Tryd.func29, Tryd.ntmps29
          go_wp2_with (first
            | (go_at_call 13; refine (HSV.out _ HS.out).mono ?_; rintro e w1 ⟨rfl, hb⟩; have HB1 := Lib.hid hb; have HS1 := Lib.hid (HS.out.below hb); clear hb)
            | (go_at_call 33; refine (HTV.out _).mono ?_; rintro e w' ⟨rfl, rfl⟩)
            | (go_at_call 34; refine (HPO.out _).mono ?_; rintro e w' ⟨rfl, rfl⟩)
            | (go_at_call 55; refine (HFP.out _ HS1.out).mono ?_; rintro e w2 ⟨rfl, hb2⟩; have HB2 := Lib.hid (Below_then HB1.out hb2 (Nat.le_refl _)); have HS2 := Lib.hid (HS1.out.below hb2); obtain ⟨b', o', e', hc0, hc1⟩ := HG.out _ HS2.out; have hbb : b' = b ∧ o' = o := (by injection e' with e'; injection e' with e1 e2; exact ⟨e1.symm, e2.symm⟩); obtain ⟨rfl, rfl⟩ := hbb; clear hb2 e')
            | (go_at_call 54; refine (HCL.out _ HS2.out).mono ?_; rintro e w3 ⟨v3, rfl, hown3, hb3⟩; have HW3 := Lib.hid hown3; have HB3 := Lib.hid (Below_then HB2.out hb3 (Nat.le_refl _));  clear hown3 hb3))
          go_ret3
          exact ⟨_, rfl, HW3.out.mono HB2.out.size, HB3.out⟩
        case neg =>
          have E := Lib.hid (H1.out u hgh hu)
          clear H0 H1 H2 H3
          have hne : (u.toList == t.toList) = false := by
            rw [ByteArray.toList_eq, ByteArray.toList_eq]
            rw [beq_eq_false_iff_ne]; intro e
            apply hu
            rw [← mk_bs u, ← mk_bs t, e]
          rw [E.out]
          unfold PutRes
          go_enter Tryd.func29, Tryd.ntmps29
          go_wp2_with (first
            | (go_at_call 13; refine (HSV.out _ HS.out).mono ?_; rintro e w1 ⟨rfl, hb⟩; have HB1 := Lib.hid hb; have HS1 := Lib.hid (HS.out.below hb); clear hb)
            | (go_at_call 33; refine (HTV.out _).mono ?_; rintro e w' ⟨rfl, rfl⟩)
            | (go_at_call 34; refine (HPO.out _).mono ?_; rintro e w' ⟨rfl, rfl⟩)
            | (go_at_call 55; refine (HFP.out _ HS1.out).mono ?_; rintro e w2 ⟨rfl, hb2⟩; have HB2 := Lib.hid (Below_then HB1.out hb2 (Nat.le_refl _)); have HS2 := Lib.hid (HS1.out.below hb2); obtain ⟨b', o', e', hc0, hc1⟩ := HG.out _ HS2.out; have hbb : b' = b ∧ o' = o := (by injection e' with e'; injection e' with e1 e2; exact ⟨e1.symm, e2.symm⟩); obtain ⟨rfl, rfl⟩ := hbb; clear hb2 e')
            | (go_at_call 54; refine (HCL.out _ HS2.out).mono ?_; rintro e w3 ⟨v3, rfl, hown3, hb3⟩; have HW3 := Lib.hid hown3; have HB3 := Lib.hid (Below_then HB2.out hb3 (Nat.le_refl _));  clear hown3 hb3))
          go_ret3
          exact ⟨_, rfl, HW3.out.mono HB2.out.size, HB3.out⟩
      case false =>
        rw [hh, if_neg (by simp)] at hgh
        rw [hh] at HFP
        by_cases h40 : l.length = 40
        case pos =>
          have E := Lib.hid (H2.out hgh h40)
          clear H0 H1 H2 H3
          rw [E.out]
          have h40' : (l.length : Int) = 40 := by omega
          generalize below l p = B at *
          clear hbl hl40 hv hh hgh h40
          unfold PutRes
          go_enter Tryd.func29, Tryd.ntmps29
          go_wp2_with (first
            | (go_at_call 13; refine (HSV.out _ HS.out).mono ?_; rintro e w1 ⟨rfl, hb⟩; have HB1 := Lib.hid hb; have HS1 := Lib.hid (HS.out.below hb); clear hb)
            | (go_at_call 33; refine (HTV.out _).mono ?_; rintro e w' ⟨rfl, rfl⟩)
            | (go_at_call 34; refine (HPO.out _).mono ?_; rintro e w' ⟨rfl, rfl⟩)
            | (go_at_call 55; refine (HFP.out _ HS1.out).mono ?_; rintro e w2 ⟨rfl, hb2⟩; have HB2 := Lib.hid (Below_then HB1.out hb2 (Nat.le_refl _)); have HS2 := Lib.hid (HS1.out.below hb2); clear hb2)
            | (go_at_call 54; refine (HCL.out _ HS2.out).mono ?_; rintro e w3 ⟨v3, rfl, hown3, hb3⟩; have HW3 := Lib.hid hown3; have HB3 := Lib.hid (Below_then HB2.out hb3 (Nat.le_refl _));  clear hown3 hb3))
          go_ret3
          exact ⟨_, rfl, HW3.out.mono HB2.out.size, HB3.out⟩
        case neg =>
          have E := Lib.hid (H3.out hgh h40)
          clear H0 H1 H2 H3
          rw [E.out]
          have h40' : ¬ (l.length : Int) = 40 := by omega
          generalize below l p = B at *
          clear hv hh hgh
          unfold PutRes
          go_enter Tryd.func29, Tryd.ntmps29
          go_wp2_with (first
            | (go_at_call 13; refine (HSV.out _ HS.out).mono ?_; rintro e w1 ⟨rfl, hb⟩; have HB1 := Lib.hid hb; have HS1 := Lib.hid (HS.out.below hb); clear hb)
            | (go_at_call 33; refine (HTV.out _).mono ?_; rintro e w' ⟨rfl, rfl⟩)
            | (go_at_call 34; refine (HPO.out _).mono ?_; rintro e w' ⟨rfl, rfl⟩)
            | (go_at_call 55; refine (HFP.out _ HS1.out).mono ?_; rintro e w2 ⟨rfl, hb2⟩; have HB2 := Lib.hid (Below_then HB1.out hb2 (Nat.le_refl _)); have HS2 := Lib.hid (HS1.out.below hb2); clear hb2)
            | (go_at_call 54; refine (HCL.out _ HS2.out).mono ?_; rintro e w3 ⟨v3, rfl, hown3, hb3⟩; have HW3 := Lib.hid hown3; have HB3 := Lib.hid (Below_then HB2.out hb3 (Nat.le_refl _)); obtain ⟨X, d3, rfl, _, _, hX3⟩ := hown3.sl; have hb3z := Lib.hid hb3.size; have hb3y := Lib.hid hb3; clear hown3 hb3)
            | (go_at_call 56; refine (ins_call (x := (p, t)) HB2.out HW3.out hb3y.out hbl hl).mono ?_; rintro e w4 ⟨v4, rfl, hown4, hb4⟩; have HW4 := Lib.hid hown4; have HB4 := Lib.hid hb4; clear hown4 hb4))
          go_ret3
          exact ⟨_, rfl, HW4.out, HB4.out⟩
end Go.Proofs.YtkglfmgmmnfmbaaDoor

/- AddVersion of the reference, told exactly. Written by gen_ad.py. -/
set_option linter.unusedVariables false
namespace Go.Proofs.YtkglfmgmmnfmbaaDoor
open Go.RowKit
theorem addV_none {l : List Vr} {y : Vr} (h : versV l = false) : addV l y = ([], false) := by unfold addV; rw [h]; rfl
theorem addV_same {l : List Vr} {y : Vr} (h : versV l = true) (h2 : versV (l ++ [y]) = false) : addV l y = (l, false) := by unfold addV; rw [h, h2]; rfl
theorem addV_more {l : List Vr} {y : Vr} (h : versV l = true) (h2 : versV (l ++ [y]) = true) : addV l y = (l ++ [y], true) := by unfold addV; rw [h, h2]; rfl
def AddX (l : List Vr) (y : Vr) (w : World) (e : Ending) (w' : World) : Prop :=
  ∃ v, e = .returned (.tuple #[v, .bool (addV l y).2]) ∧ Own w' w.heap.size 45 3 encV v (addV l y).1 ∧ Below w.heap.size w w'
set_option maxHeartbeats 4000000 in
set_option maxRecDepth 100000 in
theorem sAddX_any (A : Option Addr) (c : Nat) (l : List Vr) (y : Vr) (w : World) (hs : Sl w encV 3 A l) (hcz : A = none → c = 0) (hl : l.length ≤ 16777215) (hf : FitV l) (hy : y.2.2.size ≤ 16777216) :
    Calls Tryd.prog 61 #[.slice A l.length c, .agg #[.int .i64 y.1, .int .i64 y.2.1, .string y.2.2]] w (AddX l y w) := by
  have HS := Lib.hid hs
  have HF := Lib.hid hf
  have HC := Lib.hid hcz
  have HL := Lib.hid (show l.length ≤ 16777216 by omega)
  have HLEN := Lib.hid (show (l ++ [y]).length = l.length + 1 by simp)
  clear hs hf hcz
  have hV : ∀ w, Sl w encV 3 A l → Calls Tryd.prog 19 #[.slice A l.length c] w fun e w' => e = .returned (.bool (versV l)) ∧ Below w.heap.size w w' := fun w h => by
    first
      | exact sVersionsValid_any A c l w h (by omega) HF.out
      | exact (sVersionsValid_any A c l w h (by omega) HF.out).mono fun _ _ ⟨h1, h2⟩ => ⟨h1, h2 ▸ Below.refl _ _⟩
  have hf2 : FitV (l ++ [y]) := fun p hp => by
    rw [List.mem_append, List.mem_singleton] at hp
    rcases hp with hp | rfl
    · exact HF.out p hp
    · exact hy
  have hV2 : ∀ A c w, Sl w encV 3 A (l ++ [y]) → Calls Tryd.prog 19 #[.slice A (l ++ [y]).length c] w fun e w' => e = .returned (.bool (versV (l ++ [y]))) ∧ Below w.heap.size w w' := fun A c w h => by
    first
      | exact sVersionsValid_any A c (l ++ [y]) w h (by simp; omega) hf2
      | exact (sVersionsValid_any A c (l ++ [y]) w h (by simp; omega) hf2).mono fun _ _ ⟨h1, h2⟩ => ⟨h1, h2 ▸ Below.refl _ _⟩
  rw [HLEN.out] at hV2
  cases hv : versV l
  · have HE := Lib.hid (addV_none (y := y) hv)
    rw [hv] at hV
    have HV := Lib.hid hV
    clear hV hv hV2 hf2
    go_enter Tryd.func61, Tryd.ntmps61
    go_wp2_with fail
    refine (HV.out _ (HS.out.alloc _)).mono ?_
    rintro e w1 ⟨rfl, hb1⟩
    have HB1 := Lib.hid (Below_of_alloc hb1)
    clear hb1
    go_wp2
    go_ret2
    unfold AddX
    rw [HE.out]
    exact ⟨_, rfl, Own.made HB1.out.size, HB1.out.alloc HB1.out.size _⟩
  · rw [hv] at hV
    have HV := Lib.hid hV
    have HEN := Lib.hid (fun h => addV_same (y := y) hv h)
    have HEY := Lib.hid (fun h => addV_more (y := y) hv h)
    cases hv2 : versV (l ++ [y])
    all_goals
      rw [hv2] at hV2
      have HV2 := Lib.hid hV2
      have HVV := Lib.hid hv2
      clear hV hv hV2 hv2 hf2
      go_enter Tryd.func61, Tryd.ntmps61
      go_wp2_with fail
      refine (HV.out _ (HS.out.alloc _)).mono ?_
      rintro e w1 ⟨rfl, hb1⟩
      have hz1 : w.heap.size < w1.heap.size := by have := hb1.size; simp at this; omega
      have HK := Lib.hid (show w1.cell? ⟨w.heap.size, 0, none⟩ = some (.int .i64 y.1) ∧ w1.cell? ⟨w.heap.size, 1, none⟩ = some (.int .i64 y.2.1) ∧ w1.cell? ⟨w.heap.size, 2, none⟩ = some (.string y.2.2) from ⟨box_cell hb1 0 rfl, box_cell hb1 1 rfl, box_cell hb1 2 rfl⟩)
      have HB1 := Lib.hid (Below_of_alloc hb1)
      have HS1 := Lib.hid (HS.out.below HB1.out)
      have HS2 := Lib.hid (HS1.out.below ((Below.refl _ _).drew))
      have HD := Lib.hid (Below.refl w1.heap.size w1).drew
      have HD1 := Lib.hid ((Below.refl w1.heap.size w1).alloc (Nat.le_refl _) (.cells #[] 45)).drew
      have HZ := Lib.hid (show w1.heap.size < (w1.alloc (.cells #[] 45)).heap.size by simp)
      have HZ2 := Lib.hid (show w1.heap.size < (w1.alloc (.cells #[.int .i64 y.1, .int .i64 y.2.1, .string y.2.2] 45)).heap.size by simp)
      clear hb1
      go_wp2_with fail
      go_region_held3 (fun w' => w'.cell? ⟨w.heap.size, 0, none⟩ = some (.int .i64 y.1) ∧ w'.cell? ⟨w.heap.size, 1, none⟩ = some (.int .i64 y.2.1) ∧ w'.cell? ⟨w.heap.size, 2, none⟩ = some (.string y.2.2))
        (first | assumption | exact HK.out | exact keep3 HD.out HK.out | exact keep3 HD1.out HK.out | exact keep3 HB3.out HK.out | exact keep3 HB2.out HK.out | exact keep3 (HB2.out.alloc HB2.out.size _) HK.out | exact keep3 ((Below.refl _ _).alloc (Nat.le_refl _) _).drew HK.out | exact keep3 (((Below.refl _ _).alloc (Nat.le_refl _) _).alloc (Nat.le_of_lt HZ.out) _).drew HK.out | exact keep3 (((Below.refl _ _).alloc (Nat.le_refl _) _).alloc (Nat.le_of_lt HZ2.out) _).drew HK.out)
        ((first
          | (refine step_vr_a HS1.out HC.out HL.out rfl rfl (by rfl) (by rfl) ?_; intro v2 w2 hown2 hb2; have HW2 := Lib.hid (hown2.alloc (rowV y)); have HB2 := Lib.hid hb2; have HBR := Lib.hid (hb2.alloc hb2.size (rowV y)); have HR := Lib.hid (RowAt.new w2 y); clear hown2 hb2)
          | (refine step_vr_b (y := y) HS1.out HC.out HL.out rfl rfl (by rfl) (by rfl) ?_; intro v2 w2 hown2 hb2 hr2; have HW2 := Lib.hid hown2; have HB2 := Lib.hid hb2; have HBR := HB2; have HR := Lib.hid hr2; clear hown2 hb2 hr2)
          | (refine step_vr_c (y := y) HS1.out HC.out HL.out rfl rfl (by rfl) (by rfl) ?_; intro v2 w2 hown2 hb2 hr2; have HW2 := Lib.hid hown2; have HB2 := Lib.hid hb2; have HBR := HB2; have HR := Lib.hid hr2; clear hown2 hb2 hr2)
          | (refine step_vr_d HW2.out HBR.out HR.out HL.out rfl rfl (by rfl) (by rfl) ?_; intro v3 w3 hown3 hb3; have HW3 := Lib.hid hown3; have HB3 := Lib.hid hb3; clear hown3 hb3)))
      all_goals
        obtain ⟨X, d, ev, _, _, _⟩ := HW3.out.sl
        rw [HLEN.out] at ev
        subst ev
        have HBB := Lib.hid (Below_then HB1.out HB3.out (Nat.le_refl _))
        go_wp2_with fail
        refine (HV2.out _ _ _ HW3.out.sl').mono ?_
        rintro e w4 ⟨rfl, hb4⟩
        have HW4 := Lib.hid (HW3.out.below hb4)
        have HB4 := Lib.hid (Below_then HBB.out hb4 (Nat.le_refl _))
        have HS4 := Lib.hid (HS.out.below HB4.out)
        clear hb4
        go_wp2_with (at_builtin; refine app_vrN (w0 := w4) (l := []) rfl rfl (Own.made (Nat.le_refl _)) ((Below.refl _ _).alloc (Nat.le_refl _) _) (by simp; omega) (HS4.out.alloc _) HC.out (by rfl) (by rfl) ?_; intro v5 w5 hown5 hb5 hg5; have HW5 := Lib.hid hown5; have HB5 := Lib.hid hb5; clear hown5 hb5 hg5)
        go_ret2
        unfold AddX
        first
          | (rw [HEN.out HVV.out]; exact ⟨_, rfl, HW5.out.mono HB4.out.size, Below_then HB4.out HB5.out (Nat.le_refl _)⟩)
          | (rw [HEY.out HVV.out]; exact ⟨_, rfl, HW4.out.mono HB1.out.size, HB4.out⟩)
end Go.Proofs.YtkglfmgmmnfmbaaDoor

/- slices.Insert of one entry into a row of the call's own, walked. Written by gen_ine.py. -/
set_option linter.unusedVariables false
namespace Go.Proofs.YtkglfmgmmnfmbaaDoor
open Go.RowKit

end Go.Proofs.YtkglfmgmmnfmbaaDoor
