/- PutText of the program, walked. -/
import Derived.Test.YtedcgbmdfmgcgaaGreatDoorIn
import Derived.Test.YtedcgbmdfmgcgaaGreatDoorBs
import Derived.Test.YtedcgbmdfmgcgaaGreatDoorGa1
set_option linter.unusedVariables false
namespace Go.Proofs.YtedcgbmdfmgcgaaGreatDoor
open Go.RowKit
attribute [local go_sem] mk_toList

def PutRes (r : List Pc × Int × Bool) (w : World) (e : Ending) (w' : World) : Prop :=
  ∃ v, e = .returned (.tuple #[v, .int .i64 r.2.1, .bool r.2.2]) ∧ Own w' w.heap.size 83 2 encP v r.1 ∧ Below w.heap.size w w'
theorem InsertPc_any (base : Nat) (A : Option Addr) (c : Nat) (l : List Pc) (x : Pc) (i : Nat) (w : World) (vb : Nat) (hbase : base ≤ w.heap.size) (hown : Own w base 83 2 encP (.slice A l.length c) l)
    (hv : w.heap[vb]? = some (.cells #[.int .i64 x.1, .string x.2] 83 (0, 0))) (hne : ∀ g o, A = some ⟨g, o, none⟩ → vb ≠ g) (hi : i ≤ l.length) (hl : l.length ≤ 16777216) :
    Calls Tryz.prog 102 #[.slice A l.length c, .int .i64 (i : Nat), .slice (some ⟨vb, 0, none⟩) 1 1] w (InsRes base (l.take i ++ x :: l.drop i) w) := by
  by_cases e : i = l.length
  · subst e
    rw [← ins_end]
    exact Insert_end base _ l x w vb hbase hown hv hl
  · have h2 := hown.2
    rcases h2 with ⟨hv2, hn⟩ | ⟨g, cap, cur, hv2, hg, hh, hnc, hcm, hsz, ht⟩
    · omega
    · injection hv2 with e1 e2 e3
      subst e1 e3
      by_cases hr : l.length + 1 ≤ c
      · exact Insert_room base l x i w vb g c cur hbase hg hh hcm hsz ht hr hv (hne g 0 rfl) (by omega) hl
      · exact Insert_grow base l x i w vb g c cur hbase hg hh hnc ht (by omega) hv (by omega) hl
theorem Below_of_alloc2 {w2 w3 w4 : World} {x : Obj} (h3 : Below w2.heap.size w2 w3) (h4 : Below w2.heap.size (w3.alloc x) w4) : Below w2.heap.size w2 w4 := (h3.alloc h3.size x).trans h4
theorem ins_call {l : List Pc} {x : Pc} {B : Nat} {w0 w2 w3 : World} {X : Option Addr} {d : Nat} (hb2 : Below w0.heap.size w0 w2) (hown3 : Own w3 w2.heap.size 83 2 encP (.slice X l.length d) l) (hb3 : Below w2.heap.size w2 w3) (hB : B ≤ l.length) (hl : l.length ≤ 16777216) :
    Calls Tryz.prog 102 #[.slice X l.length d, .int .i64 (B : Nat), .slice (some ⟨w3.heap.size, 0, none⟩) 1 1] (w3.alloc (.cells #[.int .i64 x.1, .string x.2] 83)) fun e w' => ∃ v', e = .returned v' ∧ Own w' w0.heap.size 83 2 encP v' (l.take B ++ x :: l.drop B) ∧ Below w0.heap.size w0 w' :=
  (InsertPc_any w2.heap.size X d l x B _ w3.heap.size (Nat.le_trans hb3.size (by simp)) (hown3.alloc _) (heap_alloc_new w3 _) (by
    rintro g o rfl
    have := hown3.blk g rfl
    omega) hB hl).mono fun e w' ⟨v', he, ho, hb⟩ => ⟨v', he, ho.mono hb2.size, Below_then hb2 (Below_of_alloc2 hb3 hb) (Nat.le_refl _)⟩
set_option maxHeartbeats 1000000 in
set_option maxRecDepth 100000 in
theorem iPutText_any (A : Option Addr) (c : Nat) (l : List Pc) (t : ByteArray) (w : World) (hs : Sl w encP 2 A l) (hcz : A = none → c = 0) (hl : l.length ≤ 16777216) (hf : FitP l) (ht : t.size ≤ 16777216) :
    Calls Tryz.prog 65 #[.slice A l.length c, .string t] w (PutRes (putT l t) w) := by
  have HS := Lib.hid hs
  have HCZ := Lib.hid hcz
  have hsv := fun w h => iStoreValid_any A c l w h hl hf
  have HCL := Lib.hid (fun w h => ClonePc_any A c l w h HCZ.out hl)
  have hTV := fun w => iTextValid_any t w ht
  unfold OwnRes at HCL
  cases hv : storeV l
  case false =>
    have E := Lib.hid (putT_bad (t := t) hv)
    rw [hv] at hsv
    have HSV := Lib.hid hsv
    clear hsv hs hcz hTV
    rw [E.out]
    unfold PutRes
    go_enter Tryz.func65, Tryz.ntmps65
    go_wp2_with fail
    refine (HSV.out _ HS.out).mono ?_
    rintro e w1 ⟨rfl, hb⟩
    have HB := Lib.hid hb
    clear hb
    go_wp2
    go_ret3
    exact ⟨_, rfl, Own.nil, HB.out⟩
  case true =>
    rw [hv] at hsv
    have HSV := Lib.hid hsv
    clear hsv hs hcz
    cases htv : textV (bs t)
    case false =>
      have E := Lib.hid (putT_text (t := t) hv htv)
      rw [htv] at hTV
      have HTV := Lib.hid hTV
      clear hTV
      rw [E.out]
      unfold PutRes
      go_enter Tryz.func65, Tryz.ntmps65
      go_wp2_with (first
        | (go_at_call 29; refine (HSV.out _ HS.out).mono ?_; rintro e w1 ⟨rfl, hb⟩; have HB1 := Lib.hid hb; have HS1 := Lib.hid (HS.out.below hb); clear hb)
        | (go_at_call 60; refine (HTV.out _).mono ?_; rintro e w' ⟨rfl, rfl⟩)
        | (go_at_call 64; refine (HCL.out _ HS1.out).mono ?_; rintro e w2 ⟨v2, rfl, hown2, hb2⟩; have HW2 := Lib.hid hown2; have HB2 := Lib.hid (Below_then HB1.out hb2 (Nat.le_refl _)); clear hown2 hb2))
      go_ret3
      exact ⟨_, rfl, HW2.out.mono HB1.out.size, HB2.out⟩
    case true =>
      rw [htv] at hTV
      have HTV := Lib.hid hTV
      have hPO := fun w => iPrintOf_any t w ht
      have HFP := Lib.hid (fun w h => findPiece_any A c l (prOf (bs t)) w h hl (storeV_sorted hv))
      have hgh := getT_here (storeV_sorted hv) (p := prOf (bs t))
      have hbl := below_le l (prOf (bs t))
      have hl40 := storeV_len hv
      have H0 := Lib.hid (putT_there hv htv)
      have H1 := Lib.hid (fun u => putT_clash (u := u) hv htv)
      have H2 := Lib.hid (putT_full hv htv)
      have H3 := Lib.hid (putT_new hv htv)
      unfold FpRes at HFP
      unfold tx at H0 H1 H2 H3
      generalize prOf (bs t) = p at *
      have HPO := Lib.hid hPO
      clear hTV hPO
      cases hh : hereP l p
      case true =>
        rw [hh, if_pos rfl] at hgh
        have hlt : below l p < l.length := by unfold hereP at hh; simp at hh; exact hh.1
        rw [getD_pc hlt] at hgh
        rw [hh] at HFP
        have HG := Lib.hid (fun (w : World) (h : Sl w encP 2 A l) => h.getP hlt)
        generalize l[below l p] = q at *
        obtain ⟨q0, u⟩ := q
        simp only at *
        generalize below l p = B at *
        obtain ⟨b, o, rfl, _, _⟩ := HG.out w HS.out
        by_cases hu : u = t
        case pos =>
          have E := Lib.hid (H0.out (by rw [hgh, hu]))
          clear H0 H1 H2 H3
          subst hu
          rw [E.out]
          unfold PutRes
          go_enter Tryz.func65, Tryz.ntmps65
          go_wp2_with (first
            | (go_at_call 29; refine (HSV.out _ HS.out).mono ?_; rintro e w1 ⟨rfl, hb⟩; have HB1 := Lib.hid hb; have HS1 := Lib.hid (HS.out.below hb); clear hb)
            | (go_at_call 60; refine (HTV.out _).mono ?_; rintro e w' ⟨rfl, rfl⟩)
            | (go_at_call 61; refine (HPO.out _).mono ?_; rintro e w' ⟨rfl, rfl⟩)
            | (go_at_call 101; refine (HFP.out _ HS1.out).mono ?_; rintro e w2 ⟨rfl, hb2⟩; have HB2 := Lib.hid (Below_then HB1.out hb2 (Nat.le_refl _)); have HS2 := Lib.hid (HS1.out.below hb2); obtain ⟨b', o', e', hc0, hc1⟩ := HG.out _ HS2.out; have hbb : b' = b ∧ o' = o := (by injection e' with e'; injection e' with e1 e2; exact ⟨e1.symm, e2.symm⟩); obtain ⟨rfl, rfl⟩ := hbb; clear hb2 e')
            | (go_at_call 64; refine (HCL.out _ HS2.out).mono ?_; rintro e w3 ⟨v3, rfl, hown3, hb3⟩; have HW3 := Lib.hid hown3; have HB3 := Lib.hid (Below_then HB2.out hb3 (Nat.le_refl _));  clear hown3 hb3))
          go_ret3
          exact ⟨_, rfl, HW3.out.mono HB2.out.size, HB3.out⟩
        case neg =>
          have E := Lib.hid (H1.out u hgh hu)
          clear H0 H1 H2 H3
          have hne : (u.toList == t.toList) = false := by
            rw [ByteArray.toList_eq, ByteArray.toList_eq]
            rw [beq_eq_false_iff_ne]; intro e
            apply hu
            rw [← mk_bs u, ← mk_bs t, e]
          rw [E.out]
          unfold PutRes
          go_enter Tryz.func65, Tryz.ntmps65
          go_wp2_with (first
            | (go_at_call 29; refine (HSV.out _ HS.out).mono ?_; rintro e w1 ⟨rfl, hb⟩; have HB1 := Lib.hid hb; have HS1 := Lib.hid (HS.out.below hb); clear hb)
            | (go_at_call 60; refine (HTV.out _).mono ?_; rintro e w' ⟨rfl, rfl⟩)
            | (go_at_call 61; refine (HPO.out _).mono ?_; rintro e w' ⟨rfl, rfl⟩)
            | (go_at_call 101; refine (HFP.out _ HS1.out).mono ?_; rintro e w2 ⟨rfl, hb2⟩; have HB2 := Lib.hid (Below_then HB1.out hb2 (Nat.le_refl _)); have HS2 := Lib.hid (HS1.out.below hb2); obtain ⟨b', o', e', hc0, hc1⟩ := HG.out _ HS2.out; have hbb : b' = b ∧ o' = o := (by injection e' with e'; injection e' with e1 e2; exact ⟨e1.symm, e2.symm⟩); obtain ⟨rfl, rfl⟩ := hbb; clear hb2 e')
            | (go_at_call 64; refine (HCL.out _ HS2.out).mono ?_; rintro e w3 ⟨v3, rfl, hown3, hb3⟩; have HW3 := Lib.hid hown3; have HB3 := Lib.hid (Below_then HB2.out hb3 (Nat.le_refl _));  clear hown3 hb3))
          go_ret3
          exact ⟨_, rfl, HW3.out.mono HB2.out.size, HB3.out⟩
      case false =>
        rw [hh, if_neg (by simp)] at hgh
        rw [hh] at HFP
        by_cases h40 : l.length = 40
        case pos =>
          have E := Lib.hid (H2.out hgh h40)
          clear H0 H1 H2 H3
          rw [E.out]
          have h40' : (l.length : Int) = 40 := by omega
          generalize below l p = B at *
          clear hbl hl40 hv hh hgh h40
          unfold PutRes
          go_enter Tryz.func65, Tryz.ntmps65
          go_wp2_with (first
            | (go_at_call 29; refine (HSV.out _ HS.out).mono ?_; rintro e w1 ⟨rfl, hb⟩; have HB1 := Lib.hid hb; have HS1 := Lib.hid (HS.out.below hb); clear hb)
            | (go_at_call 60; refine (HTV.out _).mono ?_; rintro e w' ⟨rfl, rfl⟩)
            | (go_at_call 61; refine (HPO.out _).mono ?_; rintro e w' ⟨rfl, rfl⟩)
            | (go_at_call 101; refine (HFP.out _ HS1.out).mono ?_; rintro e w2 ⟨rfl, hb2⟩; have HB2 := Lib.hid (Below_then HB1.out hb2 (Nat.le_refl _)); have HS2 := Lib.hid (HS1.out.below hb2); clear hb2)
            | (go_at_call 64; refine (HCL.out _ HS2.out).mono ?_; rintro e w3 ⟨v3, rfl, hown3, hb3⟩; have HW3 := Lib.hid hown3; have HB3 := Lib.hid (Below_then HB2.out hb3 (Nat.le_refl _));  clear hown3 hb3))
          go_ret3
          exact ⟨_, rfl, HW3.out.mono HB2.out.size, HB3.out⟩
        case neg =>
          have E := Lib.hid (H3.out hgh h40)
          clear H0 H1 H2 H3
          rw [E.out]
          have h40' : ¬ (l.length : Int) = 40 := by omega
          generalize below l p = B at *
          clear hv hh hgh
          unfold PutRes
          go_enter Tryz.func65, Tryz.ntmps65
          go_wp2_with (first
            | (go_at_call 29; refine (HSV.out _ HS.out).mono ?_; rintro e w1 ⟨rfl, hb⟩; have HB1 := Lib.hid hb; have HS1 := Lib.hid (HS.out.below hb); clear hb)
            | (go_at_call 60; refine (HTV.out _).mono ?_; rintro e w' ⟨rfl, rfl⟩)
            | (go_at_call 61; refine (HPO.out _).mono ?_; rintro e w' ⟨rfl, rfl⟩)
            | (go_at_call 101; refine (HFP.out _ HS1.out).mono ?_; rintro e w2 ⟨rfl, hb2⟩; have HB2 := Lib.hid (Below_then HB1.out hb2 (Nat.le_refl _)); have HS2 := Lib.hid (HS1.out.below hb2); clear hb2)
            | (go_at_call 64; refine (HCL.out _ HS2.out).mono ?_; rintro e w3 ⟨v3, rfl, hown3, hb3⟩; have HW3 := Lib.hid hown3; have HB3 := Lib.hid (Below_then HB2.out hb3 (Nat.le_refl _)); obtain ⟨X, d3, rfl, _, _, hX3⟩ := hown3.sl; have hb3z := Lib.hid hb3.size; have hb3y := Lib.hid hb3; clear hown3 hb3)
            | (go_at_call 102; refine (ins_call (x := (p, t)) HB2.out HW3.out hb3y.out hbl hl).mono ?_; rintro e w4 ⟨v4, rfl, hown4, hb4⟩; have HW4 := Lib.hid hown4; have HB4 := Lib.hid hb4; clear hown4 hb4))
          go_ret3
          exact ⟨_, rfl, HW4.out, HB4.out⟩
end Go.Proofs.YtedcgbmdfmgcgaaGreatDoor
