/- ArchiveLine of the program, walked. Written by gen_ali.py. -/
import Derived.Test.YtkglfmgmmnfmbaaGreatDoorGb9
import Derived.Test.YtkglfmgmmnfmbaaGreatDoorAdi
import Derived.Test.YtkglfmgmmnfmbaaGreatDoorCa
import Derived.Test.YtkglfmgmmnfmbaaGreatDoorWd
import Derived.Test.YtkglfmgmmnfmbaaGreatDoorWl
import Derived.Test.YtkglfmgmmnfmbaaGreatDoorGc0
import Derived.Test.YtkglfmgmmnfmbaaGreatDoorGa9
set_option linter.unusedVariables false
namespace Go.Proofs.YtkglfmgmmnfmbaaGreatDoor
open Go.RowKit
theorem keep_set {W : World} {bo i b o : Nat} {v u : Value} (hne : b ≠ bo) (h : W.cell? ⟨b, o, none⟩ = some u) : (W.setCell ⟨bo, i, none⟩ v).cell? ⟨b, o, none⟩ = some u := (World.cell?_setCell_other _ _ _ _ (by rintro e; injection e with e _ _; exact hne (by first | exact e | exact e.symm))).trans h
theorem archL_len (a : Ar) (s : Bs) : (archL a s).1.ps.length ≤ 40 ∧ (archL a s).1.vs.length ≤ 12 := by
  cases hv : archV a
  · rw [archL_bad hv]; simp
  · obtain ⟨h1, h2, _, _⟩ := archV_iff.1 (archL_ok hv s).valid
    exact ⟨storeV_len h1, versV_len h2⟩
theorem alloc2_below {w : World} (o1 o2 : Obj) : Below w.heap.size w ((w.alloc o1).alloc o2) := ((Below.refl w.heap.size w).alloc (Nat.le_refl _) o1).alloc (by simp) o2
/-- What stands while the program takes a line. -/
structure AlI (w : World) (vA vB : Value) (x : Int) (bo : Nat) (OP OQ : Value) (l : List Pc) (m : List Vr) (W : World) : Prop where
  bel : Below w.heap.size w W
  r0 : Row3 W w.heap.size vA (.int .i64 x) vB
  r1 : Row3 W (w.heap.size + 1) (.slice none 0 0) (.int .i64 0) (.slice none 0 0)
  r2 : Row3 W bo OP (.int .i64 x) OQ
  op : Own W (w.heap.size + 2) 107 2 encP OP l
  oq : Own W (w.heap.size + 2) 63 3 encV OQ m
  apo : ApartV OP OQ
  lo : w.heap.size + 2 ≤ bo
  nop : OP.ownBlock ≠ some bo
  noq : OQ.ownBlock ≠ some bo
/-- The same, whatever the box of what comes next holds. -/
structure AlT (w : World) (vA vB : Value) (x : Int) (bo : Nat) (OP OQ : Value) (l : List Pc) (m : List Vr) (W : World) : Prop where
  bel : Below w.heap.size w W
  r0 : Row3 W w.heap.size vA (.int .i64 x) vB
  r1 : Row3 W (w.heap.size + 1) (.slice none 0 0) (.int .i64 0) (.slice none 0 0)
  op : Own W (w.heap.size + 2) 107 2 encP OP l
  oq : Own W (w.heap.size + 2) 63 3 encV OQ m
  apo : ApartV OP OQ
  lo : w.heap.size + 2 ≤ bo
  nop : OP.ownBlock ≠ some bo
  noq : OQ.ownBlock ≠ some bo
  wide : w.heap.size + 2 ≤ W.heap.size
section
variable {w : World} {vA vB : Value} {x : Int} {bo : Nat} {OP OQ : Value} {l : List Pc} {m : List Vr} {W W' : World}
theorem AlI.wide (h : AlI w vA vB x bo OP OQ l m W) : w.heap.size + 2 ≤ W.heap.size := Nat.le_trans h.lo (Nat.le_of_lt h.r2.2.2)
theorem AlI.below (h : AlI w vA vB x bo OP OQ l m W) (hb : Below W.heap.size W W') : AlI w vA vB x bo OP OQ l m W' :=
  { h with bel := Below_then h.bel hb (Nat.le_refl _), r0 := h.r0.below hb, r1 := h.r1.below hb, r2 := h.r2.below hb, op := h.op.below hb, oq := h.oq.below hb }
theorem AlT.below (h : AlT w vA vB x bo OP OQ l m W) (hb : Below W.heap.size W W') : AlT w vA vB x bo OP OQ l m W' :=
  { h with bel := Below_then h.bel hb (Nat.le_refl _), r0 := h.r0.below hb, r1 := h.r1.below hb, op := h.op.below hb, oq := h.oq.below hb, wide := Nat.le_trans h.wide hb.size }
theorem AlT.set (h : AlT w vA vB x bo OP OQ l m W) (i : Nat) (u : Value) : AlT w vA vB x bo OP OQ l m (W.setCell ⟨bo, i, none⟩ u) := by
  have h1 := h.lo
  exact { h with
    bel := h.bel.setCell (by show w.heap.size ≤ bo; omega) u
    r0 := h.r0.other (by show bo ≠ w.heap.size; omega) u
    r1 := h.r1.other (by show bo ≠ w.heap.size + 1; omega) u
    op := h.op.setOther h.nop u
    oq := h.oq.setOther h.noq u
    wide := by simp only [setCell_size]; exact h.wide }
theorem AlI.set (h : AlI w vA vB x bo OP OQ l m W) (i : Nat) (u : Value) : AlT w vA vB x bo OP OQ l m (W.setCell ⟨bo, i, none⟩ u) :=
  AlT.set ⟨h.bel, h.r0, h.r1, h.op, h.oq, h.apo, h.lo, h.nop, h.noq, h.wide⟩ i u
end
set_option maxHeartbeats 4000000 in
set_option maxRecDepth 100000 in
theorem iArchiveLine_any (A B : Option Addr) (c dd : Nat) (l : List Pc) (m : List Vr) (x : Int) (line : ByteArray) (w : World) (hs : Sl w encP 2 A l) (hcz : A = none → c = 0) (hl : l.length ≤ 16777216) (hf : FitP l) (ht : Sl w encV 3 B m) (hcz2 : B = none → dd = 0) (hl2 : m.length ≤ 16777216) (hf2 : FitV m) (hline : line.size ≤ 1048576) (htz : TzL w) (hmx : MaxL w) :
    Calls Tryz.prog 12 #[.agg #[.slice A l.length c, .int .i64 x, .slice B m.length dd], .string line] w (AlRes (archL ⟨l, x, m⟩ (bs line)) w) := by
  have HS := Lib.hid hs
  have HT := Lib.hid ht
  have HCZ := Lib.hid hcz
  have HCZ2 := Lib.hid hcz2
  have HFP := Lib.hid hf
  have HFV := Lib.hid hf2
  have HTZ := Lib.hid htz
  have HMX := Lib.hid hmx
  have hAV := fun W h h2 h3 h4 => iArchiveValid_any A B c dd l m x W h hl hf h2 hl2 hf2 h3 h4
  clear hs ht hcz hcz2 hf hf2 htz hmx
  cases hv : archV ⟨l, x, m⟩
  · have HR := Lib.hid (archL_bad hv (bs line))
    rw [hv] at hAV
    have HAV := Lib.hid hAV
    clear hAV hv
    generalize archL ⟨l, x, m⟩ (bs line) = R at *
    go_enter Tryz.func12, Tryz.ntmps12
    go_wp2_with fail
    refine (HAV.out _ ((HS.out.alloc _).alloc _) ((HT.out.alloc _).alloc _) (HTZ.out.below (alloc2_below _ _)) (HMX.out.below (alloc2_below _ _))).mono ?_
    rintro e w1 ⟨rfl, hb1⟩
    have hr1 := Row3.new.below hb1
    rw [World.alloc_size_] at hr1
    obtain ⟨⟨y0', y1', y2'⟩, yf, _⟩ := hr1
    have HB1 := Lib.hid (Below_of_alloc (Below_of_alloc hb1))
    clear hb1
    go_wp2_with fail
    exact bodyPost_ret (v := .tuple #[.agg #[.slice none 0 0, .int .i64 0, .slice none 0 0], .string ⟨#[]⟩]) (by simp [results, Tryz.results12, go_sem, y0', y1', y2']) rfl (AlRes.mk_ HR.out rfl (ar_end HB1.out Own.nil Own.nil (ApartV.nil _)))
  · obtain ⟨hsv, hvv, _, _⟩ := archV_iff.1 hv
    have hl40 : l.length ≤ 40 := storeV_len hsv
    have hm12 : m.length ≤ 12 := versV_len hvv
    have HA0 := Lib.hid (show archL ⟨l, x, m⟩ (bs line) = lineA ⟨l, x, m⟩ (splitS 32 (bs line)) by unfold archL; rw [if_pos hv])
    rw [hv] at hAV
    have HAV := Lib.hid hAV
    have HCP := Lib.hid (fun W h h2 => icopyArchive_any A B c dd l m x W h HCZ.out hl h2 HCZ2.out hl2)
    have hLW := fun W h => SplitW_any line W (by omega) h
    have HFEW := Lib.hid (fun h => wrdB_few (s := line) h)
    have HMANY := Lib.hid (fun h => wrdB_many (s := line) h)
    have hsz := splitS_size 32 (bs line)
    rw [size_bs] at hsz
    have HSP := Lib.hid hsz
    have HNE := Lib.hid (splitS_ne 32 (bs line))
    clear hAV hv hsv hvv hsz
    generalize archL ⟨l, x, m⟩ (bs line) = R at *
    generalize splitS 32 (bs line) = SPL at *
    generalize wrdB line = WL at *
    have HLW := Lib.hid hLW
    clear hLW
    go_enter Tryz.func12, Tryz.ntmps12
    go_wp2_with fail
    refine (HAV.out _ ((HS.out.alloc _).alloc _) ((HT.out.alloc _).alloc _) (HTZ.out.below (alloc2_below _ _)) (HMX.out.below (alloc2_below _ _))).mono ?_
    rintro e w1 ⟨rfl, hb1⟩
    have hr0 := Row3.new.below (w' := w1) (Below_of_alloc hb1)
    have hr1 := Row3.new.below hb1
    rw [World.alloc_size_] at hr1
    have HB1 := Lib.hid (Below_of_alloc (Below_of_alloc hb1))
    have hz1 : w.heap.size + 2 ≤ w1.heap.size := by have := hb1.size; simp at this; omega
    have HR0 := Lib.hid hr0
    have HR1 := Lib.hid hr1
    obtain ⟨⟨a0, a1, a2⟩, _, _⟩ := hr0
    clear hb1 hr1
    go_wp2_with fail
    refine (HCP.out _ (HS.out.below HB1.out) (HT.out.below HB1.out)).mono ?_
    rintro e w2 ⟨v2, rfl, ⟨OP, OQ, rfl, hop2, hoq2, hap2⟩, hb2⟩
    replace HR0 := Lib.hid (HR0.out.below hb2)
    replace HR1 := Lib.hid (HR1.out.below hb2)
    have HB2 := Lib.hid (Below_then HB1.out hb2 (Nat.le_refl _))
    have hz2 : w1.heap.size ≤ w2.heap.size := hb2.size
    obtain ⟨P2, k2, e1, _⟩ := hop2.sl
    obtain ⟨Q2, j2, e2, _⟩ := hoq2.sl
    subst e1 e2
    have HOP := Lib.hid (hop2.mono hz1)
    have HOQ := Lib.hid (hoq2.mono hz1)
    have HAPO := Lib.hid hap2
    have hnop : Value.ownBlock (.slice P2 l.length k2) ≠ some w2.heap.size := fun e => by have := (hop2.blk _ e).2; omega
    have hnoq : Value.ownBlock (.slice Q2 m.length j2) ≠ some w2.heap.size := fun e => by have := (hoq2.blk _ e).2; omega
    clear hb2 hop2 hoq2 hap2 a0 a1 a2
    go_wp2_with fail
    refine (HLW.out _ (HMX.out.below (HB2.out.alloc HB2.out.size _))).mono ?_
    rintro e w4 ⟨WA, wc, rfl, hlew, hsw, hb4, hwa⟩
    have hbz := Below_of_alloc hb4
    have H4 := Lib.hid (show AlI w (.slice A l.length c) (.slice B m.length dd) x w2.heap.size (.slice P2 l.length k2) (.slice Q2 m.length j2) l m w4 from
      ⟨Below_then HB2.out hbz (Nat.le_refl _), HR0.out.below hbz, HR1.out.below hbz, Row3.new.below hb4, HOP.out.below hbz, HOQ.out.below hbz, HAPO.out, by omega, hnop, hnoq⟩)
    have HSW := Lib.hid (HS.out.below H4.out.bel)
    have HTW := Lib.hid (HT.out.below H4.out.bel)
    have HTZ4 := Lib.hid (HTZ.out.below H4.out.bel)
    have HMX4 := Lib.hid (HMX.out.below H4.out.bel)
    clear hb4 hbz HR0 HR1 HB1 HB2 HOP HOQ HAPO hnop hnoq
    have HSZ := Lib.hid (show SPL.length ≤ 3 → ∀ y ∈ WL, y.size ≤ 1048576 from fun h y hy => by
      have h2 : bs y ∈ WL.map bs := List.mem_map_of_mem hy
      rw [HFEW.out h] at h2
      have h3 := HSP.out _ h2
      rw [size_bs] at h3
      exact Nat.le_trans h3 hline)
    have HML := Lib.hid (show SPL.length ≤ 3 → WL.length = SPL.length from fun h => by rw [← HFEW.out h, List.length_map])
    rcases WL with _ | ⟨z0, _ | ⟨z1, _ | ⟨z2, _ | ⟨z3, zr⟩⟩⟩⟩
    · exfalso
      by_cases h3 : SPL.length ≤ 3
      · exact HNE.out (HFEW.out h3).symm
      · exact absurd (HMANY.out h3) (by simp)
    · have h3 : SPL.length ≤ 3 := by
        by_cases h3 : SPL.length ≤ 3
        · exact h3
        · exact absurd (HMANY.out h3) (by simp)
      replace HSZ := Lib.hid (HSZ.out h3)
      obtain ⟨wb, wo, rfl, q0⟩ := hsw.getS (k := 0) (by simp)
      have hnw : wb ≠ w2.heap.size := by have := hwa wb wo rfl; (try simp only [World.alloc_size_] at this); omega
      have hna : w.heap.size ≠ w2.heap.size := by omega
      clear hwa
      have q0 : w4.cell? ⟨wb, wo, none⟩ = some (.string z0) := q0
      have HA := Lib.hid (show R = lineA ⟨l, x, m⟩ [tx z0] by rw [HA0.out, ← HFEW.out h3]; rfl)
      clear hsw hlew HA0 HFEW HMANY HSP HNE HML h3
      simp only [List.length_cons, List.length_nil, Nat.zero_add] at *
      by_cases hw : tx z0 = wFiles
      · have e6 : (z0.toList == [102, 105, 108, 101, 115]) = true := by rw [lit_tx, hw]; decide
        have HR := Lib.hid (show R = (⟨l, x, m⟩, filesAns ⟨l, x, m⟩) from HA.out.trans (lineA_files hw))
        have hX := fun W h h2 h3 => ifilesAnswer_any A c B m.length dd l m x W h (by omega) HFP.out h2 h3
        generalize filesAns ⟨l, x, m⟩ = FA at *
        have HX := Lib.hid hX
        clear hX
        obtain ⟨⟨a0, a1, a2⟩, _, _⟩ := H4.out.r0
        obtain ⟨⟨y0', y1', y2'⟩, yf, _⟩ := H4.out.r1
        obtain ⟨⟨o0, o1, o2⟩, of, ol⟩ := H4.out.r2
        go_wp2_with fail
        refine (HX.out _ HSW.out HTZ4.out HMX4.out).mono ?_
        rintro e w5 ⟨rfl, hb5⟩
        have H5 := Lib.hid (H4.out.below hb5)
        clear hb5
        clear a0 a1 a2 y0' y1' y2' yf o0 o1 o2 of ol
        obtain ⟨⟨a0, a1, a2⟩, _, _⟩ := H5.out.r0
        obtain ⟨⟨y0', y1', y2'⟩, yf, _⟩ := H5.out.r1
        obtain ⟨⟨o0, o1, o2⟩, of, ol⟩ := H5.out.r2
        go_wp2_with fail
        exact bodyPost_ret (v := .tuple #[.agg #[(.slice P2 l.length k2), .int .i64 x, (.slice Q2 m.length j2)], .string (mk FA)]) (by simp [results, Tryz.results12, go_sem, y0', y1', y2']) rfl (AlRes.mk_ HR.out rfl (ar_end H5.out.bel H5.out.op H5.out.oq H5.out.apo))
      · have e6 : (z0.toList == [102, 105, 108, 101, 115]) = false := by rw [lit_tx]; exact beq_eq_false_iff_ne.2 hw
        have HR := Lib.hid (show R = (⟨l, x, m⟩, wNo) from HA.out.trans (lineA_one hw))
        obtain ⟨⟨a0, a1, a2⟩, _, _⟩ := H4.out.r0
        obtain ⟨⟨y0', y1', y2'⟩, yf, _⟩ := H4.out.r1
        obtain ⟨⟨o0, o1, o2⟩, of, ol⟩ := H4.out.r2
        go_wp2_with fail
        refine (HCP.out _ (HS.out.below H4.out.bel) (HT.out.below H4.out.bel)).mono ?_
        rintro e w6 ⟨v6, rfl, ⟨SP, SQ, rfl, hsp6, hsq6, hap6⟩, hb6⟩
        obtain ⟨P6, k6, e1, _⟩ := hsp6.sl
        obtain ⟨Q6, j6, e2, _⟩ := hsq6.sl
        subst e1 e2
        have H6 := Lib.hid (H4.out.below hb6)
        have HP6 := Lib.hid (hsp6.mono H4.out.wide)
        have HQ6 := Lib.hid (hsq6.mono H4.out.wide)
        clear hsp6 hsq6 hb6 a0 a1 a2 y0' y1' y2' yf o0 o1 o2 of ol
        obtain ⟨⟨y0', y1', y2'⟩, yf, _⟩ := H6.out.r1
        go_wp2_with fail
        exact bodyPost_ret (v := .tuple #[.agg #[(.slice P6 l.length k6), .int .i64 x, (.slice Q6 m.length j6)], .string ⟨#[110, 111]⟩]) (by simp [results, Tryz.results12, go_sem, y0', y1', y2']) rfl (AlRes.mk_ HR.out rfl (ar_end H6.out.bel HP6.out HQ6.out hap6))
    · have h3 : SPL.length ≤ 3 := by
        by_cases h3 : SPL.length ≤ 3
        · exact h3
        · exact absurd (HMANY.out h3) (by simp)
      replace HSZ := Lib.hid (HSZ.out h3)
      obtain ⟨wb, wo, rfl, q0⟩ := hsw.getS (k := 0) (by simp)
      have hnw : wb ≠ w2.heap.size := by have := hwa wb wo rfl; (try simp only [World.alloc_size_] at this); omega
      have hna : w.heap.size ≠ w2.heap.size := by omega
      clear hwa
      have q0 : w4.cell? ⟨wb, wo, none⟩ = some (.string z0) := q0
      obtain ⟨wb2, wo2, eq2, q1⟩ := hsw.getS (k := 1) (by simp)
      injection eq2 with eq2; injection eq2 with eq3 eq4
      subst eq3 eq4
      have q1 : w4.cell? ⟨wb, wo + 1, none⟩ = some (.string z1) := q1
      have HA := Lib.hid (show R = lineA ⟨l, x, m⟩ [tx z0, tx z1] by rw [HA0.out, ← HFEW.out h3]; rfl)
      clear hsw hlew HA0 HFEW HMANY HSP HNE HML h3
      simp only [List.length_cons, List.length_nil, Nat.zero_add] at *
      rcases words6 z0 with ⟨hw, e1, e2, e3, e4, e5⟩ | ⟨hw, e1, e2, e3, e4, e5⟩ | ⟨hw, e1, e2, e3, e4, e5⟩ | ⟨hw, e1, e2, e3, e4, e5⟩ | ⟨hw, e1, e2, e3, e4, e5⟩ | ⟨n1, n2, n3, n4, n5, e1, e2, e3, e4, e5⟩
      · have HR := Lib.hid (show R = (⟨l, x, m⟩, wNo) from HA.out.trans (lineA_two (by rw [hw]; decide) (by rw [hw]; decide) (by rw [hw]; decide) (by rw [hw]; decide)))
        obtain ⟨⟨a0, a1, a2⟩, _, _⟩ := H4.out.r0
        obtain ⟨⟨y0', y1', y2'⟩, yf, _⟩ := H4.out.r1
        obtain ⟨⟨o0, o1, o2⟩, of, ol⟩ := H4.out.r2
        go_wp2_with fail
        refine (HCP.out _ (HS.out.below H4.out.bel) (HT.out.below H4.out.bel)).mono ?_
        rintro e w6 ⟨v6, rfl, ⟨SP, SQ, rfl, hsp6, hsq6, hap6⟩, hb6⟩
        obtain ⟨P6, k6, e1, _⟩ := hsp6.sl
        obtain ⟨Q6, j6, e2, _⟩ := hsq6.sl
        subst e1 e2
        have H6 := Lib.hid (H4.out.below hb6)
        have HP6 := Lib.hid (hsp6.mono H4.out.wide)
        have HQ6 := Lib.hid (hsq6.mono H4.out.wide)
        clear hsp6 hsq6 hb6 a0 a1 a2 y0' y1' y2' yf o0 o1 o2 of ol
        obtain ⟨⟨y0', y1', y2'⟩, yf, _⟩ := H6.out.r1
        go_wp2_with fail
        exact bodyPost_ret (v := .tuple #[.agg #[(.slice P6 l.length k6), .int .i64 x, (.slice Q6 m.length j6)], .string ⟨#[110, 111]⟩]) (by simp [results, Tryz.results12, go_sem, y0', y1', y2']) rfl (AlRes.mk_ HR.out rfl (ar_end H6.out.bel HP6.out HQ6.out hap6))
      · have HRW := Lib.hid (HA.out.trans (lineA_drop hw))
        have hX := fun W h h2 h3 => iDropAt_any A c l x z1 W h HCZ.out (by omega) HFP.out (HSZ.out z1 (by simp)) h2 h3
        unfold PutRes at hX
        generalize hres : dropA l x (tx z1) = RES at *
        obtain ⟨l5, r5, ok5⟩ := RES
        simp only at *
        have HX := Lib.hid hX
        clear hX hres
        obtain ⟨⟨a0, a1, a2⟩, _, _⟩ := H4.out.r0
        obtain ⟨⟨y0', y1', y2'⟩, yf, _⟩ := H4.out.r1
        obtain ⟨⟨o0, o1, o2⟩, of, ol⟩ := H4.out.r2
        have hbo := H4.out.r2.2.2
        have hlo := H4.out.lo
        cases ok5
        · have HR := Lib.hid (show R = (⟨l, x, m⟩, wNo) from HRW.out)
          clear HRW
          go_wp2_with fail
          go_region_held3 (fun W => W.cell? ⟨w.heap.size, 0, none⟩ = some (.slice A l.length c) ∧ W.cell? ⟨w.heap.size, 1, none⟩ = some (.int .i64 x) ∧ W.cell? ⟨wb, wo + 1, none⟩ = some (.string z1)) (first | exact ⟨a0, a1, q1⟩ | exact ⟨Below_cells HY5.out _ _ _ a0, Below_cells HY5.out _ _ _ a1, Below_cells HY5.out _ _ _ q1⟩ | exact ⟨keep_set hna (Below_cells HY5.out _ _ _ a0), keep_set hna (Below_cells HY5.out _ _ _ a1), keep_set hnw (Below_cells HY5.out _ _ _ q1)⟩ | exact ⟨keep_set hna (keep_set hna (Below_cells HY5.out _ _ _ a0)), keep_set hna (keep_set hna (Below_cells HY5.out _ _ _ a1)), keep_set hnw (keep_set hnw (Below_cells HY5.out _ _ _ q1))⟩)
            ((go_at_call 49; refine (HX.out _ (by first | exact HSW.out | exact HSW.out.drew) (by first | exact HTZ4.out | exact HTZ4.out.drew) (by first | exact HMX4.out | exact HMX4.out.drew)).mono ?_; rintro e w5 ⟨v5, rfl, hown5, hb5⟩; have hb5' := (show Below w4.heap.size w4 w5 from (by first | exact hb5 | exact Below_drew hb5)); have HY5 := Lib.hid hb5'; obtain ⟨A5, c5, e5, _⟩ := hown5.sl; subst e5; have HO5 := Lib.hid (hown5.mono (show w4.heap.size ≤ _ from Nat.le_refl _)); have H45 := Lib.hid (H4.out.below HY5.out); clear o0 o1 o2 of ol; obtain ⟨⟨o0, o1, o2⟩, of, ol⟩ := H45.out.r2; clear hown5 hb5 hb5'))
          all_goals
            have H5 := Lib.hid ((H45.out.set 0 (.slice A5 l5.length c5)).set 1 (.int .i64 r5))
            clear a0 a1 a2 y0' y1' y2' yf o0 o1 o2 of ol
            obtain ⟨⟨a0, a1, a2⟩, _, _⟩ := H5.out.r0
            obtain ⟨⟨y0', y1', y2'⟩, yf, _⟩ := H5.out.r1
            go_wp2_with fail
            refine (HCP.out _ (HS.out.below H5.out.bel) (HT.out.below H5.out.bel)).mono ?_
            rintro e w6 ⟨v6, rfl, ⟨SP, SQ, rfl, hsp6, hsq6, hap6⟩, hb6⟩
            obtain ⟨P6, k6, e1, _⟩ := hsp6.sl
            obtain ⟨Q6, j6, e2, _⟩ := hsq6.sl
            subst e1 e2
            have H6 := Lib.hid (H5.out.below hb6)
            have HP6 := Lib.hid (hsp6.mono H5.out.wide)
            have HQ6 := Lib.hid (hsq6.mono H5.out.wide)
            clear hsp6 hsq6 hb6 a0 a1 a2 y0' y1' y2' yf
            obtain ⟨⟨y0', y1', y2'⟩, yf, _⟩ := H6.out.r1
            go_wp2_with fail
            exact bodyPost_ret (v := .tuple #[.agg #[(.slice P6 l.length k6), .int .i64 x, (.slice Q6 m.length j6)], .string ⟨#[110, 111]⟩]) (by simp [results, Tryz.results12, go_sem, y0', y1', y2']) rfl (AlRes.mk_ HR.out rfl (ar_end H6.out.bel HP6.out HQ6.out hap6))
        · have HR := Lib.hid (show R = (⟨l5, r5, m⟩, wOk) from HRW.out)
          clear HRW
          go_wp2_with fail
          go_region_held3 (fun W => W.cell? ⟨w.heap.size, 0, none⟩ = some (.slice A l.length c) ∧ W.cell? ⟨w.heap.size, 1, none⟩ = some (.int .i64 x) ∧ W.cell? ⟨wb, wo + 1, none⟩ = some (.string z1)) (first | exact ⟨a0, a1, q1⟩ | exact ⟨Below_cells HY5.out _ _ _ a0, Below_cells HY5.out _ _ _ a1, Below_cells HY5.out _ _ _ q1⟩ | exact ⟨keep_set hna (Below_cells HY5.out _ _ _ a0), keep_set hna (Below_cells HY5.out _ _ _ a1), keep_set hnw (Below_cells HY5.out _ _ _ q1)⟩ | exact ⟨keep_set hna (keep_set hna (Below_cells HY5.out _ _ _ a0)), keep_set hna (keep_set hna (Below_cells HY5.out _ _ _ a1)), keep_set hnw (keep_set hnw (Below_cells HY5.out _ _ _ q1))⟩)
            ((go_at_call 49; refine (HX.out _ (by first | exact HSW.out | exact HSW.out.drew) (by first | exact HTZ4.out | exact HTZ4.out.drew) (by first | exact HMX4.out | exact HMX4.out.drew)).mono ?_; rintro e w5 ⟨v5, rfl, hown5, hb5⟩; have hb5' := (show Below w4.heap.size w4 w5 from (by first | exact hb5 | exact Below_drew hb5)); have HY5 := Lib.hid hb5'; obtain ⟨A5, c5, e5, _⟩ := hown5.sl; subst e5; have HO5 := Lib.hid (hown5.mono (show w4.heap.size ≤ _ from Nat.le_refl _)); have H45 := Lib.hid (H4.out.below HY5.out); clear o0 o1 o2 of ol; obtain ⟨⟨o0, o1, o2⟩, of, ol⟩ := H45.out.r2; clear hown5 hb5 hb5'))
          all_goals
            have hnb : (Value.slice A5 l5.length c5).ownBlock ≠ some w2.heap.size := fun e => absurd (HO5.out.blk _ e).1 (by omega)
            have H5 := Lib.hid ((H45.out.set 0 (.slice A5 l5.length c5)).set 1 (.int .i64 r5))
            have HW5 := Lib.hid ((HO5.out.setOther (i := 0) hnb (.slice A5 l5.length c5)).setOther (i := 1) hnb (.int .i64 r5))
            have HAP := Lib.hid (show ApartV (.slice A5 l5.length c5) (.slice Q2 m.length j2) from fun g hg hv => by
              have h1 := (HO5.out.blk g hg).1
              have h2 := (H4.out.oq.blk g hv).2
              omega)
            clear a0 a1 a2 y0' y1' y2' yf o0 o1 o2 of ol
            obtain ⟨⟨b0, b1, b2⟩, _, _⟩ := ((H45.out.r2.set0 (.slice A5 l5.length c5)).set1 (.int .i64 r5))
            obtain ⟨⟨a0, a1, a2⟩, _, _⟩ := H5.out.r0
            obtain ⟨⟨y0', y1', y2'⟩, yf, _⟩ := H5.out.r1
            go_wp2_with fail
            exact bodyPost_ret (v := .tuple #[.agg #[(.slice A5 l5.length c5), .int .i64 r5, (.slice Q2 m.length j2)], .string ⟨#[111, 107]⟩]) (by simp [results, Tryz.results12, go_sem, y0', y1', y2']) rfl (AlRes.mk_ HR.out rfl (ar_end H5.out.bel (HW5.out.mono (by omega)) H5.out.oq HAP.out))
      · have HRW := Lib.hid (HA.out.trans (lineA_keep hw))
        have hwr : IntKind.i64.wrap ((m.length : Int) - 1) = (m.length : Int) - 1 := IntWalk.i64_in _ (by omega)
        have hX := fun W h => iAddX_any B dd m (x, (m.length : Int) - 1, z1) W h HCZ2.out (by omega) HFV.out (Nat.le_trans (HSZ.out z1 (by simp)) (by omega))
        unfold AddX at hX
        have HRW := Lib.hid (show R = match addV m (x, (m.length : Int) - 1, z1) with | (v, true) => (⟨l, x, v⟩, wOk) | _ => (⟨l, x, m⟩, wNo) from HRW.out)
        generalize hres : addV m (x, (m.length : Int) - 1, z1) = RES at *
        obtain ⟨m5, ok5⟩ := RES
        simp only at *
        have HX := Lib.hid hX
        clear hX hres
        obtain ⟨⟨a0, a1, a2⟩, _, _⟩ := H4.out.r0
        obtain ⟨⟨y0', y1', y2'⟩, yf, _⟩ := H4.out.r1
        obtain ⟨⟨o0, o1, o2⟩, of, ol⟩ := H4.out.r2
        have hbo := H4.out.r2.2.2
        have hlo := H4.out.lo
        have zz1 := fun o => cell_alloc (x := o) a1
        have zz2 := fun o => cell_alloc (x := o) a2
        have zzq := fun o => cell_alloc (x := o) q1
        cases ok5
        · have HR := Lib.hid (show R = (⟨l, x, m⟩, wNo) from HRW.out)
          clear HRW
          go_wp2_with fail
          go_region
          all_goals
            go_wp2_with fail
            refine (HX.out _ (HTW.out.alloc _).drew).mono ?_
            rintro e w5 ⟨v5, rfl, hown5, hb5⟩
            have HY5 := Lib.hid (Below_of_alloc (Below_drew hb5))
            obtain ⟨A5, c5, e5, _⟩ := hown5.sl
            subst e5
            have H45 := Lib.hid (H4.out.below HY5.out)
            have H5 := Lib.hid (H45.out.set 2 (.slice A5 m5.length c5))
            clear hown5 hb5 zz1 zz2 zzq
            clear a0 a1 a2 y0' y1' y2' yf o0 o1 o2 of ol
            obtain ⟨⟨o0, o1, o2⟩, of, ol⟩ := H45.out.r2
            obtain ⟨⟨a0, a1, a2⟩, _, _⟩ := H5.out.r0
            obtain ⟨⟨y0', y1', y2'⟩, yf, _⟩ := H5.out.r1
            go_wp2_with fail
            refine (HCP.out _ (HS.out.below H5.out.bel) (HT.out.below H5.out.bel)).mono ?_
            rintro e w6 ⟨v6, rfl, ⟨SP, SQ, rfl, hsp6, hsq6, hap6⟩, hb6⟩
            obtain ⟨P6, k6, e1, _⟩ := hsp6.sl
            obtain ⟨Q6, j6, e2, _⟩ := hsq6.sl
            subst e1 e2
            have H6 := Lib.hid (H5.out.below hb6)
            have HP6 := Lib.hid (hsp6.mono H5.out.wide)
            have HQ6 := Lib.hid (hsq6.mono H5.out.wide)
            clear hsp6 hsq6 hb6 a0 a1 a2 y0' y1' y2' yf o0 o1 o2 of ol
            obtain ⟨⟨y0', y1', y2'⟩, yf, _⟩ := H6.out.r1
            go_wp2_with fail
            exact bodyPost_ret (v := .tuple #[.agg #[(.slice P6 l.length k6), .int .i64 x, (.slice Q6 m.length j6)], .string ⟨#[110, 111]⟩]) (by simp [results, Tryz.results12, go_sem, y0', y1', y2']) rfl (AlRes.mk_ HR.out rfl (ar_end H6.out.bel HP6.out HQ6.out hap6))
        · have HR := Lib.hid (show R = (⟨l, x, m5⟩, wOk) from HRW.out)
          clear HRW
          go_wp2_with fail
          go_region
          all_goals
            go_wp2_with fail
            refine (HX.out _ (HTW.out.alloc _).drew).mono ?_
            rintro e w5 ⟨v5, rfl, hown5, hb5⟩
            have HY5 := Lib.hid (Below_of_alloc (Below_drew hb5))
            obtain ⟨A5, c5, e5, _⟩ := hown5.sl
            subst e5
            have HO5 := Lib.hid (hown5.mono (show w4.heap.size ≤ (w4.alloc _).heap.size by simp))
            have H45 := Lib.hid (H4.out.below HY5.out)
            have H5 := Lib.hid (H45.out.set 2 (.slice A5 m5.length c5))
            have hnb : (Value.slice A5 m5.length c5).ownBlock ≠ some w2.heap.size := fun e => absurd (HO5.out.blk _ e).1 (by omega)
            have HW5 := Lib.hid (HO5.out.setOther (i := 2) hnb (.slice A5 m5.length c5))
            have HAP := Lib.hid (show ApartV (.slice P2 l.length k2) (.slice A5 m5.length c5) from fun g hv hg => by
              have h1 := (HO5.out.blk g hg).1
              have h2 := (H4.out.op.blk g hv).2
              omega)
            clear hown5 hb5 zz1 zz2 zzq
            clear a0 a1 a2 y0' y1' y2' yf o0 o1 o2 of ol
            obtain ⟨⟨o0, o1, o2⟩, of, ol⟩ := H45.out.r2
            obtain ⟨⟨b0, b1, b2⟩, _, _⟩ := H45.out.r2.set2 (.slice A5 m5.length c5)
            obtain ⟨⟨a0, a1, a2⟩, _, _⟩ := H5.out.r0
            obtain ⟨⟨y0', y1', y2'⟩, yf, _⟩ := H5.out.r1
            go_wp2_with fail
            exact bodyPost_ret (v := .tuple #[.agg #[(.slice P2 l.length k2), .int .i64 x, (.slice A5 m5.length c5)], .string ⟨#[111, 107]⟩]) (by simp [results, Tryz.results12, go_sem, y0', y1', y2']) rfl (AlRes.mk_ HR.out rfl (ar_end H5.out.bel H5.out.op (HW5.out.mono (by omega)) HAP.out))
      · have HRW := Lib.hid (HA.out.trans (lineA_back hw))
        have hRH := fun W h => iReadHex_any z1 W (Nat.le_trans (HSZ.out z1 (by simp)) (by omega)) h
        have HRW := Lib.hid (show R = if 0 ≤ readH (bs z1) ∧ readH (bs z1) < m.length then (⟨l, (m.getD (readH (bs z1)).toNat (0, 0, ⟨#[]⟩)).1, m⟩, wOk) else (⟨l, x, m⟩, wNo) from HRW.out)
        generalize readH (bs z1) = n at *
        have HRH := Lib.hid hRH
        clear hRH
        have hX := fun W h => irootOf_any (.slice none 0 0) B A l.length c dd m x n W h (by omega)
        obtain ⟨⟨a0, a1, a2⟩, _, _⟩ := H4.out.r0
        obtain ⟨⟨y0', y1', y2'⟩, yf, _⟩ := H4.out.r1
        obtain ⟨⟨o0, o1, o2⟩, of, ol⟩ := H4.out.r2
        have hbo := H4.out.r2.2.2
        have hlo := H4.out.lo
        by_cases hin : 0 ≤ n ∧ n < (m.length : Int)
        · have HR := Lib.hid (show R = (⟨l, (m.getD n.toNat (0, 0, ⟨#[]⟩)).1, m⟩, wOk) by rw [HRW.out, if_pos hin])
          rw [if_pos hin] at hX
          generalize (m.getD n.toNat (0, 0, ⟨#[]⟩)).1 = rt at *
          have HX := Lib.hid hX
          clear HRW hin hX
          go_wp2_with fail
          go_region_held3 (fun W => W.cell? ⟨w.heap.size, 0, none⟩ = some (.slice A l.length c) ∧ W.cell? ⟨w.heap.size, 1, none⟩ = some (.int .i64 x) ∧ W.cell? ⟨w.heap.size, 2, none⟩ = some (.slice B m.length dd) ∧ W.cell? ⟨wb, wo + 1, none⟩ = some (.string z1)) (first | exact ⟨a0, a1, a2, q1⟩ | exact ⟨Below_cells HY5.out _ _ _ a0, Below_cells HY5.out _ _ _ a1, Below_cells HY5.out _ _ _ a2, Below_cells HY5.out _ _ _ q1⟩ | exact ⟨keep_set hna (Below_cells HY5.out _ _ _ a0), keep_set hna (Below_cells HY5.out _ _ _ a1), keep_set hna (Below_cells HY5.out _ _ _ a2), keep_set hnw (Below_cells HY5.out _ _ _ q1)⟩ | exact ⟨keep_set hna (keep_set hna (Below_cells HY5.out _ _ _ a0)), keep_set hna (keep_set hna (Below_cells HY5.out _ _ _ a1)), keep_set hna (keep_set hna (Below_cells HY5.out _ _ _ a2)), keep_set hnw (keep_set hnw (Below_cells HY5.out _ _ _ q1))⟩ | exact ⟨Below_cells HY6.out _ _ _ a0, Below_cells HY6.out _ _ _ a1, Below_cells HY6.out _ _ _ a2, Below_cells HY6.out _ _ _ q1⟩ | exact ⟨keep_set hna (Below_cells HY6.out _ _ _ a0), keep_set hna (Below_cells HY6.out _ _ _ a1), keep_set hna (Below_cells HY6.out _ _ _ a2), keep_set hnw (Below_cells HY6.out _ _ _ q1)⟩ | exact ⟨keep_set hna (keep_set hna (Below_cells HY6.out _ _ _ a0)), keep_set hna (keep_set hna (Below_cells HY6.out _ _ _ a1)), keep_set hna (keep_set hna (Below_cells HY6.out _ _ _ a2)), keep_set hnw (keep_set hnw (Below_cells HY6.out _ _ _ q1))⟩)
            ((first
              | (go_at_call 52; refine (HRH.out _ (by first | exact HTZ4.out | exact HTZ4.out.drew)).mono ?_; rintro e w5 ⟨rfl, hb5⟩; have hb5' := (show Below w4.heap.size w4 w5 from (by first | exact hb5 | exact Below_drew hb5)); have HY5 := Lib.hid hb5'; clear hb5 hb5')
              | (go_at_call 51; refine (HX.out w5 (HTW.out.below HY5.out)).mono ?_; rintro e w6 ⟨rfl, hb6⟩; have HY6 := Lib.hid (Below_then HY5.out hb6 (Nat.le_refl _)); have H46 := Lib.hid (H4.out.below HY6.out); clear o0 o1 o2 of ol; obtain ⟨⟨o0, o1, o2⟩, of, ol⟩ := H46.out.r2; clear hb6)))
          all_goals
            have H5 := Lib.hid (H46.out.set 1 (.int .i64 rt))
            clear a0 a1 a2 y0' y1' y2' yf o0 o1 o2 of ol
            obtain ⟨⟨b0, b1, b2⟩, _, _⟩ := H46.out.r2.set1 (.int .i64 rt)
            obtain ⟨⟨a0, a1, a2⟩, _, _⟩ := H5.out.r0
            obtain ⟨⟨y0', y1', y2'⟩, yf, _⟩ := H5.out.r1
            go_wp2_with fail
            exact bodyPost_ret (v := .tuple #[.agg #[(.slice P2 l.length k2), .int .i64 rt, (.slice Q2 m.length j2)], .string ⟨#[111, 107]⟩]) (by simp [results, Tryz.results12, go_sem, y0', y1', y2']) rfl (AlRes.mk_ HR.out rfl (ar_end H5.out.bel H5.out.op H5.out.oq H5.out.apo))
        · have HR := Lib.hid (show R = (⟨l, x, m⟩, wNo) by rw [HRW.out, if_neg hin])
          rw [if_neg hin] at hX
          have HX := Lib.hid hX
          clear HRW hin hX
          go_wp2_with fail
          go_region_held3 (fun W => W.cell? ⟨w.heap.size, 0, none⟩ = some (.slice A l.length c) ∧ W.cell? ⟨w.heap.size, 1, none⟩ = some (.int .i64 x) ∧ W.cell? ⟨w.heap.size, 2, none⟩ = some (.slice B m.length dd) ∧ W.cell? ⟨wb, wo + 1, none⟩ = some (.string z1)) (first | exact ⟨a0, a1, a2, q1⟩ | exact ⟨Below_cells HY5.out _ _ _ a0, Below_cells HY5.out _ _ _ a1, Below_cells HY5.out _ _ _ a2, Below_cells HY5.out _ _ _ q1⟩ | exact ⟨keep_set hna (Below_cells HY5.out _ _ _ a0), keep_set hna (Below_cells HY5.out _ _ _ a1), keep_set hna (Below_cells HY5.out _ _ _ a2), keep_set hnw (Below_cells HY5.out _ _ _ q1)⟩ | exact ⟨keep_set hna (keep_set hna (Below_cells HY5.out _ _ _ a0)), keep_set hna (keep_set hna (Below_cells HY5.out _ _ _ a1)), keep_set hna (keep_set hna (Below_cells HY5.out _ _ _ a2)), keep_set hnw (keep_set hnw (Below_cells HY5.out _ _ _ q1))⟩ | exact ⟨Below_cells HY6.out _ _ _ a0, Below_cells HY6.out _ _ _ a1, Below_cells HY6.out _ _ _ a2, Below_cells HY6.out _ _ _ q1⟩ | exact ⟨keep_set hna (Below_cells HY6.out _ _ _ a0), keep_set hna (Below_cells HY6.out _ _ _ a1), keep_set hna (Below_cells HY6.out _ _ _ a2), keep_set hnw (Below_cells HY6.out _ _ _ q1)⟩ | exact ⟨keep_set hna (keep_set hna (Below_cells HY6.out _ _ _ a0)), keep_set hna (keep_set hna (Below_cells HY6.out _ _ _ a1)), keep_set hna (keep_set hna (Below_cells HY6.out _ _ _ a2)), keep_set hnw (keep_set hnw (Below_cells HY6.out _ _ _ q1))⟩)
            ((first
              | (go_at_call 52; refine (HRH.out _ (by first | exact HTZ4.out | exact HTZ4.out.drew)).mono ?_; rintro e w5 ⟨rfl, hb5⟩; have hb5' := (show Below w4.heap.size w4 w5 from (by first | exact hb5 | exact Below_drew hb5)); have HY5 := Lib.hid hb5'; clear hb5 hb5')
              | (go_at_call 51; refine (HX.out w5 (HTW.out.below HY5.out)).mono ?_; rintro e w6 ⟨rfl, hb6⟩; have HY6 := Lib.hid (Below_then HY5.out hb6 (Nat.le_refl _)); have H46 := Lib.hid (H4.out.below HY6.out); clear o0 o1 o2 of ol; obtain ⟨⟨o0, o1, o2⟩, of, ol⟩ := H46.out.r2; clear hb6)))
          all_goals
            have H5 := Lib.hid (H46.out.set 1 (.int .i64 (-1)))
            clear a0 a1 a2 y0' y1' y2' yf o0 o1 o2 of ol
            obtain ⟨⟨a0, a1, a2⟩, _, _⟩ := H5.out.r0
            obtain ⟨⟨y0', y1', y2'⟩, yf, _⟩ := H5.out.r1
            go_wp2_with fail
            refine (HCP.out _ (HS.out.below H5.out.bel) (HT.out.below H5.out.bel)).mono ?_
            rintro e w6 ⟨v6, rfl, ⟨SP, SQ, rfl, hsp6, hsq6, hap6⟩, hb6⟩
            obtain ⟨P6, k6, e1, _⟩ := hsp6.sl
            obtain ⟨Q6, j6, e2, _⟩ := hsq6.sl
            subst e1 e2
            have H6 := Lib.hid (H5.out.below hb6)
            have HP6 := Lib.hid (hsp6.mono H5.out.wide)
            have HQ6 := Lib.hid (hsq6.mono H5.out.wide)
            clear hsp6 hsq6 hb6 a0 a1 a2 y0' y1' y2' yf
            obtain ⟨⟨y0', y1', y2'⟩, yf, _⟩ := H6.out.r1
            go_wp2_with fail
            exact bodyPost_ret (v := .tuple #[.agg #[(.slice P6 l.length k6), .int .i64 x, (.slice Q6 m.length j6)], .string ⟨#[110, 111]⟩]) (by simp [results, Tryz.results12, go_sem, y0', y1', y2']) rfl (AlRes.mk_ HR.out rfl (ar_end H6.out.bel HP6.out HQ6.out hap6))
      · have HRW := Lib.hid (HA.out.trans (lineA_read hw))
        have hX := fun W h h2 h3 => iReadAt_any A c l x z1 W h (by omega) HFP.out (HSZ.out z1 (by simp)) h2 h3
        have hrl := readAt_len l x (bs z1)
        unfold FoRes at hX
        have HRW := Lib.hid (show R = match readAt l x (bs z1) with | some t => (⟨l, x, m⟩, 61 :: t) | none => (⟨l, x, m⟩, wNo) from HRW.out)
        generalize readAt l x (bs z1) = RES at *
        have hts : (mk (RES.getD [])).size ≤ 40 := by rw [mk_size]; exact hrl
        have HMK := Lib.hid (show (⟨#[61]⟩ : ByteArray) ++ mk (RES.getD []) = mk (61 :: RES.getD []) from mk_append [61] _)
        obtain ⟨⟨a0, a1, a2⟩, _, _⟩ := H4.out.r0
        obtain ⟨⟨y0', y1', y2'⟩, yf, _⟩ := H4.out.r1
        obtain ⟨⟨o0, o1, o2⟩, of, ol⟩ := H4.out.r2
        cases RES with
        | none =>
          have HR := Lib.hid (show R = (⟨l, x, m⟩, wNo) from HRW.out)
          simp only [Option.isSome_none] at *
          generalize mk ((none : Option Bs).getD []) = ct at *
          have hq := str_add (x := ⟨#[61]⟩) (y := ct) (by decide) (by omega)
          have HX := Lib.hid hX
          clear HRW hX hrl
          go_wp2_with fail
          go_region_held3 (fun W => W.cell? ⟨w.heap.size, 0, none⟩ = some (.slice A l.length c) ∧ W.cell? ⟨w.heap.size, 1, none⟩ = some (.int .i64 x) ∧ W.cell? ⟨wb, wo + 1, none⟩ = some (.string z1)) (first | exact ⟨a0, a1, q1⟩ | exact ⟨Below_cells HY5.out _ _ _ a0, Below_cells HY5.out _ _ _ a1, Below_cells HY5.out _ _ _ q1⟩ | exact ⟨keep_set hna (Below_cells HY5.out _ _ _ a0), keep_set hna (Below_cells HY5.out _ _ _ a1), keep_set hnw (Below_cells HY5.out _ _ _ q1)⟩ | exact ⟨keep_set hna (keep_set hna (Below_cells HY5.out _ _ _ a0)), keep_set hna (keep_set hna (Below_cells HY5.out _ _ _ a1)), keep_set hnw (keep_set hnw (Below_cells HY5.out _ _ _ q1))⟩)
            ((go_at_call 53; refine (HX.out _ (by first | exact HSW.out | exact HSW.out.drew) (by first | exact HTZ4.out | exact HTZ4.out.drew) (by first | exact HMX4.out | exact HMX4.out.drew)).mono ?_; rintro e w5 ⟨rfl, hb5⟩; have hb5' := (show Below w4.heap.size w4 w5 from (by first | exact hb5 | exact Below_drew hb5)); have HY5 := Lib.hid hb5'; clear hb5 hb5'))
          all_goals
            have H5 := Lib.hid (H4.out.below HY5.out)
            clear a0 a1 a2 y0' y1' y2' yf o0 o1 o2 of ol
            obtain ⟨⟨a0, a1, a2⟩, _, _⟩ := H5.out.r0
            obtain ⟨⟨y0', y1', y2'⟩, yf, _⟩ := H5.out.r1
            obtain ⟨⟨o0, o1, o2⟩, of, ol⟩ := H5.out.r2
            go_wp2_with fail
            refine (HCP.out _ (HS.out.below H5.out.bel) (HT.out.below H5.out.bel)).mono ?_
            rintro e w6 ⟨v6, rfl, ⟨SP, SQ, rfl, hsp6, hsq6, hap6⟩, hb6⟩
            obtain ⟨P6, k6, e1, _⟩ := hsp6.sl
            obtain ⟨Q6, j6, e2, _⟩ := hsq6.sl
            subst e1 e2
            have H6 := Lib.hid (H5.out.below hb6)
            have HP6 := Lib.hid (hsp6.mono H5.out.wide)
            have HQ6 := Lib.hid (hsq6.mono H5.out.wide)
            clear hsp6 hsq6 hb6 a0 a1 a2 y0' y1' y2' yf o0 o1 o2 of ol
            obtain ⟨⟨y0', y1', y2'⟩, yf, _⟩ := H6.out.r1
            go_wp2_with fail
            exact bodyPost_ret (v := .tuple #[.agg #[(.slice P6 l.length k6), .int .i64 x, (.slice Q6 m.length j6)], .string ⟨#[110, 111]⟩]) (by simp [results, Tryz.results12, go_sem, y0', y1', y2']) rfl (AlRes.mk_ HR.out rfl (ar_end H6.out.bel HP6.out HQ6.out hap6))
        | some t =>
          have HR := Lib.hid (show R = (⟨l, x, m⟩, 61 :: t) from HRW.out)
          have HMK2 := Lib.hid (show (⟨#[61]⟩ : ByteArray) ++ mk ((some t).getD []) = mk (61 :: t) from HMK.out)
          simp only [Option.isSome_some] at *
          clear HMK
          generalize mk ((some t).getD []) = ct at *
          have hq := str_add (x := ⟨#[61]⟩) (y := ct) (by decide) (by omega)
          have HX := Lib.hid hX
          clear HRW hX hrl
          go_wp2_with fail
          go_region_held3 (fun W => W.cell? ⟨w.heap.size, 0, none⟩ = some (.slice A l.length c) ∧ W.cell? ⟨w.heap.size, 1, none⟩ = some (.int .i64 x) ∧ W.cell? ⟨wb, wo + 1, none⟩ = some (.string z1)) (first | exact ⟨a0, a1, q1⟩ | exact ⟨Below_cells HY5.out _ _ _ a0, Below_cells HY5.out _ _ _ a1, Below_cells HY5.out _ _ _ q1⟩ | exact ⟨keep_set hna (Below_cells HY5.out _ _ _ a0), keep_set hna (Below_cells HY5.out _ _ _ a1), keep_set hnw (Below_cells HY5.out _ _ _ q1)⟩ | exact ⟨keep_set hna (keep_set hna (Below_cells HY5.out _ _ _ a0)), keep_set hna (keep_set hna (Below_cells HY5.out _ _ _ a1)), keep_set hnw (keep_set hnw (Below_cells HY5.out _ _ _ q1))⟩)
            ((go_at_call 53; refine (HX.out _ (by first | exact HSW.out | exact HSW.out.drew) (by first | exact HTZ4.out | exact HTZ4.out.drew) (by first | exact HMX4.out | exact HMX4.out.drew)).mono ?_; rintro e w5 ⟨rfl, hb5⟩; have hb5' := (show Below w4.heap.size w4 w5 from (by first | exact hb5 | exact Below_drew hb5)); have HY5 := Lib.hid hb5'; clear hb5 hb5'))
          all_goals
            have H5 := Lib.hid (H4.out.below HY5.out)
            clear a0 a1 a2 y0' y1' y2' yf o0 o1 o2 of ol
            obtain ⟨⟨a0, a1, a2⟩, _, _⟩ := H5.out.r0
            obtain ⟨⟨y0', y1', y2'⟩, yf, _⟩ := H5.out.r1
            obtain ⟨⟨o0, o1, o2⟩, of, ol⟩ := H5.out.r2
            go_wp2_with fail
            exact bodyPost_ret (v := .tuple #[.agg #[(.slice P2 l.length k2), .int .i64 x, (.slice Q2 m.length j2)], .string (⟨#[61]⟩ ++ ct)]) (by simp [results, Tryz.results12, go_sem, y0', y1', y2']) rfl (AlRes.mk_ HR.out HMK2.out (ar_end H5.out.bel H5.out.op H5.out.oq H5.out.apo))
      · have HR := Lib.hid (show R = (⟨l, x, m⟩, wNo) from HA.out.trans (lineA_two n2 n3 n4 n5))
        obtain ⟨⟨a0, a1, a2⟩, _, _⟩ := H4.out.r0
        obtain ⟨⟨y0', y1', y2'⟩, yf, _⟩ := H4.out.r1
        obtain ⟨⟨o0, o1, o2⟩, of, ol⟩ := H4.out.r2
        go_wp2_with fail
        refine (HCP.out _ (HS.out.below H4.out.bel) (HT.out.below H4.out.bel)).mono ?_
        rintro e w6 ⟨v6, rfl, ⟨SP, SQ, rfl, hsp6, hsq6, hap6⟩, hb6⟩
        obtain ⟨P6, k6, e1, _⟩ := hsp6.sl
        obtain ⟨Q6, j6, e2, _⟩ := hsq6.sl
        subst e1 e2
        have H6 := Lib.hid (H4.out.below hb6)
        have HP6 := Lib.hid (hsp6.mono H4.out.wide)
        have HQ6 := Lib.hid (hsq6.mono H4.out.wide)
        clear hsp6 hsq6 hb6 a0 a1 a2 y0' y1' y2' yf o0 o1 o2 of ol
        obtain ⟨⟨y0', y1', y2'⟩, yf, _⟩ := H6.out.r1
        go_wp2_with fail
        exact bodyPost_ret (v := .tuple #[.agg #[(.slice P6 l.length k6), .int .i64 x, (.slice Q6 m.length j6)], .string ⟨#[110, 111]⟩]) (by simp [results, Tryz.results12, go_sem, y0', y1', y2']) rfl (AlRes.mk_ HR.out rfl (ar_end H6.out.bel HP6.out HQ6.out hap6))
    · have h3 : SPL.length ≤ 3 := by
        by_cases h3 : SPL.length ≤ 3
        · exact h3
        · exact absurd (HMANY.out h3) (by simp)
      replace HSZ := Lib.hid (HSZ.out h3)
      obtain ⟨wb, wo, rfl, q0⟩ := hsw.getS (k := 0) (by simp)
      have hnw : wb ≠ w2.heap.size := by have := hwa wb wo rfl; (try simp only [World.alloc_size_] at this); omega
      have hna : w.heap.size ≠ w2.heap.size := by omega
      clear hwa
      have q0 : w4.cell? ⟨wb, wo, none⟩ = some (.string z0) := q0
      obtain ⟨wb2, wo2, eq2, q1⟩ := hsw.getS (k := 1) (by simp)
      injection eq2 with eq2; injection eq2 with eq3 eq4
      subst eq3 eq4
      have q1 : w4.cell? ⟨wb, wo + 1, none⟩ = some (.string z1) := q1
      obtain ⟨wb2, wo2, eq2, q2⟩ := hsw.getS (k := 2) (by simp)
      injection eq2 with eq2; injection eq2 with eq3 eq4
      subst eq3 eq4
      have q2 : w4.cell? ⟨wb, wo + 2, none⟩ = some (.string z2) := q2
      have HA := Lib.hid (show R = lineA ⟨l, x, m⟩ [tx z0, tx z1, tx z2] by rw [HA0.out, ← HFEW.out h3]; rfl)
      clear hsw hlew HA0 HFEW HMANY HSP HNE HML h3
      simp only [List.length_cons, List.length_nil, Nat.zero_add] at *
      rcases words6 z0 with ⟨hw, e1, e2, e3, e4, e5⟩ | ⟨hw, e1, e2, e3, e4, e5⟩ | ⟨hw, e1, e2, e3, e4, e5⟩ | ⟨hw, e1, e2, e3, e4, e5⟩ | ⟨hw, e1, e2, e3, e4, e5⟩ | ⟨n1, n2, n3, n4, n5, e1, e2, e3, e4, e5⟩
      · have HRW := Lib.hid (HA.out.trans (lineA_write hw))
        have hX := fun W h h2 h3 => iWriteAt_any A c l x z1 z2 W h HCZ.out (by omega) HFP.out (HSZ.out z1 (by simp)) (HSZ.out z2 (by simp)) h2 h3
        unfold PutRes at hX
        generalize hres : writeA l x (tx z1) (tx z2) = RES at *
        obtain ⟨l5, r5, ok5⟩ := RES
        simp only at *
        have HX := Lib.hid hX
        clear hX hres
        obtain ⟨⟨a0, a1, a2⟩, _, _⟩ := H4.out.r0
        obtain ⟨⟨y0', y1', y2'⟩, yf, _⟩ := H4.out.r1
        obtain ⟨⟨o0, o1, o2⟩, of, ol⟩ := H4.out.r2
        have hbo := H4.out.r2.2.2
        have hlo := H4.out.lo
        cases ok5
        · have HR := Lib.hid (show R = (⟨l, x, m⟩, wNo) from HRW.out)
          clear HRW
          go_wp2_with fail
          go_region_held3 (fun W => W.cell? ⟨w.heap.size, 0, none⟩ = some (.slice A l.length c) ∧ W.cell? ⟨w.heap.size, 1, none⟩ = some (.int .i64 x) ∧ W.cell? ⟨wb, wo + 1, none⟩ = some (.string z1) ∧ W.cell? ⟨wb, wo + 2, none⟩ = some (.string z2)) (first | exact ⟨a0, a1, q1, q2⟩ | exact ⟨Below_cells HY5.out _ _ _ a0, Below_cells HY5.out _ _ _ a1, Below_cells HY5.out _ _ _ q1, Below_cells HY5.out _ _ _ q2⟩ | exact ⟨keep_set hna (Below_cells HY5.out _ _ _ a0), keep_set hna (Below_cells HY5.out _ _ _ a1), keep_set hnw (Below_cells HY5.out _ _ _ q1), keep_set hnw (Below_cells HY5.out _ _ _ q2)⟩ | exact ⟨keep_set hna (keep_set hna (Below_cells HY5.out _ _ _ a0)), keep_set hna (keep_set hna (Below_cells HY5.out _ _ _ a1)), keep_set hnw (keep_set hnw (Below_cells HY5.out _ _ _ q1)), keep_set hnw (keep_set hnw (Below_cells HY5.out _ _ _ q2))⟩)
            ((go_at_call 48; refine (HX.out _ (by first | exact HSW.out | exact HSW.out.drew) (by first | exact HTZ4.out | exact HTZ4.out.drew) (by first | exact HMX4.out | exact HMX4.out.drew)).mono ?_; rintro e w5 ⟨v5, rfl, hown5, hb5⟩; have hb5' := (show Below w4.heap.size w4 w5 from (by first | exact hb5 | exact Below_drew hb5)); have HY5 := Lib.hid hb5'; obtain ⟨A5, c5, e5, _⟩ := hown5.sl; subst e5; have HO5 := Lib.hid (hown5.mono (show w4.heap.size ≤ _ from Nat.le_refl _)); have H45 := Lib.hid (H4.out.below HY5.out); clear o0 o1 o2 of ol; obtain ⟨⟨o0, o1, o2⟩, of, ol⟩ := H45.out.r2; clear hown5 hb5 hb5'))
          all_goals
            have H5 := Lib.hid ((H45.out.set 0 (.slice A5 l5.length c5)).set 1 (.int .i64 r5))
            clear a0 a1 a2 y0' y1' y2' yf o0 o1 o2 of ol
            obtain ⟨⟨a0, a1, a2⟩, _, _⟩ := H5.out.r0
            obtain ⟨⟨y0', y1', y2'⟩, yf, _⟩ := H5.out.r1
            go_wp2_with fail
            refine (HCP.out _ (HS.out.below H5.out.bel) (HT.out.below H5.out.bel)).mono ?_
            rintro e w6 ⟨v6, rfl, ⟨SP, SQ, rfl, hsp6, hsq6, hap6⟩, hb6⟩
            obtain ⟨P6, k6, e1, _⟩ := hsp6.sl
            obtain ⟨Q6, j6, e2, _⟩ := hsq6.sl
            subst e1 e2
            have H6 := Lib.hid (H5.out.below hb6)
            have HP6 := Lib.hid (hsp6.mono H5.out.wide)
            have HQ6 := Lib.hid (hsq6.mono H5.out.wide)
            clear hsp6 hsq6 hb6 a0 a1 a2 y0' y1' y2' yf
            obtain ⟨⟨y0', y1', y2'⟩, yf, _⟩ := H6.out.r1
            go_wp2_with fail
            exact bodyPost_ret (v := .tuple #[.agg #[(.slice P6 l.length k6), .int .i64 x, (.slice Q6 m.length j6)], .string ⟨#[110, 111]⟩]) (by simp [results, Tryz.results12, go_sem, y0', y1', y2']) rfl (AlRes.mk_ HR.out rfl (ar_end H6.out.bel HP6.out HQ6.out hap6))
        · have HR := Lib.hid (show R = (⟨l5, r5, m⟩, wOk) from HRW.out)
          clear HRW
          go_wp2_with fail
          go_region_held3 (fun W => W.cell? ⟨w.heap.size, 0, none⟩ = some (.slice A l.length c) ∧ W.cell? ⟨w.heap.size, 1, none⟩ = some (.int .i64 x) ∧ W.cell? ⟨wb, wo + 1, none⟩ = some (.string z1) ∧ W.cell? ⟨wb, wo + 2, none⟩ = some (.string z2)) (first | exact ⟨a0, a1, q1, q2⟩ | exact ⟨Below_cells HY5.out _ _ _ a0, Below_cells HY5.out _ _ _ a1, Below_cells HY5.out _ _ _ q1, Below_cells HY5.out _ _ _ q2⟩ | exact ⟨keep_set hna (Below_cells HY5.out _ _ _ a0), keep_set hna (Below_cells HY5.out _ _ _ a1), keep_set hnw (Below_cells HY5.out _ _ _ q1), keep_set hnw (Below_cells HY5.out _ _ _ q2)⟩ | exact ⟨keep_set hna (keep_set hna (Below_cells HY5.out _ _ _ a0)), keep_set hna (keep_set hna (Below_cells HY5.out _ _ _ a1)), keep_set hnw (keep_set hnw (Below_cells HY5.out _ _ _ q1)), keep_set hnw (keep_set hnw (Below_cells HY5.out _ _ _ q2))⟩)
            ((go_at_call 48; refine (HX.out _ (by first | exact HSW.out | exact HSW.out.drew) (by first | exact HTZ4.out | exact HTZ4.out.drew) (by first | exact HMX4.out | exact HMX4.out.drew)).mono ?_; rintro e w5 ⟨v5, rfl, hown5, hb5⟩; have hb5' := (show Below w4.heap.size w4 w5 from (by first | exact hb5 | exact Below_drew hb5)); have HY5 := Lib.hid hb5'; obtain ⟨A5, c5, e5, _⟩ := hown5.sl; subst e5; have HO5 := Lib.hid (hown5.mono (show w4.heap.size ≤ _ from Nat.le_refl _)); have H45 := Lib.hid (H4.out.below HY5.out); clear o0 o1 o2 of ol; obtain ⟨⟨o0, o1, o2⟩, of, ol⟩ := H45.out.r2; clear hown5 hb5 hb5'))
          all_goals
            have hnb : (Value.slice A5 l5.length c5).ownBlock ≠ some w2.heap.size := fun e => absurd (HO5.out.blk _ e).1 (by omega)
            have H5 := Lib.hid ((H45.out.set 0 (.slice A5 l5.length c5)).set 1 (.int .i64 r5))
            have HW5 := Lib.hid ((HO5.out.setOther (i := 0) hnb (.slice A5 l5.length c5)).setOther (i := 1) hnb (.int .i64 r5))
            have HAP := Lib.hid (show ApartV (.slice A5 l5.length c5) (.slice Q2 m.length j2) from fun g hg hv => by
              have h1 := (HO5.out.blk g hg).1
              have h2 := (H4.out.oq.blk g hv).2
              omega)
            clear a0 a1 a2 y0' y1' y2' yf o0 o1 o2 of ol
            obtain ⟨⟨b0, b1, b2⟩, _, _⟩ := ((H45.out.r2.set0 (.slice A5 l5.length c5)).set1 (.int .i64 r5))
            obtain ⟨⟨a0, a1, a2⟩, _, _⟩ := H5.out.r0
            obtain ⟨⟨y0', y1', y2'⟩, yf, _⟩ := H5.out.r1
            go_wp2_with fail
            exact bodyPost_ret (v := .tuple #[.agg #[(.slice A5 l5.length c5), .int .i64 r5, (.slice Q2 m.length j2)], .string ⟨#[111, 107]⟩]) (by simp [results, Tryz.results12, go_sem, y0', y1', y2']) rfl (AlRes.mk_ HR.out rfl (ar_end H5.out.bel (HW5.out.mono (by omega)) H5.out.oq HAP.out))
      · have HR := Lib.hid (show R = (⟨l, x, m⟩, wNo) from HA.out.trans (lineA_three (by rw [hw]; decide)))
        obtain ⟨⟨a0, a1, a2⟩, _, _⟩ := H4.out.r0
        obtain ⟨⟨y0', y1', y2'⟩, yf, _⟩ := H4.out.r1
        obtain ⟨⟨o0, o1, o2⟩, of, ol⟩ := H4.out.r2
        go_wp2_with fail
        refine (HCP.out _ (HS.out.below H4.out.bel) (HT.out.below H4.out.bel)).mono ?_
        rintro e w6 ⟨v6, rfl, ⟨SP, SQ, rfl, hsp6, hsq6, hap6⟩, hb6⟩
        obtain ⟨P6, k6, e1, _⟩ := hsp6.sl
        obtain ⟨Q6, j6, e2, _⟩ := hsq6.sl
        subst e1 e2
        have H6 := Lib.hid (H4.out.below hb6)
        have HP6 := Lib.hid (hsp6.mono H4.out.wide)
        have HQ6 := Lib.hid (hsq6.mono H4.out.wide)
        clear hsp6 hsq6 hb6 a0 a1 a2 y0' y1' y2' yf o0 o1 o2 of ol
        obtain ⟨⟨y0', y1', y2'⟩, yf, _⟩ := H6.out.r1
        go_wp2_with fail
        exact bodyPost_ret (v := .tuple #[.agg #[(.slice P6 l.length k6), .int .i64 x, (.slice Q6 m.length j6)], .string ⟨#[110, 111]⟩]) (by simp [results, Tryz.results12, go_sem, y0', y1', y2']) rfl (AlRes.mk_ HR.out rfl (ar_end H6.out.bel HP6.out HQ6.out hap6))
      · have HR := Lib.hid (show R = (⟨l, x, m⟩, wNo) from HA.out.trans (lineA_three (by rw [hw]; decide)))
        obtain ⟨⟨a0, a1, a2⟩, _, _⟩ := H4.out.r0
        obtain ⟨⟨y0', y1', y2'⟩, yf, _⟩ := H4.out.r1
        obtain ⟨⟨o0, o1, o2⟩, of, ol⟩ := H4.out.r2
        go_wp2_with fail
        refine (HCP.out _ (HS.out.below H4.out.bel) (HT.out.below H4.out.bel)).mono ?_
        rintro e w6 ⟨v6, rfl, ⟨SP, SQ, rfl, hsp6, hsq6, hap6⟩, hb6⟩
        obtain ⟨P6, k6, e1, _⟩ := hsp6.sl
        obtain ⟨Q6, j6, e2, _⟩ := hsq6.sl
        subst e1 e2
        have H6 := Lib.hid (H4.out.below hb6)
        have HP6 := Lib.hid (hsp6.mono H4.out.wide)
        have HQ6 := Lib.hid (hsq6.mono H4.out.wide)
        clear hsp6 hsq6 hb6 a0 a1 a2 y0' y1' y2' yf o0 o1 o2 of ol
        obtain ⟨⟨y0', y1', y2'⟩, yf, _⟩ := H6.out.r1
        go_wp2_with fail
        exact bodyPost_ret (v := .tuple #[.agg #[(.slice P6 l.length k6), .int .i64 x, (.slice Q6 m.length j6)], .string ⟨#[110, 111]⟩]) (by simp [results, Tryz.results12, go_sem, y0', y1', y2']) rfl (AlRes.mk_ HR.out rfl (ar_end H6.out.bel HP6.out HQ6.out hap6))
      · have HR := Lib.hid (show R = (⟨l, x, m⟩, wNo) from HA.out.trans (lineA_three (by rw [hw]; decide)))
        obtain ⟨⟨a0, a1, a2⟩, _, _⟩ := H4.out.r0
        obtain ⟨⟨y0', y1', y2'⟩, yf, _⟩ := H4.out.r1
        obtain ⟨⟨o0, o1, o2⟩, of, ol⟩ := H4.out.r2
        go_wp2_with fail
        refine (HCP.out _ (HS.out.below H4.out.bel) (HT.out.below H4.out.bel)).mono ?_
        rintro e w6 ⟨v6, rfl, ⟨SP, SQ, rfl, hsp6, hsq6, hap6⟩, hb6⟩
        obtain ⟨P6, k6, e1, _⟩ := hsp6.sl
        obtain ⟨Q6, j6, e2, _⟩ := hsq6.sl
        subst e1 e2
        have H6 := Lib.hid (H4.out.below hb6)
        have HP6 := Lib.hid (hsp6.mono H4.out.wide)
        have HQ6 := Lib.hid (hsq6.mono H4.out.wide)
        clear hsp6 hsq6 hb6 a0 a1 a2 y0' y1' y2' yf o0 o1 o2 of ol
        obtain ⟨⟨y0', y1', y2'⟩, yf, _⟩ := H6.out.r1
        go_wp2_with fail
        exact bodyPost_ret (v := .tuple #[.agg #[(.slice P6 l.length k6), .int .i64 x, (.slice Q6 m.length j6)], .string ⟨#[110, 111]⟩]) (by simp [results, Tryz.results12, go_sem, y0', y1', y2']) rfl (AlRes.mk_ HR.out rfl (ar_end H6.out.bel HP6.out HQ6.out hap6))
      · have HR := Lib.hid (show R = (⟨l, x, m⟩, wNo) from HA.out.trans (lineA_three (by rw [hw]; decide)))
        obtain ⟨⟨a0, a1, a2⟩, _, _⟩ := H4.out.r0
        obtain ⟨⟨y0', y1', y2'⟩, yf, _⟩ := H4.out.r1
        obtain ⟨⟨o0, o1, o2⟩, of, ol⟩ := H4.out.r2
        go_wp2_with fail
        refine (HCP.out _ (HS.out.below H4.out.bel) (HT.out.below H4.out.bel)).mono ?_
        rintro e w6 ⟨v6, rfl, ⟨SP, SQ, rfl, hsp6, hsq6, hap6⟩, hb6⟩
        obtain ⟨P6, k6, e1, _⟩ := hsp6.sl
        obtain ⟨Q6, j6, e2, _⟩ := hsq6.sl
        subst e1 e2
        have H6 := Lib.hid (H4.out.below hb6)
        have HP6 := Lib.hid (hsp6.mono H4.out.wide)
        have HQ6 := Lib.hid (hsq6.mono H4.out.wide)
        clear hsp6 hsq6 hb6 a0 a1 a2 y0' y1' y2' yf o0 o1 o2 of ol
        obtain ⟨⟨y0', y1', y2'⟩, yf, _⟩ := H6.out.r1
        go_wp2_with fail
        exact bodyPost_ret (v := .tuple #[.agg #[(.slice P6 l.length k6), .int .i64 x, (.slice Q6 m.length j6)], .string ⟨#[110, 111]⟩]) (by simp [results, Tryz.results12, go_sem, y0', y1', y2']) rfl (AlRes.mk_ HR.out rfl (ar_end H6.out.bel HP6.out HQ6.out hap6))
      · have HR := Lib.hid (show R = (⟨l, x, m⟩, wNo) from HA.out.trans (lineA_three n1))
        obtain ⟨⟨a0, a1, a2⟩, _, _⟩ := H4.out.r0
        obtain ⟨⟨y0', y1', y2'⟩, yf, _⟩ := H4.out.r1
        obtain ⟨⟨o0, o1, o2⟩, of, ol⟩ := H4.out.r2
        go_wp2_with fail
        refine (HCP.out _ (HS.out.below H4.out.bel) (HT.out.below H4.out.bel)).mono ?_
        rintro e w6 ⟨v6, rfl, ⟨SP, SQ, rfl, hsp6, hsq6, hap6⟩, hb6⟩
        obtain ⟨P6, k6, e1, _⟩ := hsp6.sl
        obtain ⟨Q6, j6, e2, _⟩ := hsq6.sl
        subst e1 e2
        have H6 := Lib.hid (H4.out.below hb6)
        have HP6 := Lib.hid (hsp6.mono H4.out.wide)
        have HQ6 := Lib.hid (hsq6.mono H4.out.wide)
        clear hsp6 hsq6 hb6 a0 a1 a2 y0' y1' y2' yf o0 o1 o2 of ol
        obtain ⟨⟨y0', y1', y2'⟩, yf, _⟩ := H6.out.r1
        go_wp2_with fail
        exact bodyPost_ret (v := .tuple #[.agg #[(.slice P6 l.length k6), .int .i64 x, (.slice Q6 m.length j6)], .string ⟨#[110, 111]⟩]) (by simp [results, Tryz.results12, go_sem, y0', y1', y2']) rfl (AlRes.mk_ HR.out rfl (ar_end H6.out.bel HP6.out HQ6.out hap6))
    · have h4 : 4 ≤ SPL.length := by
        by_cases h3 : SPL.length ≤ 3
        · have := HML.out h3
          simp at this; omega
        · omega
      obtain ⟨wb, wo, rfl, q0⟩ := hsw.getS (k := 0) (by simp)
      have hnw : wb ≠ w2.heap.size := by have := hwa wb wo rfl; (try simp only [World.alloc_size_] at this); omega
      have hna : w.heap.size ≠ w2.heap.size := by omega
      clear hwa
      have q0 : w4.cell? ⟨wb, wo, none⟩ = some (.string z0) := q0
      have HA := Lib.hid (show R = lineA ⟨l, x, m⟩ SPL from HA0.out)
      rcases SPL with _ | ⟨y0, _ | ⟨y1, _ | ⟨y2, _ | ⟨y3, yr⟩⟩⟩⟩
      · simp at h4
      · simp at h4
      · simp at h4
      · simp at h4
      have hN4 : 4 ≤ (z0 :: z1 :: z2 :: z3 :: zr).length := by simp
      generalize (z0 :: z1 :: z2 :: z3 :: zr).length = N at *
      have hn3 : ((N : Int) == 3) = false := by rw [beq_eq_false_iff_ne]; omega
      have hn2 : ((N : Int) == 2) = false := by rw [beq_eq_false_iff_ne]; omega
      have hn1 : ((N : Int) == 1) = false := by rw [beq_eq_false_iff_ne]; omega
      clear hsw hlew HA0 HFEW HMANY HSP HNE HML HSZ h4
      have HR := Lib.hid (show R = (⟨l, x, m⟩, wNo) from HA.out.trans lineA_many)
      obtain ⟨⟨a0, a1, a2⟩, _, _⟩ := H4.out.r0
      obtain ⟨⟨y0', y1', y2'⟩, yf, _⟩ := H4.out.r1
      obtain ⟨⟨o0, o1, o2⟩, of, ol⟩ := H4.out.r2
      go_wp2_with fail
      refine (HCP.out _ (HS.out.below H4.out.bel) (HT.out.below H4.out.bel)).mono ?_
      rintro e w6 ⟨v6, rfl, ⟨SP, SQ, rfl, hsp6, hsq6, hap6⟩, hb6⟩
      obtain ⟨P6, k6, e1, _⟩ := hsp6.sl
      obtain ⟨Q6, j6, e2, _⟩ := hsq6.sl
      subst e1 e2
      have H6 := Lib.hid (H4.out.below hb6)
      have HP6 := Lib.hid (hsp6.mono H4.out.wide)
      have HQ6 := Lib.hid (hsq6.mono H4.out.wide)
      clear hsp6 hsq6 hb6 a0 a1 a2 y0' y1' y2' yf o0 o1 o2 of ol
      obtain ⟨⟨y0', y1', y2'⟩, yf, _⟩ := H6.out.r1
      go_wp2_with fail
      exact bodyPost_ret (v := .tuple #[.agg #[(.slice P6 l.length k6), .int .i64 x, (.slice Q6 m.length j6)], .string ⟨#[110, 111]⟩]) (by simp [results, Tryz.results12, go_sem, y0', y1', y2']) rfl (AlRes.mk_ HR.out rfl (ar_end H6.out.bel HP6.out HQ6.out hap6))
end Go.Proofs.YtkglfmgmmnfmbaaGreatDoor
