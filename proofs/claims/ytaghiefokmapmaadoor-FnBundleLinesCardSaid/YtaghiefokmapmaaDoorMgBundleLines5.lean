/- Written by merge.py: Pe, Ft, Em, Rf, Rg, Rj, Gt, Fl, Jp. -/
import Derived.Deep.RegionHeld3
import Derived.Test.YtaghiefokmapmaaDoorMgBundleLines4
/- PutEntry of the reference, walked. Written by gen_pe.py. -/
set_option linter.unusedVariables false
namespace Go.Proofs.YtaghiefokmapmaaDoor
open Go.RowKit
theorem insE_here {l : List En} {e : En} {k : Nat} (hk : k < l.length) (hp : posE l (tx e.1) = k) (h : tx l[k].1 = tx e.1) : insE l e = l.take k ++ e :: l.drop (k + 1) := by
  have hh : hereE l (tx e.1) = true := hereE_iff.2 (by subst hp; exact ⟨hk, h⟩)
  unfold insE; rw [hh, if_pos rfl, hp]
theorem insE_not {l : List En} {e : En} {k : Nat} (hp : posE l (tx e.1) = k) (h : ∀ hk : k < l.length, tx l[k].1 ≠ tx e.1) : insE l e = l.take k ++ e :: l.drop k := by
  have hh : hereE l (tx e.1) = false := by
    cases hq : hereE l (tx e.1)
    · rfl
    · obtain ⟨h1, h2⟩ := hereE_iff.1 hq
      subst hp
      exact absurd h2 (h h1)
  unfold insE; rw [hh, hp]; rfl
/-- What is known of the region's slots, as far as they are set. -/
structure PeJ (w1 : World) (A : Option Addr) (n c k : Nat) (l : List En) (y : En) (AM : Option Addr) (cm : Nat) (M : List En) (d : Nat → Bool) (u50 u51 u52 u53 u54 u55 u56 u57 u58 u59 u8 : Value) (W : World) : Prop where
  b : Below w1.heap.size w1 W
  o4 : d 4 = true → d 0 = true ∧ d 3 = true
  o7 : d 7 = true → d 4 = true ∧ d 6 = true
  o9 : d 9 = true → d 7 = true ∧ d 8 = true
  o10 : d 10 = true → d 9 = true
  c0 : d 0 = true → d 4 = false → Own W w1.heap.size 100 2 encE u50 []
  c1 : d 1 = true → u51 = .slice A n c
  c2 : d 2 = true → u52 = .int .i64 (k : Int)
  c3 : d 3 = true → ∃ A' c', u53 = .slice A' (l.take k).length c' ∧ (A' = none → c' = 0) ∧ Sl w1 encE 2 A' (l.take k)
  c4 : d 4 = true → d 7 = false → Own W w1.heap.size 100 2 encE u54 (l.take k)
  c5 : d 5 = true → u55 = .agg #[.string y.1, .int .i64 y.2]
  c6 : d 6 = true → d 7 = false → ∃ g, u56 = .slice (some ⟨g, 0, none⟩) 1 1 ∧ g < W.heap.size ∧ Sl W encE 2 (some ⟨g, 0, none⟩) [y] ∧ (d 0 = true → d 4 = false → u50.ownBlock ≠ some g) ∧ (d 4 = true → u54.ownBlock ≠ some g)
  c7 : d 7 = true → d 9 = false → Own W w1.heap.size 100 2 encE u57 (l.take k ++ [y])
  c8 : d 8 = true → u58 = .slice AM M.length cm
  c9 : d 9 = true → Own W w1.heap.size 100 2 encE u59 (l.take k ++ [y] ++ M)
  c10 : d 10 = true → u8 = u59
section
variable {w1 : World} {A AM : Option Addr} {n c k cm : Nat} {l M : List En} {y : En} {d : Nat → Bool} {u50 u51 u52 u53 u54 u55 u56 u57 u58 u59 u8 : Value} {W W' : World} {v' : Value}
theorem PeJ.n4 (h : PeJ w1 A n c k l y AM cm M d u50 u51 u52 u53 u54 u55 u56 u57 u58 u59 u8 W) (h0 : d 0 = false) : d 4 = false ∧ d 7 = false ∧ d 9 = false ∧ d 10 = false := by
  have h4 : d 4 = false := by
    cases e : d 4
    · rfl
    · rw [(h.o4 e).1] at h0; cases h0
  have h7 : d 7 = false := by
    cases e : d 7
    · rfl
    · rw [(h.o7 e).1] at h4; cases h4
  have h9 : d 9 = false := by
    cases e : d 9
    · rfl
    · rw [(h.o9 e).1] at h7; cases h7
  have h10 : d 10 = false := by
    cases e : d 10
    · rfl
    · rw [h.o10 e] at h9; cases h9
  exact ⟨h4, h7, h9, h10⟩
theorem PeJ.n7 (h : PeJ w1 A n c k l y AM cm M d u50 u51 u52 u53 u54 u55 u56 u57 u58 u59 u8 W) (h0 : d 4 = false ∨ d 6 = false) : d 7 = false ∧ d 9 = false ∧ d 10 = false := by
  have h7 : d 7 = false := by
    cases e : d 7
    · rfl
    · obtain ⟨e1, e2⟩ := h.o7 e
      rcases h0 with h0 | h0
      · rw [e1] at h0; cases h0
      · rw [e2] at h0; cases h0
  have h9 : d 9 = false := by
    cases e : d 9
    · rfl
    · rw [(h.o9 e).1] at h7; cases h7
  have h10 : d 10 = false := by
    cases e : d 10
    · rfl
    · rw [h.o10 e] at h9; cases h9
  exact ⟨h7, h9, h10⟩
theorem PeJ.n9 (h : PeJ w1 A n c k l y AM cm M d u50 u51 u52 u53 u54 u55 u56 u57 u58 u59 u8 W) (h7 : d 7 = false) : d 9 = false ∧ d 10 = false := by
  have h9 : d 9 = false := by
    cases e : d 9
    · rfl
    · rw [(h.o9 e).1] at h7; cases h7
  have h10 : d 10 = false := by
    cases e : d 10
    · rfl
    · rw [h.o10 e] at h9; cases h9
  exact ⟨h9, h10⟩
theorem PeJ.step0 (h : PeJ w1 A n c k l y AM cm M d u50 u51 u52 u53 u54 u55 u56 u57 u58 u59 u8 W) (h0 : d 0 = false) : PeJ w1 A n c k l y AM cm M (fun j => j == 0 || d j) (.slice (some ⟨W.heap.size, 0, none⟩) 0 0) u51 u52 u53 u54 u55 u56 u57 u58 u59 u8 (W.alloc madeEn) := by
  obtain ⟨h4, h7, h9, h10⟩ := h.n4 h0
  exact { h with
    b := h.b.alloc h.b.size _
    o4 := fun e => by rw [show (4 == 0 || d 4) = d 4 from rfl, h4] at e; cases e
    c0 := fun _ _ => Own.made h.b.size
    c4 := fun e => by rw [show (4 == 0 || d 4) = d 4 from rfl, h4] at e; cases e
    c6 := fun e1 e2 => by
      obtain ⟨g, e, hg, hs, _, hq⟩ := h.c6 e1 e2
      exact ⟨g, e, by simp; omega, hs.alloc _, fun _ _ e => (by have e2 : W.heap.size = g := (by simpa [Value.ownBlock] using e); omega), hq⟩
    c7 := fun e => by rw [show (7 == 0 || d 7) = d 7 from rfl, h7] at e; cases e
    c9 := fun e => by rw [show (9 == 0 || d 9) = d 9 from rfl, h9] at e; cases e }
theorem PeJ.step4 (h : PeJ w1 A n c k l y AM cm M d u50 u51 u52 u53 u54 u55 u56 u57 u58 u59 u8 W) (h0 : d 0 = true) (h3 : d 3 = true) (h4 : d 4 = false) (hown : Own W' w1.heap.size 100 2 encE v' ([] ++ l.take k)) (hb : Below w1.heap.size w1 W') (hg : Grew u50 W W') (hk : Kin u50 W v') :
    PeJ w1 A n c k l y AM cm M (fun j => j == 4 || d j) u50 u51 u52 u53 v' u55 u56 u57 u58 u59 u8 W' := by
  obtain ⟨h7, h9, h10⟩ := h.n7 (.inl h4)
  exact { h with
    b := hb
    o4 := fun _ => ⟨h0, h3⟩
    o7 := fun e => by rw [show (7 == 4 || d 7) = d 7 from rfl, h7] at e; cases e
    c0 := fun _ e => by cases e
    c4 := fun _ _ => by rw [List.nil_append] at hown; exact hown
    c6 := fun e1 e2 => by
      obtain ⟨g, e, hgl, hs, hp, _⟩ := h.c6 e1 e2
      have hne := hp h0 h4
      exact ⟨g, e, Nat.lt_of_lt_of_le hgl hg.size, hs.grew hg (fun b o e => by injection e with e; injection e with e; subst e; exact hne), (fun _ e => by cases e), (fun _ => hk g hgl hne)⟩
    c7 := fun e => by rw [show (7 == 4 || d 7) = d 7 from rfl, h7] at e; cases e
    c9 := fun e => by rw [show (9 == 4 || d 9) = d 9 from rfl, h9] at e; cases e }
theorem PeJ.step6 (h : PeJ w1 A n c k l y AM cm M d u50 u51 u52 u53 u54 u55 u56 u57 u58 u59 u8 W) (h6 : d 6 = false) : PeJ w1 A n c k l y AM cm M (fun j => j == 6 || d j) u50 u51 u52 u53 u54 u55 (.slice (some ⟨W.heap.size, 0, none⟩) 1 1) u57 u58 u59 u8 (W.alloc (rowEn y)) := by
  obtain ⟨h7, h9, h10⟩ := h.n7 (.inr h6)
  exact { h with
    b := h.b.alloc h.b.size _
    o7 := fun e => by rw [show (7 == 6 || d 7) = d 7 from rfl, h7] at e; cases e
    c0 := fun e1 e2 => (h.c0 e1 e2).alloc _
    c4 := fun e1 e2 => (h.c4 e1 e2).alloc _
    c6 := fun _ _ => ⟨W.heap.size, rfl, by simp, slEn_new W y, (fun e1 e2 e => by have := ((h.c0 e1 e2).blk _ e).2; omega), (fun e1 e => by have := ((h.c4 e1 h7).blk _ e).2; omega)⟩
    c7 := fun e => by rw [show (7 == 6 || d 7) = d 7 from rfl, h7] at e; cases e
    c9 := fun e => by rw [show (9 == 6 || d 9) = d 9 from rfl, h9] at e; cases e }
theorem PeJ.step7 (h : PeJ w1 A n c k l y AM cm M d u50 u51 u52 u53 u54 u55 u56 u57 u58 u59 u8 W) (h4 : d 4 = true) (h6 : d 6 = true) (h7 : d 7 = false) (hown : Own W' w1.heap.size 100 2 encE v' (l.take k ++ [y])) (hb : Below w1.heap.size w1 W') :
    PeJ w1 A n c k l y AM cm M (fun j => j == 7 || d j) u50 u51 u52 u53 u54 u55 u56 v' u58 u59 u8 W' := by
  obtain ⟨h9, h10⟩ := h.n9 h7
  exact { h with
    b := hb
    o7 := fun _ => ⟨h4, h6⟩
    o9 := fun e => by rw [show (9 == 7 || d 9) = d 9 from rfl, h9] at e; cases e
    c0 := fun _ e => by rw [show (4 == 7 || d 4) = d 4 from rfl, h4] at e; cases e
    c4 := fun _ e => by cases e
    c6 := fun _ e => by cases e
    c7 := fun _ _ => hown
    c9 := fun e => by rw [show (9 == 7 || d 9) = d 9 from rfl, h9] at e; cases e }
theorem PeJ.step9 (h : PeJ w1 A n c k l y AM cm M d u50 u51 u52 u53 u54 u55 u56 u57 u58 u59 u8 W) (h7 : d 7 = true) (h8 : d 8 = true) (h9 : d 9 = false) (hown : Own W' w1.heap.size 100 2 encE v' (l.take k ++ [y] ++ M)) (hb : Below w1.heap.size w1 W') :
    PeJ w1 A n c k l y AM cm M (fun j => j == 9 || d j) u50 u51 u52 u53 u54 u55 u56 u57 u58 v' u8 W' := by
  have h4 := (h.o7 h7).1
  have h10 : d 10 = false := by
    cases e : d 10
    · rfl
    · rw [h.o10 e] at h9; cases h9
  exact { h with
    b := hb
    o10 := fun e => by rw [show (10 == 9 || d 10) = d 10 from rfl, h10] at e; cases e
    c10 := fun e => by rw [show (10 == 9 || d 10) = d 10 from rfl, h10] at e; cases e
    o9 := fun _ => ⟨h7, h8⟩
    c0 := fun _ e => by rw [show (4 == 9 || d 4) = d 4 from rfl, h4] at e; cases e
    c4 := fun _ e => by rw [show (7 == 9 || d 7) = d 7 from rfl, h7] at e; cases e
    c6 := fun _ e => by rw [show (7 == 9 || d 7) = d 7 from rfl, h7] at e; cases e
    c7 := fun _ e => by cases e
    c9 := fun _ => hown }
end
set_option maxHeartbeats 8000000 in
set_option maxRecDepth 100000 in
theorem sPutEntry_any (A : Option Addr) (c : Nat) (l : List En) (e0 : En) (w : World) (hs : Sl w encE 2 A l) (hcz : A = none → c = 0) (hA : A = none ∨ ∃ b o, A = some ⟨b, o, none⟩) (hle : l.length ≤ c) (hv : entsV l = true) (he : e0.1.size ≤ 16777216) :
    Calls Tryd.prog 106 #[.slice A l.length c, .agg #[.string e0.1, .int .i64 e0.2]] w (EnRes (putE l e0) w) := by
  have HS := Lib.hid hs
  have HCZ := Lib.hid hcz
  have hl3 := entsV_len hv
  have hEV := fun w h => sEntriesValid_any A c l w h (by omega) (fitE_valid hv)
  rw [hv] at hEV
  have HEV := Lib.hid hEV
  have hil := insE_len l e0
  have HEI := Lib.hid (fun A c w h => sEntriesValid_any A c (insE l e0) w h (by omega) (fitE_ins hv he))
  have HPY := Lib.hid (show entsV (insE l e0) = true → putE l e0 = (insE l e0, true) from fun h => by unfold putE; rw [hv, if_pos rfl, h, if_pos rfl])
  have HPN := Lib.hid (show entsV (insE l e0) = false → putE l e0 = (l, false) from fun h => by unfold putE; rw [hv, if_pos rfl, h]; rfl)
  have HIH := Lib.hid (fun k hk h1 h2 => @insE_here l e0 k hk h1 h2)
  have HIN := Lib.hid (fun k h1 h2 => @insE_not l e0 k h1 h2)
  have HPO := Lib.hid (fun i => posE_of l (tx e0.1) i)
  obtain ⟨t, a9⟩ := e0
  simp only at *
  have HBOX := Lib.hid (BoxE.new w (t, a9))
  have HB := Lib.hid ((Below.refl w.heap.size w).alloc (Nat.le_refl _) (rowEn (t, a9)))
  clear hEV hs hcz
  generalize putE l (t, a9) = R at *
  unfold EnRes
  go_enter Tryd.func106, Tryd.ntmps106
  go_wp2_with fail
  refine (HEV.out _ (HS.out.alloc _)).mono ?_
  rintro e w1 ⟨rfl, hb⟩
  replace HB := Lib.hid (HB.out.trans (hb.mono (by simp)))
  replace HBOX := Lib.hid (HBOX.out.below hb)
  clear hb
  go_wp2_with fail
  go_loopw [6] (fun i wr => ∃ (k : Nat), k ≤ l.length ∧ i = .int .i64 k ∧ Hid (∀ j (h : j < l.length), j < k → lessB (tx l[j].1) (tx t) = true) ∧ Hid (Below w1.heap.size w1 wr)) (fun i _ => l.length - (intOf i).toNat)
  case atStart => exact ⟨0, Nat.zero_le _, rfl, fun j h h2 => by omega, Below.refl _ _⟩
  case round =>
    obtain ⟨k, hk, rfl, HJ, HBJ⟩ := hrel
    have HBW := Lib.hid (Below_then HB.out HBJ.out (Nat.le_refl _))
    replace HBOX := Lib.hid (HBOX.out.below HBJ.out)
    have hx0 := far_cell HBOX.out.1
    have hx1 := far_cell HBOX.out.2
    by_cases hlt : k < l.length
    · have hlt' : (k : Int) < (l.length : Int) := by omega
      obtain ⟨b, o, rfl, hc0, hc1⟩ := (HS.out.below HBW.out).getE hlt
      have z0 := far_cell hc0
      have z1 := far_cell hc1
      have HNX := Lib.hid (fun (hx : lessB (tx l[k].1) (tx t) = true) (j : Nat) (h : j < l.length) (hj : j < k + 1) => show lessB (tx l[j].1) (tx t) = true by
        by_cases e : j = k
        · subst e; exact hx
        · exact HJ.out j h (by omega))
      have HPE := Lib.hid (fun (hx : lessB (tx l[k].1) (tx t) = false) => HPO.out k hk HJ.out (fun _ => hx))
      have HH1 := Lib.hid (fun hp h => HIH.out k hlt hp h)
      have HH2 := Lib.hid (fun hp (h : tx l[k].1 ≠ tx t) => HIN.out k hp (fun _ => h))
      generalize l[k] = y at *
      obtain ⟨n, p⟩ := y
      simp only at *
      cases hx : lessB (tx n) (tx t)
      · have HP := Lib.hid (HPE.out hx)
        have hx' := less_t hx
        clear hx
        by_cases hq : tx n = tx t
        · have heq : (n.toList == t.toList) = true := by rw [eq_tlx]; exact beq_iff_eq.2 hq
          have HINS := Lib.hid (HH1.out HP.out hq)
          clear hq HNX HPE HH1 HH2 HP
          go_wp2
          refine wp_region_far (by kernel_rfl) (by kernel_rfl) ?_
          repeat (go_big_quiet_step (fail))
          refine wpQuiet_nil ?_
          intro _ hwF
          obtain ⟨pF, hwF⟩ := hwF
          subst hwF
          replace HBW := Lib.hid (Below_then HBW.out (far_below _ pF) (Nat.le_refl _))
          replace HBOX := Lib.hid (HBOX.out.below (far_below _ pF))
          have hy0 := far_cell HBOX.out.1
          have hy1 := far_cell HBOX.out.2
          have y0 := far_cell (z0 pF)
          have y1 := far_cell (z1 pF)
          clear hx0 hx1 z0 z1 hc0 hc1
          generalize far _ pF = w2 at *
          have hrk : ¬ (c = k) := by omega
          go_wp2
          refine wp_region_far (by kernel_rfl) (by kernel_rfl) ?_
          repeat (go_big_quiet_step (fail))
          refine wpQuiet_nil ?_
          intro _ hwF
          obtain ⟨pF, hwF⟩ := hwF
          subst hwF
          replace HBW := Lib.hid (Below_then HBW.out (far_below _ pF) (Nat.le_refl _))
          replace HBOX := Lib.hid (HBOX.out.below (far_below _ pF))
          clear hy0 hy1 y0 y1
          generalize far _ pF = w3 at *
          have HSW := Lib.hid (HS.out.below HBW.out)
          by_cases hroom : c = k + 1
          · go_wp2
            have hdl : ((l.drop (k + 1))).length = 0 := by rw [List.length_drop]; omega
            have HMW := Lib.hid (show Sl w3 encE 2 (some ⟨b, o, none⟩) (l.drop (k + 1)) from fun h => by omega)
            have HMN := Lib.hid (show (l.drop (k + 1)).length = l.length - (k + 1) by rw [List.length_drop])
            have HCZM := Lib.hid (show ((some ⟨b, o, none⟩) : Option Addr) = none → 0 = 0 from fun h => by cases h)
            have htl : (l.take k).length = k := by rw [List.length_take]; omega
            have HTW := Lib.hid (show Sl w3 encE 2 (some ⟨b, o, none⟩) (l.take k) from HSW.out.takeE)
            have hkl : k ≤ l.length := by omega
            have HIX := Lib.hid (show l.take k ++ [(t, a9)] ++ (l.drop (k + 1)) = insE l (t, a9) by rw [HINS.out]; simp)
            have hkcap : k ≤ c := by omega
            have hml : ((l.drop (k + 1))).length ≤ 3 := by rw [HMN.out]; omega
            have HBOXW := HBOX
            have HROOM := Lib.hid hroom
            clear hroom
            refine wp_region_inv (by kernel_rfl) (by kernel_rfl) (fun a0 d a W => ∃ u50 u51 u52 u53 u54 u55 u56 u57 u58 u59 u8 : Value, a = ⟨#[Value.slice (some { block := b, off := o }) l.length c, Value.agg #[Value.string t, Value.int IntKind.i64 a9], undef, Value.pointer (some { block := w.heap.size, off := 0 }), Value.slice none 0 0, Value.bool false, Value.int IntKind.i64 (k : Int), Value.slice (some { block := b, off := o }) (l.length - (k + 1)) 0, u8, Value.slice (some { block := b, off := o }) l.length c, Value.bool true, Value.bool false, undef, Value.int IntKind.i64 (k : Int), Value.slice (some { block := b, off := o }) l.length c, Value.int IntKind.i64 (l.length : Int), Value.bool true, Value.bool true, Value.slice (some { block := b, off := o }) l.length c, Value.int IntKind.i64 (k : Int), Value.pointer (some { block := b, off := o + k * 2 }), Value.pointer (some { block := b, off := o + k * 2 }), Value.string n, Value.pointer (some { block := w.heap.size, off := 0 }), Value.string t, Value.bool false, Value.bool false, u27, u28, Value.slice (some { block := b, off := o }) l.length c, Value.int IntKind.i64 (k : Int), Value.slice (some { block := b, off := o + k * 2 }) (l.length - k) (c - k), Value.int IntKind.i64 (k : Int), Value.slice (some { block := b, off := o }) l.length c, Value.int IntKind.i64 (l.length : Int), Value.bool true, Value.bool true, Value.slice (some { block := b, off := o }) l.length c, Value.int IntKind.i64 (k : Int), Value.pointer (some { block := b, off := o + k * 2 }), Value.pointer (some { block := b, off := o + k * 2 }), Value.string n, Value.pointer (some { block := w.heap.size, off := 0 }), Value.string t, Value.bool true, Value.bool true, Value.slice (some { block := b, off := o }) l.length c, Value.int IntKind.i64 (k : Int), Value.int IntKind.i64 ((k : Int) + 1), Value.slice (some { block := b, off := o }) (l.length - (k + 1)) 0, u50, u51, u52, u53, u54, u55, u56, u57, u58, u59, undef, undef, undef, undef, undef, undef, undef], []⟩ ∧ PeJ w3 (some ⟨b, o, none⟩) l.length c (k) l (t, a9) (some ⟨b, o, none⟩) 0 (l.drop (k + 1)) d u50 u51 u52 u53 u54 u55 u56 u57 u58 u59 u8 W) ?_ ?_ ?_
            · exact ⟨_, _, _, _, _, _, _, _, _, _, _, rfl, Below_drewN (Below.refl _ _) 1, nofun, nofun, nofun, nofun, nofun, nofun, nofun, nofun, nofun, nofun, nofun, nofun, nofun, nofun, nofun⟩
            · refine ⟨?_, ?_, ?_, ?_, ?_, ?_, ?_, ?_, ?_, ?_, ?_, trivial⟩
              all_goals
                intro d a W K hd hdep hJ hK
                obtain ⟨u50, u51, u52, u53, u54, u55, u56, u57, u58, u59, u8, rfl, hj⟩ := hJ
                have HJ := Lib.hid hj
                have HK := Lib.hid hK
                have HD := Lib.hid hd
                have HDEP := Lib.hid hdep
                clear hj hK hd hdep
              · go_simp
                exact HK.out _ _ ⟨_, _, _, _, _, _, _, _, _, _, _, rfl, HJ.out.step0 HD.out⟩
              · go_simp
                exact HK.out _ _ ⟨_, _, _, _, _, _, _, _, _, _, _, rfl, { HJ.out with c1 := fun _ => rfl }⟩
              · go_simp
                exact HK.out _ _ ⟨_, _, _, _, _, _, _, _, _, _, _, rfl, { HJ.out with c2 := fun _ => rfl }⟩
              · obtain rfl := HJ.out.c1 (HDEP.out { on := 1, ground := Ground.data } (by simp) rfl)
                obtain rfl := HJ.out.c2 (HDEP.out { on := 2, ground := Ground.data } (by simp) rfl)
                go_simp
                exact HK.out _ _ ⟨_, _, _, _, _, _, _, _, _, _, _, rfl, { HJ.out with o4 := fun e => ⟨(HJ.out.o4 e).1, rfl⟩, c3 := fun _ => ⟨(some ⟨b, o, none⟩), c, (by rw [htl]), (by intro h; cases h), HTW.out⟩ }⟩
              · obtain ⟨A', c', rfl, hz, hsl⟩ := HJ.out.c3 (HDEP.out { on := 3, ground := Ground.data } (by simp) rfl)
                refine step_enK (w0 := w3) (by rfl) rfl (HJ.out.c0 (HDEP.out { on := 0, ground := Ground.data } (by simp) rfl) HD.out) HJ.out.b (by first | omega | (simp; done) | (simp; omega)) (hsl.below HJ.out.b) hz rfl rfl rfl ?_
                intro v' W' hown hb hg hk
                exact HK.out _ _ ⟨_, _, _, _, _, _, _, _, _, _, _, rfl, HJ.out.step4 (HDEP.out { on := 0, ground := Ground.data } (by simp) rfl) (HDEP.out { on := 3, ground := Ground.data } (by simp) rfl) HD.out hown hb hg hk⟩
              · have hb5 := HBOXW.out.below HJ.out.b
                have hb50 := hb5.1
                have hb51 := hb5.2
                clear hb5
                go_simp
                exact HK.out _ _ ⟨_, _, _, _, _, _, _, _, _, _, _, rfl, { HJ.out with c5 := fun _ => rfl }⟩
              · obtain rfl := HJ.out.c5 (HDEP.out { on := 5, ground := Ground.data } (by simp) rfl)
                go_simp
                exact HK.out _ _ ⟨_, _, _, _, _, _, _, _, _, _, _, rfl, HJ.out.step6 HD.out⟩
              · obtain ⟨g, rfl, hgl, hsl, _, hap⟩ := HJ.out.c6 (HDEP.out { on := 6, ground := Ground.data } (by simp) rfl) HD.out
                have hap := hap (HDEP.out { on := 4, ground := Ground.data } (by simp) rfl)
                refine step_enK (w0 := w3) (m := [(t, a9)]) (by rfl) rfl (HJ.out.c4 (HDEP.out { on := 4, ground := Ground.data } (by simp) rfl) HD.out) HJ.out.b (by first | omega | (simp; done) | (simp; omega)) hsl (by intro h; cases h) rfl rfl rfl ?_
                intro v' W' hown hb hg hk
                exact HK.out _ _ ⟨_, _, _, _, _, _, _, _, _, _, _, rfl, HJ.out.step7 (HDEP.out { on := 4, ground := Ground.data } (by simp) rfl) (HDEP.out { on := 6, ground := Ground.data } (by simp) rfl) HD.out hown hb⟩
              · go_simp
                exact HK.out _ _ ⟨_, _, _, _, _, _, _, _, _, _, _, rfl, { HJ.out with o9 := fun e => ⟨(HJ.out.o9 e).1, rfl⟩, c8 := fun _ => by rw [HMN.out] }⟩
              · obtain rfl := HJ.out.c8 (HDEP.out { on := 8, ground := Ground.data } (by simp) rfl)
                refine step_enK (w0 := w3) (by rfl) rfl (HJ.out.c7 (HDEP.out { on := 7, ground := Ground.data } (by simp) rfl) HD.out) HJ.out.b (by first | omega | (simp; done) | (simp; omega)) (HMW.out.below HJ.out.b) HCZM.out rfl rfl rfl ?_
                intro v' W' hown hb hg hk
                exact HK.out _ _ ⟨_, _, _, _, _, _, _, _, _, _, _, rfl, HJ.out.step9 (HDEP.out { on := 7, ground := Ground.data } (by simp) rfl) (HDEP.out { on := 8, ground := Ground.data } (by simp) rfl) HD.out hown hb⟩
              · go_simp
                exact HK.out _ _ ⟨_, _, _, _, _, _, _, _, _, _, _, rfl, { HJ.out with o10 := fun _ => (HDEP.out { on := 9, ground := Ground.data } (by simp) rfl), c10 := fun _ => rfl }⟩
            · intro d a W hd hJ
              obtain ⟨u50, u51, u52, u53, u54, u55, u56, u57, u58, u59, u8, rfl, hj⟩ := hJ
              obtain rfl := hj.c10 (hd 10 (by decide))
              have ho9 := hj.c9 (hd 9 (by decide))
              have hb9 := hj.b
              clear hj hd
              try simp only at ho9
              rw [HIX.out] at ho9
              have HB9 := Lib.hid (Below_then HBW.out hb9 (Nat.le_refl _))
              have HW9 := Lib.hid (ho9.mono HBW.out.size)
              clear ho9 hb9 HIX
              obtain ⟨X9, d9, rfl, hle9, hs9, _⟩ := HW9.out.sl
              have HS9 := Lib.hid hs9
              clear hs9
              cases hvi : entsV (insE l (t, a9))
              · have hp := HPN.out hvi
                have hEI := fun w h => HEI.out X9 d9 w h
                rw [hvi] at hEI
                have HEX := Lib.hid hEI
                have HR := Lib.hid hp
                clear hvi hp hEI
                go_wp2_with fail
                refine (HEX.out _ HS9.out).mono ?_
                rintro e w10 ⟨rfl, hb⟩
                replace HB9 := Lib.hid (Below_then HB9.out hb (Nat.le_refl _))
                have HSL := Lib.hid (HS.out.below HB9.out)
                clear hb
                go_wp2_with (at_builtin; refine app_enN (w0 := w10) (l := []) rfl rfl (Own.made (Nat.le_refl _)) ((Below.refl _ _).alloc (Nat.le_refl _) _) (by first | omega | (simp; done) | (simp; omega)) (HSL.out.alloc _) HCZ.out (by rfl) (by rfl) ?_; intro v5 w5 hown5 hb5 hg5; rw [List.nil_append] at hown5; have HW5 := Lib.hid hown5; have HB5 := Lib.hid hb5; clear hown5 hb5 hg5)
                go_ret2
                rw [HR.out]
                exact ⟨_, rfl, HW5.out.mono HB9.out.size, Below_then HB9.out HB5.out (Nat.le_refl _)⟩
              · have hp := HPY.out hvi
                have hEI := fun w h => HEI.out X9 d9 w h
                rw [hvi] at hEI
                have HEX := Lib.hid hEI
                have HR := Lib.hid hp
                clear hvi hp hEI
                go_wp2_with fail
                refine (HEX.out _ HS9.out).mono ?_
                rintro e w10 ⟨rfl, hb⟩
                replace HB9 := Lib.hid (Below_then HB9.out hb (Nat.le_refl _))
                replace HW9 := Lib.hid (HW9.out.below hb)
                clear hb
                go_wp2
                go_ret2
                rw [HR.out]
                exact ⟨_, rfl, HW9.out, HB9.out⟩
          · go_wp2
            have HMW := Lib.hid (HSW.out.dropE (n := (k + 1)) (by omega))
            have HMN := Lib.hid (show (l.drop (k + 1)).length = l.length - (k + 1) by rw [List.length_drop])
            have HCZM := Lib.hid (show ((some ⟨b, o + (k + 1) * 2, none⟩) : Option Addr) = none → (c - (k + 1)) = 0 from fun h => by cases h)
            have htl : (l.take k).length = k := by rw [List.length_take]; omega
            have HTW := Lib.hid (show Sl w3 encE 2 (some ⟨b, o, none⟩) (l.take k) from HSW.out.takeE)
            have hkl : k ≤ l.length := by omega
            have HIX := Lib.hid (show l.take k ++ [(t, a9)] ++ (l.drop (k + 1)) = insE l (t, a9) by rw [HINS.out]; simp)
            have hkcap : k ≤ c := by omega
            have hml : ((l.drop (k + 1))).length ≤ 3 := by rw [HMN.out]; omega
            have HBOXW := HBOX
            refine wp_region_inv (by kernel_rfl) (by kernel_rfl) (fun a0 d a W => ∃ u50 u51 u52 u53 u54 u55 u56 u57 u58 u59 u8 : Value, a = ⟨#[Value.slice (some { block := b, off := o }) l.length c, Value.agg #[Value.string t, Value.int IntKind.i64 a9], undef, Value.pointer (some { block := w.heap.size, off := 0 }), Value.slice none 0 0, Value.bool false, Value.int IntKind.i64 (k : Int), Value.slice (some { block := b, off := o + (k + 1) * 2 }) (l.length - (k + 1)) (c - (k + 1)), u8, Value.slice (some { block := b, off := o }) l.length c, Value.bool true, Value.bool false, undef, Value.int IntKind.i64 (k : Int), Value.slice (some { block := b, off := o }) l.length c, Value.int IntKind.i64 (l.length : Int), Value.bool true, Value.bool true, Value.slice (some { block := b, off := o }) l.length c, Value.int IntKind.i64 (k : Int), Value.pointer (some { block := b, off := o + k * 2 }), Value.pointer (some { block := b, off := o + k * 2 }), Value.string n, Value.pointer (some { block := w.heap.size, off := 0 }), Value.string t, Value.bool false, Value.bool false, u27, u28, Value.slice (some { block := b, off := o }) l.length c, Value.int IntKind.i64 (k : Int), Value.slice (some { block := b, off := o + k * 2 }) (l.length - k) (c - k), Value.int IntKind.i64 (k : Int), Value.slice (some { block := b, off := o }) l.length c, Value.int IntKind.i64 (l.length : Int), Value.bool true, Value.bool true, Value.slice (some { block := b, off := o }) l.length c, Value.int IntKind.i64 (k : Int), Value.pointer (some { block := b, off := o + k * 2 }), Value.pointer (some { block := b, off := o + k * 2 }), Value.string n, Value.pointer (some { block := w.heap.size, off := 0 }), Value.string t, Value.bool true, Value.bool true, Value.slice (some { block := b, off := o }) l.length c, Value.int IntKind.i64 (k : Int), Value.int IntKind.i64 ((k : Int) + 1), Value.slice (some { block := b, off := o + (k + 1) * 2 }) (l.length - (k + 1)) (c - (k + 1)), u50, u51, u52, u53, u54, u55, u56, u57, u58, u59, undef, undef, undef, undef, undef, undef, undef], []⟩ ∧ PeJ w3 (some ⟨b, o, none⟩) l.length c (k) l (t, a9) (some ⟨b, o + (k + 1) * 2, none⟩) (c - (k + 1)) (l.drop (k + 1)) d u50 u51 u52 u53 u54 u55 u56 u57 u58 u59 u8 W) ?_ ?_ ?_
            · exact ⟨_, _, _, _, _, _, _, _, _, _, _, rfl, Below_drewN (Below.refl _ _) 1, nofun, nofun, nofun, nofun, nofun, nofun, nofun, nofun, nofun, nofun, nofun, nofun, nofun, nofun, nofun⟩
            · refine ⟨?_, ?_, ?_, ?_, ?_, ?_, ?_, ?_, ?_, ?_, ?_, trivial⟩
              all_goals
                intro d a W K hd hdep hJ hK
                obtain ⟨u50, u51, u52, u53, u54, u55, u56, u57, u58, u59, u8, rfl, hj⟩ := hJ
                have HJ := Lib.hid hj
                have HK := Lib.hid hK
                have HD := Lib.hid hd
                have HDEP := Lib.hid hdep
                clear hj hK hd hdep
              · go_simp
                exact HK.out _ _ ⟨_, _, _, _, _, _, _, _, _, _, _, rfl, HJ.out.step0 HD.out⟩
              · go_simp
                exact HK.out _ _ ⟨_, _, _, _, _, _, _, _, _, _, _, rfl, { HJ.out with c1 := fun _ => rfl }⟩
              · go_simp
                exact HK.out _ _ ⟨_, _, _, _, _, _, _, _, _, _, _, rfl, { HJ.out with c2 := fun _ => rfl }⟩
              · obtain rfl := HJ.out.c1 (HDEP.out { on := 1, ground := Ground.data } (by simp) rfl)
                obtain rfl := HJ.out.c2 (HDEP.out { on := 2, ground := Ground.data } (by simp) rfl)
                go_simp
                exact HK.out _ _ ⟨_, _, _, _, _, _, _, _, _, _, _, rfl, { HJ.out with o4 := fun e => ⟨(HJ.out.o4 e).1, rfl⟩, c3 := fun _ => ⟨(some ⟨b, o, none⟩), c, (by rw [htl]), (by intro h; cases h), HTW.out⟩ }⟩
              · obtain ⟨A', c', rfl, hz, hsl⟩ := HJ.out.c3 (HDEP.out { on := 3, ground := Ground.data } (by simp) rfl)
                refine step_enK (w0 := w3) (by rfl) rfl (HJ.out.c0 (HDEP.out { on := 0, ground := Ground.data } (by simp) rfl) HD.out) HJ.out.b (by first | omega | (simp; done) | (simp; omega)) (hsl.below HJ.out.b) hz rfl rfl rfl ?_
                intro v' W' hown hb hg hk
                exact HK.out _ _ ⟨_, _, _, _, _, _, _, _, _, _, _, rfl, HJ.out.step4 (HDEP.out { on := 0, ground := Ground.data } (by simp) rfl) (HDEP.out { on := 3, ground := Ground.data } (by simp) rfl) HD.out hown hb hg hk⟩
              · have hb5 := HBOXW.out.below HJ.out.b
                have hb50 := hb5.1
                have hb51 := hb5.2
                clear hb5
                go_simp
                exact HK.out _ _ ⟨_, _, _, _, _, _, _, _, _, _, _, rfl, { HJ.out with c5 := fun _ => rfl }⟩
              · obtain rfl := HJ.out.c5 (HDEP.out { on := 5, ground := Ground.data } (by simp) rfl)
                go_simp
                exact HK.out _ _ ⟨_, _, _, _, _, _, _, _, _, _, _, rfl, HJ.out.step6 HD.out⟩
              · obtain ⟨g, rfl, hgl, hsl, _, hap⟩ := HJ.out.c6 (HDEP.out { on := 6, ground := Ground.data } (by simp) rfl) HD.out
                have hap := hap (HDEP.out { on := 4, ground := Ground.data } (by simp) rfl)
                refine step_enK (w0 := w3) (m := [(t, a9)]) (by rfl) rfl (HJ.out.c4 (HDEP.out { on := 4, ground := Ground.data } (by simp) rfl) HD.out) HJ.out.b (by first | omega | (simp; done) | (simp; omega)) hsl (by intro h; cases h) rfl rfl rfl ?_
                intro v' W' hown hb hg hk
                exact HK.out _ _ ⟨_, _, _, _, _, _, _, _, _, _, _, rfl, HJ.out.step7 (HDEP.out { on := 4, ground := Ground.data } (by simp) rfl) (HDEP.out { on := 6, ground := Ground.data } (by simp) rfl) HD.out hown hb⟩
              · go_simp
                exact HK.out _ _ ⟨_, _, _, _, _, _, _, _, _, _, _, rfl, { HJ.out with o9 := fun e => ⟨(HJ.out.o9 e).1, rfl⟩, c8 := fun _ => by rw [HMN.out] }⟩
              · obtain rfl := HJ.out.c8 (HDEP.out { on := 8, ground := Ground.data } (by simp) rfl)
                refine step_enK (w0 := w3) (by rfl) rfl (HJ.out.c7 (HDEP.out { on := 7, ground := Ground.data } (by simp) rfl) HD.out) HJ.out.b (by first | omega | (simp; done) | (simp; omega)) (HMW.out.below HJ.out.b) HCZM.out rfl rfl rfl ?_
                intro v' W' hown hb hg hk
                exact HK.out _ _ ⟨_, _, _, _, _, _, _, _, _, _, _, rfl, HJ.out.step9 (HDEP.out { on := 7, ground := Ground.data } (by simp) rfl) (HDEP.out { on := 8, ground := Ground.data } (by simp) rfl) HD.out hown hb⟩
              · go_simp
                exact HK.out _ _ ⟨_, _, _, _, _, _, _, _, _, _, _, rfl, { HJ.out with o10 := fun _ => (HDEP.out { on := 9, ground := Ground.data } (by simp) rfl), c10 := fun _ => rfl }⟩
            · intro d a W hd hJ
              obtain ⟨u50, u51, u52, u53, u54, u55, u56, u57, u58, u59, u8, rfl, hj⟩ := hJ
              obtain rfl := hj.c10 (hd 10 (by decide))
              have ho9 := hj.c9 (hd 9 (by decide))
              have hb9 := hj.b
              clear hj hd
              try simp only at ho9
              rw [HIX.out] at ho9
              have HB9 := Lib.hid (Below_then HBW.out hb9 (Nat.le_refl _))
              have HW9 := Lib.hid (ho9.mono HBW.out.size)
              clear ho9 hb9 HIX
              obtain ⟨X9, d9, rfl, hle9, hs9, _⟩ := HW9.out.sl
              have HS9 := Lib.hid hs9
              clear hs9
              cases hvi : entsV (insE l (t, a9))
              · have hp := HPN.out hvi
                have hEI := fun w h => HEI.out X9 d9 w h
                rw [hvi] at hEI
                have HEX := Lib.hid hEI
                have HR := Lib.hid hp
                clear hvi hp hEI
                go_wp2_with fail
                refine (HEX.out _ HS9.out).mono ?_
                rintro e w10 ⟨rfl, hb⟩
                replace HB9 := Lib.hid (Below_then HB9.out hb (Nat.le_refl _))
                have HSL := Lib.hid (HS.out.below HB9.out)
                clear hb
                go_wp2_with (at_builtin; refine app_enN (w0 := w10) (l := []) rfl rfl (Own.made (Nat.le_refl _)) ((Below.refl _ _).alloc (Nat.le_refl _) _) (by first | omega | (simp; done) | (simp; omega)) (HSL.out.alloc _) HCZ.out (by rfl) (by rfl) ?_; intro v5 w5 hown5 hb5 hg5; rw [List.nil_append] at hown5; have HW5 := Lib.hid hown5; have HB5 := Lib.hid hb5; clear hown5 hb5 hg5)
                go_ret2
                rw [HR.out]
                exact ⟨_, rfl, HW5.out.mono HB9.out.size, Below_then HB9.out HB5.out (Nat.le_refl _)⟩
              · have hp := HPY.out hvi
                have hEI := fun w h => HEI.out X9 d9 w h
                rw [hvi] at hEI
                have HEX := Lib.hid hEI
                have HR := Lib.hid hp
                clear hvi hp hEI
                go_wp2_with fail
                refine (HEX.out _ HS9.out).mono ?_
                rintro e w10 ⟨rfl, hb⟩
                replace HB9 := Lib.hid (Below_then HB9.out hb (Nat.le_refl _))
                replace HW9 := Lib.hid (HW9.out.below hb)
                clear hb
                go_wp2
                go_ret2
                rw [HR.out]
                exact ⟨_, rfl, HW9.out, HB9.out⟩
        · have heq : (n.toList == t.toList) = false := by rw [eq_tlx, beq_eq_false_iff_ne]; exact hq
          have HINS := Lib.hid (HH2.out HP.out hq)
          have hroom : ¬ (c = k) := by omega
          clear hq HNX HPE HH1 HH2 HP
          go_wp2
          refine wp_region_far (by kernel_rfl) (by kernel_rfl) ?_
          repeat (go_big_quiet_step (fail))
          refine wpQuiet_nil ?_
          intro _ hwF
          obtain ⟨pF, hwF⟩ := hwF
          subst hwF
          replace HBW := Lib.hid (Below_then HBW.out (far_below _ pF) (Nat.le_refl _))
          replace HBOX := Lib.hid (HBOX.out.below (far_below _ pF))
          have hy0 := far_cell HBOX.out.1
          have hy1 := far_cell HBOX.out.2
          have y0 := far_cell (z0 pF)
          have y1 := far_cell (z1 pF)
          clear hx0 hx1 z0 z1 hc0 hc1
          generalize far _ pF = w2 at *
          go_wp2
          refine wp_region_far (by kernel_rfl) (by kernel_rfl) ?_
          repeat (go_big_quiet_step (fail))
          refine wpQuiet_nil ?_
          intro _ hwF
          obtain ⟨pF, hwF⟩ := hwF
          subst hwF
          replace HBW := Lib.hid (Below_then HBW.out (far_below _ pF) (Nat.le_refl _))
          replace HBOX := Lib.hid (HBOX.out.below (far_below _ pF))
          clear hy0 hy1 y0 y1
          generalize far _ pF = w3 at *
          have HSW := Lib.hid (HS.out.below HBW.out)
          go_wp2
          have HMW := Lib.hid (HSW.out.dropE (n := k) (by omega))
          have HMN := Lib.hid (show (l.drop k).length = l.length - k by rw [List.length_drop])
          have HCZM := Lib.hid (show ((some ⟨b, o + k * 2, none⟩) : Option Addr) = none → (c - k) = 0 from fun h => by cases h)
          have htl : (l.take k).length = k := by rw [List.length_take]; omega
          have HTW := Lib.hid (show Sl w3 encE 2 (some ⟨b, o, none⟩) (l.take k) from HSW.out.takeE)
          have hkl : k ≤ l.length := by omega
          have HIX := Lib.hid (show l.take k ++ [(t, a9)] ++ (l.drop k) = insE l (t, a9) by rw [HINS.out]; simp)
          have hkcap : k ≤ c := by omega
          have hml : ((l.drop k)).length ≤ 3 := by rw [HMN.out]; omega
          have HBOXW := HBOX
          refine wp_region_inv (by kernel_rfl) (by kernel_rfl) (fun a0 d a W => ∃ u50 u51 u52 u53 u54 u55 u56 u57 u58 u59 u8 : Value, a = ⟨#[Value.slice (some { block := b, off := o }) l.length c, Value.agg #[Value.string t, Value.int IntKind.i64 a9], undef, Value.pointer (some { block := w.heap.size, off := 0 }), Value.slice none 0 0, Value.bool false, Value.int IntKind.i64 (k : Int), Value.slice (some { block := b, off := o + k * 2 }) (l.length - k) (c - k), u8, Value.slice (some { block := b, off := o }) l.length c, Value.bool true, Value.bool false, undef, Value.int IntKind.i64 (k : Int), Value.slice (some { block := b, off := o }) l.length c, Value.int IntKind.i64 (l.length : Int), Value.bool true, Value.bool true, Value.slice (some { block := b, off := o }) l.length c, Value.int IntKind.i64 (k : Int), Value.pointer (some { block := b, off := o + k * 2 }), Value.pointer (some { block := b, off := o + k * 2 }), Value.string n, Value.pointer (some { block := w.heap.size, off := 0 }), Value.string t, Value.bool false, Value.bool false, u27, u28, Value.slice (some { block := b, off := o }) l.length c, Value.int IntKind.i64 (k : Int), Value.slice (some { block := b, off := o + k * 2 }) (l.length - k) (c - k), Value.int IntKind.i64 (k : Int), Value.slice (some { block := b, off := o }) l.length c, Value.int IntKind.i64 (l.length : Int), Value.bool true, Value.bool true, Value.slice (some { block := b, off := o }) l.length c, Value.int IntKind.i64 (k : Int), Value.pointer (some { block := b, off := o + k * 2 }), Value.pointer (some { block := b, off := o + k * 2 }), Value.string n, Value.pointer (some { block := w.heap.size, off := 0 }), Value.string t, Value.bool false, Value.bool false, undef, undef, undef, undef, u50, u51, u52, u53, u54, u55, u56, u57, u58, u59, undef, undef, undef, undef, undef, undef, undef], []⟩ ∧ PeJ w3 (some ⟨b, o, none⟩) l.length c (k) l (t, a9) (some ⟨b, o + k * 2, none⟩) (c - k) (l.drop k) d u50 u51 u52 u53 u54 u55 u56 u57 u58 u59 u8 W) ?_ ?_ ?_
          · exact ⟨_, _, _, _, _, _, _, _, _, _, _, rfl, Below_drewN (Below.refl _ _) 1, nofun, nofun, nofun, nofun, nofun, nofun, nofun, nofun, nofun, nofun, nofun, nofun, nofun, nofun, nofun⟩
          · refine ⟨?_, ?_, ?_, ?_, ?_, ?_, ?_, ?_, ?_, ?_, ?_, trivial⟩
            all_goals
              intro d a W K hd hdep hJ hK
              obtain ⟨u50, u51, u52, u53, u54, u55, u56, u57, u58, u59, u8, rfl, hj⟩ := hJ
              have HJ := Lib.hid hj
              have HK := Lib.hid hK
              have HD := Lib.hid hd
              have HDEP := Lib.hid hdep
              clear hj hK hd hdep
            · go_simp
              exact HK.out _ _ ⟨_, _, _, _, _, _, _, _, _, _, _, rfl, HJ.out.step0 HD.out⟩
            · go_simp
              exact HK.out _ _ ⟨_, _, _, _, _, _, _, _, _, _, _, rfl, { HJ.out with c1 := fun _ => rfl }⟩
            · go_simp
              exact HK.out _ _ ⟨_, _, _, _, _, _, _, _, _, _, _, rfl, { HJ.out with c2 := fun _ => rfl }⟩
            · obtain rfl := HJ.out.c1 (HDEP.out { on := 1, ground := Ground.data } (by simp) rfl)
              obtain rfl := HJ.out.c2 (HDEP.out { on := 2, ground := Ground.data } (by simp) rfl)
              go_simp
              exact HK.out _ _ ⟨_, _, _, _, _, _, _, _, _, _, _, rfl, { HJ.out with o4 := fun e => ⟨(HJ.out.o4 e).1, rfl⟩, c3 := fun _ => ⟨(some ⟨b, o, none⟩), c, (by rw [htl]), (by intro h; cases h), HTW.out⟩ }⟩
            · obtain ⟨A', c', rfl, hz, hsl⟩ := HJ.out.c3 (HDEP.out { on := 3, ground := Ground.data } (by simp) rfl)
              refine step_enK (w0 := w3) (by rfl) rfl (HJ.out.c0 (HDEP.out { on := 0, ground := Ground.data } (by simp) rfl) HD.out) HJ.out.b (by first | omega | (simp; done) | (simp; omega)) (hsl.below HJ.out.b) hz rfl rfl rfl ?_
              intro v' W' hown hb hg hk
              exact HK.out _ _ ⟨_, _, _, _, _, _, _, _, _, _, _, rfl, HJ.out.step4 (HDEP.out { on := 0, ground := Ground.data } (by simp) rfl) (HDEP.out { on := 3, ground := Ground.data } (by simp) rfl) HD.out hown hb hg hk⟩
            · have hb5 := HBOXW.out.below HJ.out.b
              have hb50 := hb5.1
              have hb51 := hb5.2
              clear hb5
              go_simp
              exact HK.out _ _ ⟨_, _, _, _, _, _, _, _, _, _, _, rfl, { HJ.out with c5 := fun _ => rfl }⟩
            · obtain rfl := HJ.out.c5 (HDEP.out { on := 5, ground := Ground.data } (by simp) rfl)
              go_simp
              exact HK.out _ _ ⟨_, _, _, _, _, _, _, _, _, _, _, rfl, HJ.out.step6 HD.out⟩
            · obtain ⟨g, rfl, hgl, hsl, _, hap⟩ := HJ.out.c6 (HDEP.out { on := 6, ground := Ground.data } (by simp) rfl) HD.out
              have hap := hap (HDEP.out { on := 4, ground := Ground.data } (by simp) rfl)
              refine step_enK (w0 := w3) (m := [(t, a9)]) (by rfl) rfl (HJ.out.c4 (HDEP.out { on := 4, ground := Ground.data } (by simp) rfl) HD.out) HJ.out.b (by first | omega | (simp; done) | (simp; omega)) hsl (by intro h; cases h) rfl rfl rfl ?_
              intro v' W' hown hb hg hk
              exact HK.out _ _ ⟨_, _, _, _, _, _, _, _, _, _, _, rfl, HJ.out.step7 (HDEP.out { on := 4, ground := Ground.data } (by simp) rfl) (HDEP.out { on := 6, ground := Ground.data } (by simp) rfl) HD.out hown hb⟩
            · go_simp
              exact HK.out _ _ ⟨_, _, _, _, _, _, _, _, _, _, _, rfl, { HJ.out with o9 := fun e => ⟨(HJ.out.o9 e).1, rfl⟩, c8 := fun _ => by rw [HMN.out] }⟩
            · obtain rfl := HJ.out.c8 (HDEP.out { on := 8, ground := Ground.data } (by simp) rfl)
              refine step_enK (w0 := w3) (by rfl) rfl (HJ.out.c7 (HDEP.out { on := 7, ground := Ground.data } (by simp) rfl) HD.out) HJ.out.b (by first | omega | (simp; done) | (simp; omega)) (HMW.out.below HJ.out.b) HCZM.out rfl rfl rfl ?_
              intro v' W' hown hb hg hk
              exact HK.out _ _ ⟨_, _, _, _, _, _, _, _, _, _, _, rfl, HJ.out.step9 (HDEP.out { on := 7, ground := Ground.data } (by simp) rfl) (HDEP.out { on := 8, ground := Ground.data } (by simp) rfl) HD.out hown hb⟩
            · go_simp
              exact HK.out _ _ ⟨_, _, _, _, _, _, _, _, _, _, _, rfl, { HJ.out with o10 := fun _ => (HDEP.out { on := 9, ground := Ground.data } (by simp) rfl), c10 := fun _ => rfl }⟩
          · intro d a W hd hJ
            obtain ⟨u50, u51, u52, u53, u54, u55, u56, u57, u58, u59, u8, rfl, hj⟩ := hJ
            obtain rfl := hj.c10 (hd 10 (by decide))
            have ho9 := hj.c9 (hd 9 (by decide))
            have hb9 := hj.b
            clear hj hd
            try simp only at ho9
            rw [HIX.out] at ho9
            have HB9 := Lib.hid (Below_then HBW.out hb9 (Nat.le_refl _))
            have HW9 := Lib.hid (ho9.mono HBW.out.size)
            clear ho9 hb9 HIX
            obtain ⟨X9, d9, rfl, hle9, hs9, _⟩ := HW9.out.sl
            have HS9 := Lib.hid hs9
            clear hs9
            cases hvi : entsV (insE l (t, a9))
            · have hp := HPN.out hvi
              have hEI := fun w h => HEI.out X9 d9 w h
              rw [hvi] at hEI
              have HEX := Lib.hid hEI
              have HR := Lib.hid hp
              clear hvi hp hEI
              go_wp2_with fail
              refine (HEX.out _ HS9.out).mono ?_
              rintro e w10 ⟨rfl, hb⟩
              replace HB9 := Lib.hid (Below_then HB9.out hb (Nat.le_refl _))
              have HSL := Lib.hid (HS.out.below HB9.out)
              clear hb
              go_wp2_with (at_builtin; refine app_enN (w0 := w10) (l := []) rfl rfl (Own.made (Nat.le_refl _)) ((Below.refl _ _).alloc (Nat.le_refl _) _) (by first | omega | (simp; done) | (simp; omega)) (HSL.out.alloc _) HCZ.out (by rfl) (by rfl) ?_; intro v5 w5 hown5 hb5 hg5; rw [List.nil_append] at hown5; have HW5 := Lib.hid hown5; have HB5 := Lib.hid hb5; clear hown5 hb5 hg5)
              go_ret2
              rw [HR.out]
              exact ⟨_, rfl, HW5.out.mono HB9.out.size, Below_then HB9.out HB5.out (Nat.le_refl _)⟩
            · have hp := HPY.out hvi
              have hEI := fun w h => HEI.out X9 d9 w h
              rw [hvi] at hEI
              have HEX := Lib.hid hEI
              have HR := Lib.hid hp
              clear hvi hp hEI
              go_wp2_with fail
              refine (HEX.out _ HS9.out).mono ?_
              rintro e w10 ⟨rfl, hb⟩
              replace HB9 := Lib.hid (Below_then HB9.out hb (Nat.le_refl _))
              replace HW9 := Lib.hid (HW9.out.below hb)
              clear hb
              go_wp2
              go_ret2
              rw [HR.out]
              exact ⟨_, rfl, HW9.out, HB9.out⟩
      · have HN := Lib.hid (HNX.out hx)
        have hx' := less_t hx
        clear hx HNX HPE HH1 HH2
        go_wp2
        refine wp_region_far (by kernel_rfl) (by kernel_rfl) ?_
        repeat (go_big_quiet_step (fail))
        refine wpQuiet_nil ?_
        intro _ hwF
        obtain ⟨pF, hwF⟩ := hwF
        subst hwF
        have HBF := Lib.hid (Below_then HBJ.out (far_below _ pF) (Nat.le_refl _))
        clear hx0 hx1 z0 z1 hc0 hc1
        generalize far _ pF = w2 at *
        go_wp2
        go_roundw
        case rel => exact ⟨k + 1, by omega, by go_num, HN.out, HBF.out⟩
        case measure => simp [intOf]; omega
    · have hlt' : ¬ (k : Int) < (l.length : Int) := by omega
      obtain rfl : k = l.length := by omega
      have HINS := Lib.hid (HIN.out l.length (HPO.out l.length (Nat.le_refl _) HJ.out (fun h => absurd h (by omega))) (fun h => absurd h (by omega)))
      go_wp2
      refine wp_region_far (by kernel_rfl) (by kernel_rfl) ?_
      repeat (go_big_quiet_step (fail))
      refine wpQuiet_nil ?_
      intro _ hwF
      obtain ⟨pF, hwF⟩ := hwF
      subst hwF
      replace HBW := Lib.hid (Below_then HBW.out (far_below _ pF) (Nat.le_refl _))
      replace HBOX := Lib.hid (HBOX.out.below (far_below _ pF))
      have hy0 := far_cell HBOX.out.1
      have hy1 := far_cell HBOX.out.2
      clear hx0 hx1
      generalize far _ pF = w2 at *
      rcases hA with rfl | ⟨b, o, rfl⟩
      · have hc0 : c = 0 := HCZ.out rfl
        have hl0 : l.length = 0 := by omega
        obtain rfl : l = [] := List.eq_nil_of_length_eq_zero hl0
        replace HINS := Lib.hid (show insE [] (t, a9) = ([] : List En) ++ (t, a9) :: ([] : List En) from HINS.out)
        go_wp2
        refine wp_region_far (by kernel_rfl) (by kernel_rfl) ?_
        repeat (go_big_quiet_step (fail))
        refine wpQuiet_nil ?_
        intro _ hwF
        obtain ⟨pF, hwF⟩ := hwF
        subst hwF
        replace HBW := Lib.hid (Below_then HBW.out (far_below _ pF) (Nat.le_refl _))
        replace HBOX := Lib.hid (HBOX.out.below (far_below _ pF))
        clear hy0 hy1
        generalize far _ pF = w3 at *
        have HSW := Lib.hid (HS.out.below HBW.out)
        go_wp2
        have HMW := Lib.hid (show Sl w3 encE 2 none ([] : List En) from Sl.none_)
        have HMN := Lib.hid (show ([] : List En).length = 0 from rfl)
        have HCZM := Lib.hid (show (none : Option Addr) = none → 0 = 0 from fun _ => rfl)
        have htl : (([] : List En).take 0).length = 0 := rfl
        have HTW := Lib.hid (show Sl w3 encE 2 none (([] : List En).take 0) from Sl.none_)
        have hkl : 0 ≤ ([] : List En).length := Nat.le_refl _
        have HIX := Lib.hid (show ([] : List En).take 0 ++ [(t, a9)] ++ ([] : List En) = insE ([] : List En) (t, a9) by rw [HINS.out]; rfl)
        have hkcap : 0 ≤ c := by omega
        have hml : (([] : List En)).length ≤ 3 := by rw [HMN.out]; omega
        have HBOXW := HBOX
        refine wp_region_inv (by kernel_rfl) (by kernel_rfl) (fun a0 d a W => ∃ u50 u51 u52 u53 u54 u55 u56 u57 u58 u59 u8 : Value, a = ⟨#[Value.slice none 0 0, Value.agg #[Value.string t, Value.int IntKind.i64 a9], undef, Value.pointer (some { block := w.heap.size, off := 0 }), Value.slice none 0 0, Value.bool false, Value.int IntKind.i64 0, Value.slice none 0 0, u8, Value.slice none 0 0, Value.bool true, Value.bool false, undef, Value.int IntKind.i64 0, Value.slice none 0 0, Value.int IntKind.i64 0, Value.bool false, Value.bool false, undef, undef, undef, undef, undef, undef, undef, undef, Value.bool false, u27, u28, Value.slice none 0 0, Value.int IntKind.i64 0, Value.slice none 0 0, Value.int IntKind.i64 0, Value.slice none 0 0, Value.int IntKind.i64 0, Value.bool false, Value.bool false, undef, undef, undef, undef, undef, undef, undef, undef, Value.bool false, undef, undef, undef, undef, u50, u51, u52, u53, u54, u55, u56, u57, u58, u59, undef, undef, undef, undef, undef, undef, undef], []⟩ ∧ PeJ w3 none ([] : List En).length 0 (0) ([] : List En) (t, a9) none 0 ([] : List En) d u50 u51 u52 u53 u54 u55 u56 u57 u58 u59 u8 W) ?_ ?_ ?_
        · exact ⟨_, _, _, _, _, _, _, _, _, _, _, rfl, Below_drewN (Below.refl _ _) 1, nofun, nofun, nofun, nofun, nofun, nofun, nofun, nofun, nofun, nofun, nofun, nofun, nofun, nofun, nofun⟩
        · refine ⟨?_, ?_, ?_, ?_, ?_, ?_, ?_, ?_, ?_, ?_, ?_, trivial⟩
          all_goals
            intro d a W K hd hdep hJ hK
            obtain ⟨u50, u51, u52, u53, u54, u55, u56, u57, u58, u59, u8, rfl, hj⟩ := hJ
            have HJ := Lib.hid hj
            have HK := Lib.hid hK
            have HD := Lib.hid hd
            have HDEP := Lib.hid hdep
            clear hj hK hd hdep
          · go_simp
            exact HK.out _ _ ⟨_, _, _, _, _, _, _, _, _, _, _, rfl, HJ.out.step0 HD.out⟩
          · go_simp
            exact HK.out _ _ ⟨_, _, _, _, _, _, _, _, _, _, _, rfl, { HJ.out with c1 := fun _ => rfl }⟩
          · go_simp
            exact HK.out _ _ ⟨_, _, _, _, _, _, _, _, _, _, _, rfl, { HJ.out with c2 := fun _ => rfl }⟩
          · obtain rfl := HJ.out.c1 (HDEP.out { on := 1, ground := Ground.data } (by simp) rfl)
            obtain rfl := HJ.out.c2 (HDEP.out { on := 2, ground := Ground.data } (by simp) rfl)
            go_simp
            exact HK.out _ _ ⟨_, _, _, _, _, _, _, _, _, _, _, rfl, { HJ.out with o4 := fun e => ⟨(HJ.out.o4 e).1, rfl⟩, c3 := fun _ => ⟨none, 0, (by rw [htl]), (fun _ => rfl), HTW.out⟩ }⟩
          · obtain ⟨A', c', rfl, hz, hsl⟩ := HJ.out.c3 (HDEP.out { on := 3, ground := Ground.data } (by simp) rfl)
            refine step_enK (w0 := w3) (by rfl) rfl (HJ.out.c0 (HDEP.out { on := 0, ground := Ground.data } (by simp) rfl) HD.out) HJ.out.b (by first | omega | (simp; done) | (simp; omega)) (hsl.below HJ.out.b) hz rfl rfl rfl ?_
            intro v' W' hown hb hg hk
            exact HK.out _ _ ⟨_, _, _, _, _, _, _, _, _, _, _, rfl, HJ.out.step4 (HDEP.out { on := 0, ground := Ground.data } (by simp) rfl) (HDEP.out { on := 3, ground := Ground.data } (by simp) rfl) HD.out hown hb hg hk⟩
          · have hb5 := HBOXW.out.below HJ.out.b
            have hb50 := hb5.1
            have hb51 := hb5.2
            clear hb5
            go_simp
            exact HK.out _ _ ⟨_, _, _, _, _, _, _, _, _, _, _, rfl, { HJ.out with c5 := fun _ => rfl }⟩
          · obtain rfl := HJ.out.c5 (HDEP.out { on := 5, ground := Ground.data } (by simp) rfl)
            go_simp
            exact HK.out _ _ ⟨_, _, _, _, _, _, _, _, _, _, _, rfl, HJ.out.step6 HD.out⟩
          · obtain ⟨g, rfl, hgl, hsl, _, hap⟩ := HJ.out.c6 (HDEP.out { on := 6, ground := Ground.data } (by simp) rfl) HD.out
            have hap := hap (HDEP.out { on := 4, ground := Ground.data } (by simp) rfl)
            refine step_enK (w0 := w3) (m := [(t, a9)]) (by rfl) rfl (HJ.out.c4 (HDEP.out { on := 4, ground := Ground.data } (by simp) rfl) HD.out) HJ.out.b (by first | omega | (simp; done) | (simp; omega)) hsl (by intro h; cases h) rfl rfl rfl ?_
            intro v' W' hown hb hg hk
            exact HK.out _ _ ⟨_, _, _, _, _, _, _, _, _, _, _, rfl, HJ.out.step7 (HDEP.out { on := 4, ground := Ground.data } (by simp) rfl) (HDEP.out { on := 6, ground := Ground.data } (by simp) rfl) HD.out hown hb⟩
          · go_simp
            exact HK.out _ _ ⟨_, _, _, _, _, _, _, _, _, _, _, rfl, { HJ.out with o9 := fun e => ⟨(HJ.out.o9 e).1, rfl⟩, c8 := fun _ => by rw [HMN.out] }⟩
          · obtain rfl := HJ.out.c8 (HDEP.out { on := 8, ground := Ground.data } (by simp) rfl)
            refine step_enK (w0 := w3) (by rfl) rfl (HJ.out.c7 (HDEP.out { on := 7, ground := Ground.data } (by simp) rfl) HD.out) HJ.out.b (by first | omega | (simp; done) | (simp; omega)) (HMW.out.below HJ.out.b) HCZM.out rfl rfl rfl ?_
            intro v' W' hown hb hg hk
            exact HK.out _ _ ⟨_, _, _, _, _, _, _, _, _, _, _, rfl, HJ.out.step9 (HDEP.out { on := 7, ground := Ground.data } (by simp) rfl) (HDEP.out { on := 8, ground := Ground.data } (by simp) rfl) HD.out hown hb⟩
          · go_simp
            exact HK.out _ _ ⟨_, _, _, _, _, _, _, _, _, _, _, rfl, { HJ.out with o10 := fun _ => (HDEP.out { on := 9, ground := Ground.data } (by simp) rfl), c10 := fun _ => rfl }⟩
        · intro d a W hd hJ
          obtain ⟨u50, u51, u52, u53, u54, u55, u56, u57, u58, u59, u8, rfl, hj⟩ := hJ
          obtain rfl := hj.c10 (hd 10 (by decide))
          have ho9 := hj.c9 (hd 9 (by decide))
          have hb9 := hj.b
          clear hj hd
          try simp only at ho9
          rw [HIX.out] at ho9
          have HB9 := Lib.hid (Below_then HBW.out hb9 (Nat.le_refl _))
          have HW9 := Lib.hid (ho9.mono HBW.out.size)
          clear ho9 hb9 HIX
          obtain ⟨X9, d9, rfl, hle9, hs9, _⟩ := HW9.out.sl
          have HS9 := Lib.hid hs9
          clear hs9
          cases hvi : entsV (insE ([] : List En) (t, a9))
          · have hp := HPN.out hvi
            have hEI := fun w h => HEI.out X9 d9 w h
            rw [hvi] at hEI
            have HEX := Lib.hid hEI
            have HR := Lib.hid hp
            clear hvi hp hEI
            go_wp2_with fail
            refine (HEX.out _ HS9.out).mono ?_
            rintro e w10 ⟨rfl, hb⟩
            replace HB9 := Lib.hid (Below_then HB9.out hb (Nat.le_refl _))
            have HSL := Lib.hid (HS.out.below HB9.out)
            clear hb
            go_wp2_with (at_builtin; refine app_enN (w0 := w10) (l := []) rfl rfl (Own.made (Nat.le_refl _)) ((Below.refl _ _).alloc (Nat.le_refl _) _) (by first | omega | (simp; done) | (simp; omega)) (A := none) (c := 0) (m := []) Sl.none_ (fun _ => rfl) (by rfl) (by rfl) ?_; intro v5 w5 hown5 hb5 hg5; rw [List.nil_append] at hown5; have HW5 := Lib.hid hown5; have HB5 := Lib.hid hb5; clear hown5 hb5 hg5)
            go_ret2
            rw [HR.out]
            exact ⟨_, rfl, HW5.out.mono HB9.out.size, Below_then HB9.out HB5.out (Nat.le_refl _)⟩
          · have hp := HPY.out hvi
            have hEI := fun w h => HEI.out X9 d9 w h
            rw [hvi] at hEI
            have HEX := Lib.hid hEI
            have HR := Lib.hid hp
            clear hvi hp hEI
            go_wp2_with fail
            refine (HEX.out _ HS9.out).mono ?_
            rintro e w10 ⟨rfl, hb⟩
            replace HB9 := Lib.hid (Below_then HB9.out hb (Nat.le_refl _))
            replace HW9 := Lib.hid (HW9.out.below hb)
            clear hb
            go_wp2
            go_ret2
            rw [HR.out]
            exact ⟨_, rfl, HW9.out, HB9.out⟩
      · by_cases hroom : c = l.length
        · subst hroom
          go_wp2
          refine wp_region_far (by kernel_rfl) (by kernel_rfl) ?_
          repeat (go_big_quiet_step (fail))
          refine wpQuiet_nil ?_
          intro _ hwF
          obtain ⟨pF, hwF⟩ := hwF
          subst hwF
          replace HBW := Lib.hid (Below_then HBW.out (far_below _ pF) (Nat.le_refl _))
          replace HBOX := Lib.hid (HBOX.out.below (far_below _ pF))
          clear hy0 hy1
          generalize far _ pF = w3 at *
          have HSW := Lib.hid (HS.out.below HBW.out)
          go_wp2
          have hdl : ((l.drop l.length)).length = 0 := by rw [List.length_drop]; omega
          have HMW := Lib.hid (show Sl w3 encE 2 (some ⟨b, o, none⟩) (l.drop l.length) from fun h => by omega)
          have HMN := Lib.hid (show (l.drop l.length).length = 0 by rw [List.length_drop]; omega)
          have HCZM := Lib.hid (show ((some ⟨b, o, none⟩) : Option Addr) = none → 0 = 0 from fun h => by cases h)
          have htl : (l.take l.length).length = l.length := by rw [List.length_take]; omega
          have HTW := Lib.hid (show Sl w3 encE 2 (some ⟨b, o, none⟩) (l.take l.length) from HSW.out.takeE)
          have hkl : l.length ≤ l.length := by omega
          have HIX := Lib.hid (show l.take l.length ++ [(t, a9)] ++ (l.drop l.length) = insE l (t, a9) by rw [HINS.out]; simp)
          have hkcap : l.length ≤ l.length := by omega
          have hml : ((l.drop l.length)).length ≤ 3 := by rw [HMN.out]; omega
          have HBOXW := HBOX
          refine wp_region_inv (by kernel_rfl) (by kernel_rfl) (fun a0 d a W => ∃ u50 u51 u52 u53 u54 u55 u56 u57 u58 u59 u8 : Value, a = ⟨#[Value.slice (some { block := b, off := o }) l.length l.length, Value.agg #[Value.string t, Value.int IntKind.i64 a9], undef, Value.pointer (some { block := w.heap.size, off := 0 }), Value.slice none 0 0, Value.bool false, Value.int IntKind.i64 (l.length : Int), Value.slice (some { block := b, off := o }) 0 0, u8, Value.slice (some { block := b, off := o }) l.length l.length, Value.bool true, Value.bool false, undef, Value.int IntKind.i64 (l.length : Int), Value.slice (some { block := b, off := o }) l.length l.length, Value.int IntKind.i64 (l.length : Int), Value.bool false, Value.bool false, undef, undef, undef, undef, undef, undef, undef, undef, Value.bool false, u27, u28, Value.slice (some { block := b, off := o }) l.length l.length, Value.int IntKind.i64 (l.length : Int), Value.slice (some { block := b, off := o }) 0 0, Value.int IntKind.i64 (l.length : Int), Value.slice (some { block := b, off := o }) l.length l.length, Value.int IntKind.i64 (l.length : Int), Value.bool false, Value.bool false, undef, undef, undef, undef, undef, undef, undef, undef, Value.bool false, undef, undef, undef, undef, u50, u51, u52, u53, u54, u55, u56, u57, u58, u59, undef, undef, undef, undef, undef, undef, undef], []⟩ ∧ PeJ w3 (some ⟨b, o, none⟩) l.length l.length (l.length) l (t, a9) (some ⟨b, o, none⟩) 0 (l.drop l.length) d u50 u51 u52 u53 u54 u55 u56 u57 u58 u59 u8 W) ?_ ?_ ?_
          · exact ⟨_, _, _, _, _, _, _, _, _, _, _, rfl, Below_drewN (Below.refl _ _) 1, nofun, nofun, nofun, nofun, nofun, nofun, nofun, nofun, nofun, nofun, nofun, nofun, nofun, nofun, nofun⟩
          · refine ⟨?_, ?_, ?_, ?_, ?_, ?_, ?_, ?_, ?_, ?_, ?_, trivial⟩
            all_goals
              intro d a W K hd hdep hJ hK
              obtain ⟨u50, u51, u52, u53, u54, u55, u56, u57, u58, u59, u8, rfl, hj⟩ := hJ
              have HJ := Lib.hid hj
              have HK := Lib.hid hK
              have HD := Lib.hid hd
              have HDEP := Lib.hid hdep
              clear hj hK hd hdep
            · go_simp
              exact HK.out _ _ ⟨_, _, _, _, _, _, _, _, _, _, _, rfl, HJ.out.step0 HD.out⟩
            · go_simp
              exact HK.out _ _ ⟨_, _, _, _, _, _, _, _, _, _, _, rfl, { HJ.out with c1 := fun _ => rfl }⟩
            · go_simp
              exact HK.out _ _ ⟨_, _, _, _, _, _, _, _, _, _, _, rfl, { HJ.out with c2 := fun _ => rfl }⟩
            · obtain rfl := HJ.out.c1 (HDEP.out { on := 1, ground := Ground.data } (by simp) rfl)
              obtain rfl := HJ.out.c2 (HDEP.out { on := 2, ground := Ground.data } (by simp) rfl)
              go_simp
              exact HK.out _ _ ⟨_, _, _, _, _, _, _, _, _, _, _, rfl, { HJ.out with o4 := fun e => ⟨(HJ.out.o4 e).1, rfl⟩, c3 := fun _ => ⟨(some ⟨b, o, none⟩), l.length, (by rw [htl]), (by intro h; cases h), HTW.out⟩ }⟩
            · obtain ⟨A', c', rfl, hz, hsl⟩ := HJ.out.c3 (HDEP.out { on := 3, ground := Ground.data } (by simp) rfl)
              refine step_enK (w0 := w3) (by rfl) rfl (HJ.out.c0 (HDEP.out { on := 0, ground := Ground.data } (by simp) rfl) HD.out) HJ.out.b (by first | omega | (simp; done) | (simp; omega)) (hsl.below HJ.out.b) hz rfl rfl rfl ?_
              intro v' W' hown hb hg hk
              exact HK.out _ _ ⟨_, _, _, _, _, _, _, _, _, _, _, rfl, HJ.out.step4 (HDEP.out { on := 0, ground := Ground.data } (by simp) rfl) (HDEP.out { on := 3, ground := Ground.data } (by simp) rfl) HD.out hown hb hg hk⟩
            · have hb5 := HBOXW.out.below HJ.out.b
              have hb50 := hb5.1
              have hb51 := hb5.2
              clear hb5
              go_simp
              exact HK.out _ _ ⟨_, _, _, _, _, _, _, _, _, _, _, rfl, { HJ.out with c5 := fun _ => rfl }⟩
            · obtain rfl := HJ.out.c5 (HDEP.out { on := 5, ground := Ground.data } (by simp) rfl)
              go_simp
              exact HK.out _ _ ⟨_, _, _, _, _, _, _, _, _, _, _, rfl, HJ.out.step6 HD.out⟩
            · obtain ⟨g, rfl, hgl, hsl, _, hap⟩ := HJ.out.c6 (HDEP.out { on := 6, ground := Ground.data } (by simp) rfl) HD.out
              have hap := hap (HDEP.out { on := 4, ground := Ground.data } (by simp) rfl)
              refine step_enK (w0 := w3) (m := [(t, a9)]) (by rfl) rfl (HJ.out.c4 (HDEP.out { on := 4, ground := Ground.data } (by simp) rfl) HD.out) HJ.out.b (by first | omega | (simp; done) | (simp; omega)) hsl (by intro h; cases h) rfl rfl rfl ?_
              intro v' W' hown hb hg hk
              exact HK.out _ _ ⟨_, _, _, _, _, _, _, _, _, _, _, rfl, HJ.out.step7 (HDEP.out { on := 4, ground := Ground.data } (by simp) rfl) (HDEP.out { on := 6, ground := Ground.data } (by simp) rfl) HD.out hown hb⟩
            · go_simp
              exact HK.out _ _ ⟨_, _, _, _, _, _, _, _, _, _, _, rfl, { HJ.out with o9 := fun e => ⟨(HJ.out.o9 e).1, rfl⟩, c8 := fun _ => by rw [HMN.out] }⟩
            · obtain rfl := HJ.out.c8 (HDEP.out { on := 8, ground := Ground.data } (by simp) rfl)
              refine step_enK (w0 := w3) (by rfl) rfl (HJ.out.c7 (HDEP.out { on := 7, ground := Ground.data } (by simp) rfl) HD.out) HJ.out.b (by first | omega | (simp; done) | (simp; omega)) (HMW.out.below HJ.out.b) HCZM.out rfl rfl rfl ?_
              intro v' W' hown hb hg hk
              exact HK.out _ _ ⟨_, _, _, _, _, _, _, _, _, _, _, rfl, HJ.out.step9 (HDEP.out { on := 7, ground := Ground.data } (by simp) rfl) (HDEP.out { on := 8, ground := Ground.data } (by simp) rfl) HD.out hown hb⟩
            · go_simp
              exact HK.out _ _ ⟨_, _, _, _, _, _, _, _, _, _, _, rfl, { HJ.out with o10 := fun _ => (HDEP.out { on := 9, ground := Ground.data } (by simp) rfl), c10 := fun _ => rfl }⟩
          · intro d a W hd hJ
            obtain ⟨u50, u51, u52, u53, u54, u55, u56, u57, u58, u59, u8, rfl, hj⟩ := hJ
            obtain rfl := hj.c10 (hd 10 (by decide))
            have ho9 := hj.c9 (hd 9 (by decide))
            have hb9 := hj.b
            clear hj hd
            try simp only at ho9
            rw [HIX.out] at ho9
            have HB9 := Lib.hid (Below_then HBW.out hb9 (Nat.le_refl _))
            have HW9 := Lib.hid (ho9.mono HBW.out.size)
            clear ho9 hb9 HIX
            obtain ⟨X9, d9, rfl, hle9, hs9, _⟩ := HW9.out.sl
            have HS9 := Lib.hid hs9
            clear hs9
            cases hvi : entsV (insE l (t, a9))
            · have hp := HPN.out hvi
              have hEI := fun w h => HEI.out X9 d9 w h
              rw [hvi] at hEI
              have HEX := Lib.hid hEI
              have HR := Lib.hid hp
              clear hvi hp hEI
              go_wp2_with fail
              refine (HEX.out _ HS9.out).mono ?_
              rintro e w10 ⟨rfl, hb⟩
              replace HB9 := Lib.hid (Below_then HB9.out hb (Nat.le_refl _))
              have HSL := Lib.hid (HS.out.below HB9.out)
              clear hb
              go_wp2_with (at_builtin; refine app_enN (w0 := w10) (l := []) rfl rfl (Own.made (Nat.le_refl _)) ((Below.refl _ _).alloc (Nat.le_refl _) _) (by first | omega | (simp; done) | (simp; omega)) (HSL.out.alloc _) HCZ.out (by rfl) (by rfl) ?_; intro v5 w5 hown5 hb5 hg5; rw [List.nil_append] at hown5; have HW5 := Lib.hid hown5; have HB5 := Lib.hid hb5; clear hown5 hb5 hg5)
              go_ret2
              rw [HR.out]
              exact ⟨_, rfl, HW5.out.mono HB9.out.size, Below_then HB9.out HB5.out (Nat.le_refl _)⟩
            · have hp := HPY.out hvi
              have hEI := fun w h => HEI.out X9 d9 w h
              rw [hvi] at hEI
              have HEX := Lib.hid hEI
              have HR := Lib.hid hp
              clear hvi hp hEI
              go_wp2_with fail
              refine (HEX.out _ HS9.out).mono ?_
              rintro e w10 ⟨rfl, hb⟩
              replace HB9 := Lib.hid (Below_then HB9.out hb (Nat.le_refl _))
              replace HW9 := Lib.hid (HW9.out.below hb)
              clear hb
              go_wp2
              go_ret2
              rw [HR.out]
              exact ⟨_, rfl, HW9.out, HB9.out⟩
        · go_wp2
          refine wp_region_far (by kernel_rfl) (by kernel_rfl) ?_
          repeat (go_big_quiet_step (fail))
          refine wpQuiet_nil ?_
          intro _ hwF
          obtain ⟨pF, hwF⟩ := hwF
          subst hwF
          replace HBW := Lib.hid (Below_then HBW.out (far_below _ pF) (Nat.le_refl _))
          replace HBOX := Lib.hid (HBOX.out.below (far_below _ pF))
          clear hy0 hy1
          generalize far _ pF = w3 at *
          have HSW := Lib.hid (HS.out.below HBW.out)
          go_wp2
          have HMW := Lib.hid (HSW.out.dropE (n := l.length) (by omega))
          have HMN := Lib.hid (show (l.drop l.length).length = 0 by rw [List.length_drop]; omega)
          have HCZM := Lib.hid (show ((some ⟨b, o + l.length * 2, none⟩) : Option Addr) = none → (c - l.length) = 0 from fun h => by cases h)
          have htl : (l.take l.length).length = l.length := by rw [List.length_take]; omega
          have HTW := Lib.hid (show Sl w3 encE 2 (some ⟨b, o, none⟩) (l.take l.length) from HSW.out.takeE)
          have hkl : l.length ≤ l.length := by omega
          have HIX := Lib.hid (show l.take l.length ++ [(t, a9)] ++ (l.drop l.length) = insE l (t, a9) by rw [HINS.out]; simp)
          have hkcap : l.length ≤ c := by omega
          have hml : ((l.drop l.length)).length ≤ 3 := by rw [HMN.out]; omega
          have HBOXW := HBOX
          refine wp_region_inv (by kernel_rfl) (by kernel_rfl) (fun a0 d a W => ∃ u50 u51 u52 u53 u54 u55 u56 u57 u58 u59 u8 : Value, a = ⟨#[Value.slice (some { block := b, off := o }) l.length c, Value.agg #[Value.string t, Value.int IntKind.i64 a9], undef, Value.pointer (some { block := w.heap.size, off := 0 }), Value.slice none 0 0, Value.bool false, Value.int IntKind.i64 (l.length : Int), Value.slice (some { block := b, off := o + l.length * 2 }) 0 (c - l.length), u8, Value.slice (some { block := b, off := o }) l.length c, Value.bool true, Value.bool false, undef, Value.int IntKind.i64 (l.length : Int), Value.slice (some { block := b, off := o }) l.length c, Value.int IntKind.i64 (l.length : Int), Value.bool false, Value.bool false, undef, undef, undef, undef, undef, undef, undef, undef, Value.bool false, u27, u28, Value.slice (some { block := b, off := o }) l.length c, Value.int IntKind.i64 (l.length : Int), Value.slice (some { block := b, off := o + l.length * 2 }) 0 (c - l.length), Value.int IntKind.i64 (l.length : Int), Value.slice (some { block := b, off := o }) l.length c, Value.int IntKind.i64 (l.length : Int), Value.bool false, Value.bool false, undef, undef, undef, undef, undef, undef, undef, undef, Value.bool false, undef, undef, undef, undef, u50, u51, u52, u53, u54, u55, u56, u57, u58, u59, undef, undef, undef, undef, undef, undef, undef], []⟩ ∧ PeJ w3 (some ⟨b, o, none⟩) l.length c (l.length) l (t, a9) (some ⟨b, o + l.length * 2, none⟩) (c - l.length) (l.drop l.length) d u50 u51 u52 u53 u54 u55 u56 u57 u58 u59 u8 W) ?_ ?_ ?_
          · exact ⟨_, _, _, _, _, _, _, _, _, _, _, rfl, Below_drewN (Below.refl _ _) 1, nofun, nofun, nofun, nofun, nofun, nofun, nofun, nofun, nofun, nofun, nofun, nofun, nofun, nofun, nofun⟩
          · refine ⟨?_, ?_, ?_, ?_, ?_, ?_, ?_, ?_, ?_, ?_, ?_, trivial⟩
            all_goals
              intro d a W K hd hdep hJ hK
              obtain ⟨u50, u51, u52, u53, u54, u55, u56, u57, u58, u59, u8, rfl, hj⟩ := hJ
              have HJ := Lib.hid hj
              have HK := Lib.hid hK
              have HD := Lib.hid hd
              have HDEP := Lib.hid hdep
              clear hj hK hd hdep
            · go_simp
              exact HK.out _ _ ⟨_, _, _, _, _, _, _, _, _, _, _, rfl, HJ.out.step0 HD.out⟩
            · go_simp
              exact HK.out _ _ ⟨_, _, _, _, _, _, _, _, _, _, _, rfl, { HJ.out with c1 := fun _ => rfl }⟩
            · go_simp
              exact HK.out _ _ ⟨_, _, _, _, _, _, _, _, _, _, _, rfl, { HJ.out with c2 := fun _ => rfl }⟩
            · obtain rfl := HJ.out.c1 (HDEP.out { on := 1, ground := Ground.data } (by simp) rfl)
              obtain rfl := HJ.out.c2 (HDEP.out { on := 2, ground := Ground.data } (by simp) rfl)
              go_simp
              exact HK.out _ _ ⟨_, _, _, _, _, _, _, _, _, _, _, rfl, { HJ.out with o4 := fun e => ⟨(HJ.out.o4 e).1, rfl⟩, c3 := fun _ => ⟨(some ⟨b, o, none⟩), c, (by rw [htl]), (by intro h; cases h), HTW.out⟩ }⟩
            · obtain ⟨A', c', rfl, hz, hsl⟩ := HJ.out.c3 (HDEP.out { on := 3, ground := Ground.data } (by simp) rfl)
              refine step_enK (w0 := w3) (by rfl) rfl (HJ.out.c0 (HDEP.out { on := 0, ground := Ground.data } (by simp) rfl) HD.out) HJ.out.b (by first | omega | (simp; done) | (simp; omega)) (hsl.below HJ.out.b) hz rfl rfl rfl ?_
              intro v' W' hown hb hg hk
              exact HK.out _ _ ⟨_, _, _, _, _, _, _, _, _, _, _, rfl, HJ.out.step4 (HDEP.out { on := 0, ground := Ground.data } (by simp) rfl) (HDEP.out { on := 3, ground := Ground.data } (by simp) rfl) HD.out hown hb hg hk⟩
            · have hb5 := HBOXW.out.below HJ.out.b
              have hb50 := hb5.1
              have hb51 := hb5.2
              clear hb5
              go_simp
              exact HK.out _ _ ⟨_, _, _, _, _, _, _, _, _, _, _, rfl, { HJ.out with c5 := fun _ => rfl }⟩
            · obtain rfl := HJ.out.c5 (HDEP.out { on := 5, ground := Ground.data } (by simp) rfl)
              go_simp
              exact HK.out _ _ ⟨_, _, _, _, _, _, _, _, _, _, _, rfl, HJ.out.step6 HD.out⟩
            · obtain ⟨g, rfl, hgl, hsl, _, hap⟩ := HJ.out.c6 (HDEP.out { on := 6, ground := Ground.data } (by simp) rfl) HD.out
              have hap := hap (HDEP.out { on := 4, ground := Ground.data } (by simp) rfl)
              refine step_enK (w0 := w3) (m := [(t, a9)]) (by rfl) rfl (HJ.out.c4 (HDEP.out { on := 4, ground := Ground.data } (by simp) rfl) HD.out) HJ.out.b (by first | omega | (simp; done) | (simp; omega)) hsl (by intro h; cases h) rfl rfl rfl ?_
              intro v' W' hown hb hg hk
              exact HK.out _ _ ⟨_, _, _, _, _, _, _, _, _, _, _, rfl, HJ.out.step7 (HDEP.out { on := 4, ground := Ground.data } (by simp) rfl) (HDEP.out { on := 6, ground := Ground.data } (by simp) rfl) HD.out hown hb⟩
            · go_simp
              exact HK.out _ _ ⟨_, _, _, _, _, _, _, _, _, _, _, rfl, { HJ.out with o9 := fun e => ⟨(HJ.out.o9 e).1, rfl⟩, c8 := fun _ => by rw [HMN.out] }⟩
            · obtain rfl := HJ.out.c8 (HDEP.out { on := 8, ground := Ground.data } (by simp) rfl)
              refine step_enK (w0 := w3) (by rfl) rfl (HJ.out.c7 (HDEP.out { on := 7, ground := Ground.data } (by simp) rfl) HD.out) HJ.out.b (by first | omega | (simp; done) | (simp; omega)) (HMW.out.below HJ.out.b) HCZM.out rfl rfl rfl ?_
              intro v' W' hown hb hg hk
              exact HK.out _ _ ⟨_, _, _, _, _, _, _, _, _, _, _, rfl, HJ.out.step9 (HDEP.out { on := 7, ground := Ground.data } (by simp) rfl) (HDEP.out { on := 8, ground := Ground.data } (by simp) rfl) HD.out hown hb⟩
            · go_simp
              exact HK.out _ _ ⟨_, _, _, _, _, _, _, _, _, _, _, rfl, { HJ.out with o10 := fun _ => (HDEP.out { on := 9, ground := Ground.data } (by simp) rfl), c10 := fun _ => rfl }⟩
          · intro d a W hd hJ
            obtain ⟨u50, u51, u52, u53, u54, u55, u56, u57, u58, u59, u8, rfl, hj⟩ := hJ
            obtain rfl := hj.c10 (hd 10 (by decide))
            have ho9 := hj.c9 (hd 9 (by decide))
            have hb9 := hj.b
            clear hj hd
            try simp only at ho9
            rw [HIX.out] at ho9
            have HB9 := Lib.hid (Below_then HBW.out hb9 (Nat.le_refl _))
            have HW9 := Lib.hid (ho9.mono HBW.out.size)
            clear ho9 hb9 HIX
            obtain ⟨X9, d9, rfl, hle9, hs9, _⟩ := HW9.out.sl
            have HS9 := Lib.hid hs9
            clear hs9
            cases hvi : entsV (insE l (t, a9))
            · have hp := HPN.out hvi
              have hEI := fun w h => HEI.out X9 d9 w h
              rw [hvi] at hEI
              have HEX := Lib.hid hEI
              have HR := Lib.hid hp
              clear hvi hp hEI
              go_wp2_with fail
              refine (HEX.out _ HS9.out).mono ?_
              rintro e w10 ⟨rfl, hb⟩
              replace HB9 := Lib.hid (Below_then HB9.out hb (Nat.le_refl _))
              have HSL := Lib.hid (HS.out.below HB9.out)
              clear hb
              go_wp2_with (at_builtin; refine app_enN (w0 := w10) (l := []) rfl rfl (Own.made (Nat.le_refl _)) ((Below.refl _ _).alloc (Nat.le_refl _) _) (by first | omega | (simp; done) | (simp; omega)) (HSL.out.alloc _) HCZ.out (by rfl) (by rfl) ?_; intro v5 w5 hown5 hb5 hg5; rw [List.nil_append] at hown5; have HW5 := Lib.hid hown5; have HB5 := Lib.hid hb5; clear hown5 hb5 hg5)
              go_ret2
              rw [HR.out]
              exact ⟨_, rfl, HW5.out.mono HB9.out.size, Below_then HB9.out HB5.out (Nat.le_refl _)⟩
            · have hp := HPY.out hvi
              have hEI := fun w h => HEI.out X9 d9 w h
              rw [hvi] at hEI
              have HEX := Lib.hid hEI
              have HR := Lib.hid hp
              clear hvi hp hEI
              go_wp2_with fail
              refine (HEX.out _ HS9.out).mono ?_
              rintro e w10 ⟨rfl, hb⟩
              replace HB9 := Lib.hid (Below_then HB9.out hb (Nat.le_refl _))
              replace HW9 := Lib.hid (HW9.out.below hb)
              clear hb
              go_wp2
              go_ret2
              rw [HR.out]
              exact ⟨_, rfl, HW9.out, HB9.out⟩
end Go.Proofs.YtaghiefokmapmaaDoor

/- FolderText, EmptyRoot, walked. -/
set_option linter.unusedVariables false
namespace Go.Proofs.YtaghiefokmapmaaDoor
open Go.RowKit
def entM (e : En) : ByteArray := e.1 ++ ⟨#[61]⟩ ++ mk (hexT e.2) ++ ⟨#[59]⟩
theorem entM_tx (e : En) : entM e = mk (entT e) := by
  unfold entM entT
  rw [show e.1 = mk (tx e.1) from (mk_tx _).symm, show (⟨#[61]⟩ : ByteArray) = mk [61] from rfl, show (⟨#[59]⟩ : ByteArray) = mk [59] from rfl, mk_append, mk_append, mk_append]
  simp [tx_mk]
def foldM (l : List En) : ByteArray := mk (100 :: l.flatMap entT)
theorem foldM_take {l : List En} {k : Nat} (h : k < l.length) : foldM (l.take (k + 1)) = foldM (l.take k) ++ entM l[k] := by
  unfold foldM
  rw [List.take_succ_eq_append_getElem h, entM_tx, mk_append, List.flatMap_append]
  simp only [List.flatMap_cons, List.flatMap_nil, List.append_nil, List.cons_append]
theorem foldM_size {l : List En} (h : entsV l = true) (k : Nat) : (foldM (l.take k)).size ≤ 49 := by
  have h2 := foldB_len (entsV_sub h (List.take_sublist k l))
  unfold foldB at h2
  unfold foldM; rw [mk_size]; exact h2
theorem cat4 (x a b c d : ByteArray) : x ++ (a ++ b ++ c ++ d) = x ++ a ++ b ++ c ++ d := by simp [ByteArray.append_assoc]
set_option maxHeartbeats 4000000 in
set_option maxRecDepth 100000 in
theorem iFolderText_any (A : Option Addr) (c : Nat) (l : List En) (w : World) (hs : Sl w encE 2 A l) (hl : l.length ≤ 16777216) (hf : FitE l) (ht : TzL w) :
    Calls Tryd.prog 81 #[.slice A l.length c] w fun e w' => e = .returned (.string (mk (foldT l))) ∧ Below w.heap.size w w' := by
  have HS := Lib.hid hs
  have HF := Lib.hid hf
  have HT := Lib.hid ht
  have hsv := fun w h => iEntriesValid_any A c l w h hl hf
  clear hs hf ht
  cases hv : entsV l
  · have E := Lib.hid (show mk (foldT l) = ⟨#[]⟩ by unfold foldT; rw [hv]; rfl)
    rw [hv] at hsv
    have HSV := Lib.hid hsv
    clear hsv hv
    rw [E.out]
    go_enter Tryd.func81, Tryd.ntmps81
    go_wp2_with fail
    refine (HSV.out _ HS.out).mono ?_
    rintro e w1 ⟨rfl, hb⟩
    have HB := Lib.hid hb
    clear hb
    go_wp2
    go_ret
    exact ⟨rfl, HB.out⟩
  · have E := Lib.hid (show mk (foldT l) = foldM l by unfold foldT; rw [hv]; rfl)
    rw [hv] at hsv
    have HSV := Lib.hid hsv
    have HSZ := Lib.hid (foldM_size hv)
    have HOK := Lib.hid (fun k (h : k < l.length) => entT_len l[k] (entsV_ok hv (by simp)))
    have hl3 := entsV_len hv
    clear hsv hv
    rw [E.out]
    go_enter Tryd.func81, Tryd.ntmps81
    go_wp2_with fail
    refine (HSV.out _ HS.out).mono ?_
    rintro e w1 ⟨rfl, hb⟩
    have HB := Lib.hid hb
    have HS1 := Lib.hid (HS.out.below hb)
    have HT1 := Lib.hid (HT.out.below hb)
    clear hb
    go_wp2_with fail
    go_loopw [3, 11] (fun v i wr => ∃ (k : Nat) (acc : ByteArray), k ≤ l.length ∧ i = .int .i64 k ∧ v = .string acc ∧ Hid (acc = foldM (l.take k)) ∧ Hid (Below w1.heap.size w1 wr)) (fun _ i _ => l.length - (intOf i).toNat)
    case atStart => exact ⟨0, _, Nat.zero_le _, rfl, rfl, rfl, Below.refl _ _⟩
    case round =>
      obtain ⟨k, acc, hk, rfl, rfl, HA, HBW⟩ := hrel
      by_cases hlt : k < l.length
      · obtain ⟨b, o, rfl, hc0, hc1⟩ := (HS1.out.below HBW.out).getE hlt
        have hst := foldM_take hlt
        have hacc : acc.size ≤ 49 := by rw [HA.out]; exact HSZ.out k
        have HT2 := Lib.hid (HT1.out.below HBW.out)
        have hfk : l[k].1.size ≤ 16777216 := HF.out.at hlt
        generalize l[k] = p at *
        obtain ⟨t, a⟩ := p
        simp only at *
        have hz1 : (mk (hexT a)).size ≤ 6 := by rw [mk_size]; exact hexT_len a
        have hz2 : (t ++ ⟨#[61]⟩).size ≤ 16777217 := by rw [ByteArray.size_append]; exact Nat.add_le_add_right hfk 1
        have hz3 : (t ++ ⟨#[61]⟩ ++ mk (hexT a)).size ≤ 16777223 := by rw [ByteArray.size_append]; exact Nat.add_le_add hz2 hz1
        have hz4 : (t ++ ⟨#[61]⟩ ++ mk (hexT a) ++ ⟨#[59]⟩).size ≤ 16777224 := by rw [ByteArray.size_append]; exact Nat.add_le_add_right hz3 1
        have hq1 := str_add (x := t) (y := ⟨#[61]⟩) (by omega) (by simp [ByteArray.size])
        have hq2 := str_add (x := t ++ ⟨#[61]⟩) (y := mk (hexT a)) (by omega) (by omega)
        have hq3 := str_add (x := t ++ ⟨#[61]⟩ ++ mk (hexT a)) (y := ⟨#[59]⟩) (by omega) (by simp [ByteArray.size])
        have hq4 := str_add (x := acc) (y := t ++ ⟨#[61]⟩ ++ mk (hexT a) ++ ⟨#[59]⟩) (by omega) (by omega)
        have HH := Lib.hid (fun w h => iHexText_any a w h)
        have HN := Lib.hid (show acc ++ (t ++ ⟨#[61]⟩ ++ mk (hexT a) ++ ⟨#[59]⟩) = foldM (l.take (k + 1)) by rw [hst, HA.out]; rfl)
        have HB2 := Lib.hid (HBW.out.alloc HBW.out.size (.cells #[.string t, .int .i64 a] 100))
        have HT3 := Lib.hid (fun p => (HT2.out.below ((Below.refl _ _).alloc (Nat.le_refl _) (.cells #[.string t, .int .i64 a] 100))).below (far_below _ p))
        have hx0 := far_cell (new_cell (w := wr) (cs := #[.string t, .int .i64 a]) (E := 100) (k := 0) rfl)
        have hx1 := far_cell (new_cell (w := wr) (cs := #[.string t, .int .i64 a]) (E := 100) (k := 1) rfl)
        clear hst
        go_wp2
        refine wp_region_far (by kernel_rfl) (by kernel_rfl) ?_
        repeat (go_big_quiet_step ((go_at_call 22; exact far_call (HH.out _ (HT3.out _)))))
        refine wpQuiet_nil ?_
        intro _ hwF
        obtain ⟨pF, hwF⟩ := hwF
        subst hwF
        have HB5 := Lib.hid (Below_then HB2.out (far_below _ pF) (Nat.le_refl _))
        generalize far _ pF = wF at *
        clear hx0 hx1
        go_wp2
        go_roundw
        case rel => exact ⟨k + 1, _, by omega, by go_num, rfl, HN.out, HB5.out⟩
        case measure => simp [intOf]; omega
      · have HE := Lib.hid (show acc = foldM l by rw [HA.out, List.take_of_length_le (by omega)])
        have HB2 := Lib.hid (Below_then HB.out HBW.out (Nat.le_refl _))
        go_wp2
        go_ret
        exact ⟨ret_str HE.out, HB2.out⟩
set_option maxHeartbeats 4000000 in
set_option maxRecDepth 100000 in
theorem sFolderText_any (A : Option Addr) (c : Nat) (l : List En) (w : World) (hs : Sl w encE 2 A l) (hl : l.length ≤ 16777216) (hf : FitE l) :
    Calls Tryd.prog 62 #[.slice A l.length c] w fun e w' => e = .returned (.string (mk (foldT l))) ∧ Below w.heap.size w w' := by
  have HS := Lib.hid hs
  have HF := Lib.hid hf
  have hsv := fun w h => sEntriesValid_any A c l w h hl hf
  clear hs hf
  cases hv : entsV l
  · have E := Lib.hid (show mk (foldT l) = ⟨#[]⟩ by unfold foldT; rw [hv]; rfl)
    rw [hv] at hsv
    have HSV := Lib.hid hsv
    clear hsv hv
    rw [E.out]
    go_enter Tryd.func62, Tryd.ntmps62
    go_wp2_with fail
    refine (HSV.out _ HS.out).mono ?_
    rintro e w1 ⟨rfl, hb⟩
    have HB := Lib.hid hb
    clear hb
    go_wp2
    go_ret
    exact ⟨rfl, HB.out⟩
  · have E := Lib.hid (show mk (foldT l) = foldM l by unfold foldT; rw [hv]; rfl)
    rw [hv] at hsv
    have HSV := Lib.hid hsv
    have HSZ := Lib.hid (foldM_size hv)
    have hl3 := entsV_len hv
    clear hsv hv
    rw [E.out]
    go_enter Tryd.func62, Tryd.ntmps62
    go_wp2_with fail
    refine (HSV.out _ HS.out).mono ?_
    rintro e w1 ⟨rfl, hb⟩
    have HB := Lib.hid hb
    have HS1 := Lib.hid (HS.out.below hb)
    clear hb
    go_wp2_with fail
    go_loopw [3, 4] (fun v i wr => ∃ (k : Nat) (acc : ByteArray), k ≤ l.length ∧ i = .int .i64 k ∧ v = .string acc ∧ Hid (acc = foldM (l.take k)) ∧ Hid (Below w1.heap.size w1 wr)) (fun _ i _ => l.length - (intOf i).toNat)
    case atStart => exact ⟨0, _, Nat.zero_le _, rfl, rfl, rfl, Below.refl _ _⟩
    case round =>
      obtain ⟨k, acc, hk, rfl, rfl, HA, HBW⟩ := hrel
      by_cases hlt : k < l.length
      · obtain ⟨b, o, rfl, hc0, hc1⟩ := (HS1.out.below HBW.out).getE hlt
        have hst := foldM_take hlt
        have hacc : acc.size ≤ 49 := by rw [HA.out]; exact HSZ.out k
        have hfk : l[k].1.size ≤ 16777216 := HF.out.at hlt
        generalize l[k] = p at *
        obtain ⟨t, a⟩ := p
        simp only at *
        have hz1 : (mk (hexT a)).size ≤ 6 := by rw [mk_size]; exact hexT_len a
        have hz0 : (acc ++ t).size ≤ 16777265 := by rw [ByteArray.size_append]; omega
        have hz2 : (acc ++ t ++ ⟨#[61]⟩).size ≤ 16777266 := by rw [ByteArray.size_append]; exact Nat.add_le_add_right hz0 1
        have hz3 : (acc ++ t ++ ⟨#[61]⟩ ++ mk (hexT a)).size ≤ 16777272 := by rw [ByteArray.size_append]; exact Nat.add_le_add hz2 hz1
        have hq0 := str_add (x := acc) (y := t) (by omega) (by omega)
        have hq1 := str_add (x := acc ++ t) (y := ⟨#[61]⟩) (by omega) (by simp [ByteArray.size])
        have hq2 := str_add (x := acc ++ t ++ ⟨#[61]⟩) (y := mk (hexT a)) (by omega) (by omega)
        have hq3 := str_add (x := acc ++ t ++ ⟨#[61]⟩ ++ mk (hexT a)) (y := ⟨#[59]⟩) (by omega) (by simp [ByteArray.size])
        have HH := Lib.hid (fun w => sHexText_any a w)
        have HN := Lib.hid (show acc ++ t ++ ⟨#[61]⟩ ++ mk (hexT a) ++ ⟨#[59]⟩ = foldM (l.take (k + 1)) by rw [hst, HA.out, ← cat4]; rfl)
        replace hc0 := far_cell hc0
        replace hc1 := far_cell hc1
        clear hst
        go_wp2
        refine wp_region_far (by kernel_rfl) (by kernel_rfl) ?_
        repeat (go_big_quiet_step ((go_at_call 23; exact far_same (HH.out _))))
        refine wpQuiet_nil ?_
        intro _ hwF
        obtain ⟨pF, hwF⟩ := hwF
        subst hwF
        have HB5 := Lib.hid (Below_then HBW.out (far_below _ pF) (Nat.le_refl _))
        generalize far _ pF = wF at *
        clear hc0 hc1
        go_wp2
        go_roundw
        case rel => exact ⟨k + 1, _, by omega, by go_num, rfl, HN.out, HB5.out⟩
        case measure => simp [intOf]; omega
      · have HE := Lib.hid (show acc = foldM l by rw [HA.out, List.take_of_length_le (by omega)])
        have HB2 := Lib.hid (Below_then HB.out HBW.out (Nat.le_refl _))
        go_wp2
        go_ret
        exact ⟨ret_str HE.out, HB2.out⟩
end Go.Proofs.YtaghiefokmapmaaDoor

/- EmptyRoot, NewArchive, walked. -/
set_option linter.unusedVariables false
namespace Go.Proofs.YtaghiefokmapmaaDoor
open Go.RowKit
def foldE : ByteArray := mk (foldT [])
theorem foldE_size : foldE.size ≤ 16777216 := by unfold foldE; rw [mk_size]; have := foldT_len []; omega
theorem fitE_nil : FitE [] := fun p hp => absurd hp List.not_mem_nil
set_option maxHeartbeats 4000000 in
set_option maxRecDepth 100000 in
theorem sEmptyRoot_any (A : Option Addr) (c : Nat) (l : List Pc) (w : World) (hs : Sl w encP 2 A l) (hcz : A = none → c = 0) (hle : l.length ≤ c) (hl : l.length ≤ 16777216) (hf : FitP l) :
    Calls Tryd.prog 42 #[.slice A l.length c] w (PutRes (putT l foldE) w) := by
  have HS := Lib.hid hs
  have hft := fun g w => sFolderText_any (some ⟨g, 0, none⟩) 0 [] w Sl.none_ (Nat.zero_le _) fitE_nil
  simp only [List.length_nil] at hft
  have hpt := fun w h => sPutText_any A c l foldE w h hcz hle hl hf foldE_size
  clear hs hcz
  unfold PutRes at *
  unfold foldE at *
  generalize mk (foldT []) = FE at *
  generalize putT l FE = R at *
  have HFT := Lib.hid hft
  clear hft
  have HPT := Lib.hid hpt
  clear hpt
  go_enter Tryd.func42, Tryd.ntmps42
  go_wp2_with fail
  refine (HFT.out _ _).mono ?_
  rintro e w1 ⟨rfl, hb⟩
  have HB := Lib.hid (Below_of_alloc hb)
  have HS1 := Lib.hid (HS.out.below HB.out)
  clear hb
  go_wp2_with fail
  refine (HPT.out _ HS1.out).mono ?_
  rintro e w2 ⟨v, rfl, hown, hb⟩
  have HW := Lib.hid (hown.mono HB.out.size)
  have HB2 := Lib.hid (Below_then HB.out hb (Nat.le_refl _))
  clear hown hb
  go_wp2
  go_ret3
  exact ⟨_, rfl, HW.out, HB2.out⟩
end Go.Proofs.YtaghiefokmapmaaDoor

/- What a reader of folders has come to, in plain Lean. No program in sight. -/
set_option linter.unusedVariables false
namespace Go.Proofs.YtaghiefokmapmaaDoor
--BEGIN
/-- 'acc' is read, 'rest' is left: so it is with each folder whose text is s. -/
def FC (s : Bs) (acc : List En) (rest : Bs) : Prop := ∀ l, entsV l = true → foldB l = s → ∃ m, l = acc ++ m ∧ rest = m.flatMap entT
theorem FC.start (s : Bs) : FC s [] (s.drop 1) := fun l _ h => ⟨l, rfl, by rw [← h]; rfl⟩
theorem headC_stop {c : UInt8} {a b : Bs} (h : ∀ x ∈ a, x ≠ c) : headC c (a ++ c :: b) = a := takeWhile_stop (fun x hx => by simpa using h x hx) (by simp)
theorem cutC_stop {c : UInt8} {a b : Bs} (h : ∀ x ∈ a, x ≠ c) : cutC c (a ++ c :: b) = some (a, b) := by
  unfold cutC
  rw [headC_stop h, if_pos (by simp), drop_past]
theorem ent_cut {e : En} (h : entOk e = true) (r : Bs) : cutC 59 (entT e ++ r) = some (tx e.1 ++ 61 :: hexT e.2, r) ∧ cutC 61 (tx e.1 ++ 61 :: hexT e.2) = some (tx e.1, hexT e.2) := by
  have h1 : ∀ x ∈ tx e.1, x ≠ 61 ∧ x ≠ 59 := fun x hx => by
    have := range_ne (word_range (word_chars (entOk_iff.1 h).1 x hx)); exact ⟨this.1, this.2.1⟩
  have h2 : ∀ x ∈ hexT e.2, x ≠ 59 := fun x hx => (range_ne (hex_range (hexT_chars _ x hx))).2.1
  refine ⟨?_, cutC_stop fun x hx => (h1 x hx).1⟩
  have e1 : entT e ++ r = (tx e.1 ++ 61 :: hexT e.2) ++ 59 :: r := by unfold entT; simp
  rw [e1]
  refine cutC_stop fun x hx => ?_
  rcases List.mem_append.1 hx with hx | hx
  · exact (h1 x hx).2
  · rcases List.mem_cons.1 hx with rfl | hx
    · decide
    · exact h2 x hx
theorem FC.head {s : Bs} {acc : List En} {rest : Bs} (h : FC s acc rest) (hne : rest ≠ []) {l : List En} (hv : entsV l = true) (hl : foldB l = s) : ∃ e m, l = acc ++ e :: m ∧ rest = entT e ++ m.flatMap entT ∧ entOk e = true := by
  obtain ⟨m, h1, h2⟩ := h l hv hl
  cases m with
  | nil => exact absurd h2 hne
  | cons e m => exact ⟨e, m, h1, by rw [h2, List.flatMap_cons], entsV_ok hv (by rw [h1]; simp)⟩
theorem FC.fail1 {s : Bs} {acc : List En} {rest : Bs} (h : FC s acc rest) (hne : rest ≠ []) (hc : cutC 59 rest = none) : readF s = none := readF_none fun l hv hl => by
  obtain ⟨e, m, _, h2, h3⟩ := h.head hne hv hl
  rw [h2, (ent_cut h3 _).1] at hc; cases hc
theorem FC.fail2 {s : Bs} {acc : List En} {rest p a : Bs} (h : FC s acc rest) (hne : rest ≠ []) (hc : cutC 59 rest = some (p, a)) (hd : cutC 61 p = none) : readF s = none := readF_none fun l hv hl => by
  obtain ⟨e, m, _, h2, h3⟩ := h.head hne hv hl
  rw [h2, (ent_cut h3 _).1] at hc
  injection hc with hc; injection hc with h4 h5
  rw [← h4, (ent_cut h3 []).2] at hd; cases hd
theorem FC.fail3 {s : Bs} {acc : List En} {rest : Bs} (h : FC s acc rest) (hne : rest ≠ []) (hc : 3 ≤ acc.length) : readF s = none := readF_none fun l hv hl => by
  obtain ⟨e, m, h1, _, _⟩ := h.head hne hv hl
  have := entsV_len hv
  rw [h1, List.length_append, List.length_cons] at this; omega
theorem FC.step {s : Bs} {acc : List En} {rest p a n d : Bs} (h : FC s acc rest) (hne : rest ≠ []) (hc : cutC 59 rest = some (p, a)) (hd : cutC 61 p = some (n, d)) : FC s (acc ++ [(mk n, readH d)]) a := fun l hv hl => by
  obtain ⟨e, m, h1, h2, h3⟩ := h.head hne hv hl
  rw [h2, (ent_cut h3 _).1] at hc
  injection hc with hc; injection hc with h4 h5
  rw [← h4, (ent_cut h3 []).2] at hd
  injection hd with hd; injection hd with h6 h7
  refine ⟨m, ?_, h5.symm⟩
  rw [← h6, ← h7, readH_hexT (entOk_iff.1 h3).2, mk_tx, h1]
  simp
theorem FC.done {s : Bs} {acc : List En} (h : FC s acc []) (hs : s ≠ []) : readF s = if foldT acc = s then some acc else none := by
  split
  · rename_i he
    have hv : entsV acc = true := by
      cases hv : entsV acc
      · unfold foldT at he; rw [hv] at he; exact absurd he.symm hs
      · rfl
    unfold foldT at he
    rw [hv, if_pos rfl] at he
    exact readF_iff.2 ⟨hv, he⟩
  · rename_i he
    refine readF_none fun l hv hl => ?_
    obtain ⟨m, h1, h2⟩ := h l hv hl
    have hm : m = [] := by
      cases m with
      | nil => rfl
      | cons e m => rw [List.flatMap_cons] at h2; exact absurd h2.symm (entT_ne _ _)
    subst hm
    rw [List.append_nil] at h1; subst h1
    apply he
    unfold foldT; rw [hv, if_pos rfl, hl]
theorem FC.sfail {s : Bs} {acc : List En} {rest : Bs} (h : FC s acc rest) (hne : rest ≠ []) (hc : ¬ (headC 61 rest).length + (headC 59 (rest.drop (headC 61 rest).length)).length < rest.length) : readF s = none := readF_none fun l hv hl => by
  obtain ⟨e, m, _, h2, h3⟩ := h.head hne hv hl
  apply hc
  have h1 : ∀ x ∈ tx e.1, x ≠ 61 := fun x hx => (range_ne (word_range (word_chars (entOk_iff.1 h3).1 x hx))).1
  have h5 : ∀ x ∈ 61 :: hexT e.2, x ≠ 59 := fun x hx => by
    rcases List.mem_cons.1 hx with rfl | hx
    · decide
    · exact (range_ne (hex_range (hexT_chars _ x hx))).2.1
  have e1 : rest = tx e.1 ++ 61 :: (hexT e.2 ++ 59 :: m.flatMap entT) := by rw [h2]; unfold entT; simp
  have e2 : headC 61 rest = tx e.1 := by rw [e1]; exact headC_stop h1
  have e3 : rest.drop (tx e.1).length = (61 :: hexT e.2) ++ 59 :: m.flatMap entT := by rw [e1, List.drop_left]; rfl
  rw [e2, e3, headC_stop h5, e1]
  simp
theorem FC.sstep {s : Bs} {acc : List En} {rest : Bs} (h : FC s acc rest) (hne : rest ≠ []) :
    FC s (acc ++ [(mk (rest.take (headC 61 rest).length), readH ((rest.drop ((headC 61 rest).length + 1)).take ((headC 59 (rest.drop (headC 61 rest).length)).length - 1)))]) (rest.drop ((headC 61 rest).length + (headC 59 (rest.drop (headC 61 rest).length)).length + 1)) := fun l hv hl => by
  obtain ⟨e, m, h1', h2, h3⟩ := h.head hne hv hl
  have h1 : ∀ x ∈ tx e.1, x ≠ 61 := fun x hx => (range_ne (word_range (word_chars (entOk_iff.1 h3).1 x hx))).1
  have h5 : ∀ x ∈ 61 :: hexT e.2, x ≠ 59 := fun x hx => by
    rcases List.mem_cons.1 hx with rfl | hx
    · decide
    · exact (range_ne (hex_range (hexT_chars _ x hx))).2.1
  have e1 : rest = tx e.1 ++ 61 :: (hexT e.2 ++ 59 :: m.flatMap entT) := by rw [h2]; unfold entT; simp
  have e2 : headC 61 rest = tx e.1 := by rw [e1]; exact headC_stop h1
  have e3 : rest.drop (tx e.1).length = (61 :: hexT e.2) ++ 59 :: m.flatMap entT := by rw [e1, List.drop_left]; rfl
  have e4 : rest.drop ((tx e.1).length + 1) = hexT e.2 ++ 59 :: m.flatMap entT := by rw [← List.drop_drop, e3]; rfl
  have e5 : rest.drop ((tx e.1).length + (61 :: hexT e.2).length + 1) = m.flatMap entT := by
    rw [Nat.add_assoc, ← List.drop_drop, e3, drop_past]
  refine ⟨m, ?_, ?_⟩
  · rw [e2, e3, headC_stop h5, e4]
    have e6 : rest.take (tx e.1).length = tx e.1 := by rw [e1]; exact List.take_left' rfl
    rw [e6, List.length_cons, Nat.add_sub_cancel, List.take_left' rfl, readH_hexT (entOk_iff.1 h3).2, mk_tx, h1']
    simp
  · rw [e2, e3, headC_stop h5, e5]
--END
end Go.Proofs.YtaghiefokmapmaaDoor

/- CutPrefix at a byte; ReadFolder of the program, walked. -/
set_option linter.unusedVariables false
namespace Go.Proofs.YtaghiefokmapmaaDoor
open Go.RowKit
theorem bs_ne_nil {s : ByteArray} (h : 0 < s.size) : bs s ≠ [] := fun e => by have := size_bs s; rw [e] at this; simp at this; omega
theorem drop1_ext (s : ByteArray) : s.extract 1 s.size = mk ((bs s).tail) := by
  apply ByteArray.ext
  apply Array.ext'
  rw [Lib.extract_data]
  show ((bs s).drop 1).take _ = (bs s).tail
  rw [List.drop_one]
  exact List.take_of_length_le (by rw [List.length_tail]; exact Nat.le_refl _)
theorem take1_ext (s : ByteArray) (h : 0 < s.size) : s.extract 0 1 = mk [s[0]] := by
  apply ByteArray.ext
  apply Array.ext'
  rw [Lib.extract_data]
  show ((bs s).drop 0).take (1 - 0) = [s[0]]
  rw [List.drop_zero, Nat.sub_zero]
  have hp : 0 < (bs s).length := h
  cases hb : bs s with
  | nil => rw [hb] at hp; simp at hp
  | cons x r =>
    have : (bs s)[0] = s[0] := rfl
    simp only [hb, List.getElem_cons_zero] at this
    rw [this]; rfl
def prefV (c : UInt8) (s : ByteArray) : Value := if 0 < s.size ∧ (bs s).headD 0 = c then .tuple #[.string (mk ((bs s).tail)), .bool true] else .tuple #[.string s, .bool false]
theorem head_bs0 {s : ByteArray} (h : 0 < s.size) : (bs s).headD 0 = s[0] := by
  have hp : 0 < (bs s).length := h
  have e : (bs s)[0] = s[0] := rfl
  rw [← e, List.headD_eq_head?_getD, List.head?_eq_getElem?, List.getElem?_eq_getElem hp]; rfl
set_option maxHeartbeats 1000000 in
set_option maxRecDepth 100000 in
theorem hasPre_any (s : ByteArray) (c : UInt8) (w : World) (hs : s.size ≤ 16777216) : Calls Tryd.prog 115 #[.string s, .string ⟨#[c]⟩] w fun e w' => e = .returned (.bool (decide (0 < s.size ∧ (bs s).headD 0 = c))) ∧ w = w' := by
  have h1 : (⟨#[c]⟩ : ByteArray).size = 1 := rfl
  by_cases h0 : 0 < s.size
  · have hz : 1 ≤ s.size := h0
    have hx := take1_ext s h0
    have hb := head_bs0 h0
    by_cases he : s[0] = c
    · have E := Lib.hid (show decide (0 < s.size ∧ (bs s).headD 0 = c) = true from decide_eq_true ⟨h0, hb.trans he⟩)
      have heq : ((s.extract 0 1).toList == [c]) = true := by rw [ByteArray.toList_eq, hx, he]; exact beq_self_eq_true _
      clear hx hb he
      rw [E.out]
      go_enter Tryd.func115, Tryd.ntmps115
      go_wp2
      go_ret
      exact ⟨rfl, rfl⟩
    · have E := Lib.hid (show decide (0 < s.size ∧ (bs s).headD 0 = c) = false from decide_eq_false (fun h => he (hb.symm.trans h.2)))
      have heq : ((s.extract 0 1).toList == [c]) = false := by
        rw [ByteArray.toList_eq, hx, beq_eq_false_iff_ne]; intro e
        have e' : [s[0]] = [c] := e
        injection e' with e' _; exact he e'
      clear hx hb he
      rw [E.out]
      go_enter Tryd.func115, Tryd.ntmps115
      go_wp2
      go_ret
      exact ⟨rfl, rfl⟩
  · have E := Lib.hid (show decide (0 < s.size ∧ (bs s).headD 0 = c) = false from decide_eq_false (fun h => h0 h.1))
    have hz : ¬ 1 ≤ s.size := by omega
    rw [E.out]
    go_enter Tryd.func115, Tryd.ntmps115
    go_wp2
    go_ret
    exact ⟨rfl, rfl⟩
set_option maxHeartbeats 1000000 in
set_option maxRecDepth 100000 in
theorem cutPre_any (s : ByteArray) (c : UInt8) (w : World) (hs : s.size ≤ 16777216) : Calls Tryd.prog 102 #[.string s, .string ⟨#[c]⟩] w fun e w' => e = .returned (prefV c s) ∧ w = w' := by
  have hH := fun w => hasPre_any s c w hs
  have h1 : (⟨#[c]⟩ : ByteArray).size = 1 := rfl
  by_cases h0 : 0 < s.size ∧ (bs s).headD 0 = c
  · have E := Lib.hid (show prefV c s = .tuple #[.string (mk ((bs s).tail)), .bool true] by unfold prefV; rw [if_pos h0])
    rw [decide_eq_true h0] at hH
    have HH := Lib.hid hH
    have hx := drop1_ext s
    have hz : 1 ≤ s.size := h0.1
    clear hH h0
    rw [E.out]
    go_enter Tryd.func102, Tryd.ntmps102
    go_wp2_with (go_at_call 115; refine (HH.out _).mono ?_; rintro e w' ⟨rfl, rfl⟩)
    go_ret2
    exact ⟨rfl, rfl⟩
  · have E := Lib.hid (show prefV c s = .tuple #[.string s, .bool false] by unfold prefV; rw [if_neg h0])
    rw [decide_eq_false h0] at hH
    have HH := Lib.hid hH
    clear hH h0
    rw [E.out]
    go_enter Tryd.func102, Tryd.ntmps102
    go_wp2_with (go_at_call 115; refine (HH.out _).mono ?_; rintro e w' ⟨rfl, rfl⟩)
    go_ret2
    exact ⟨rfl, rfl⟩
set_option maxHeartbeats 1000000 in
set_option maxRecDepth 100000 in
theorem CutPrefix_any (s : ByteArray) (c : UInt8) (w : World) (hs : s.size ≤ 16777216) : Calls Tryd.prog 80 #[.string s, .string ⟨#[c]⟩] w fun e w' => e = .returned (prefV c s) ∧ w = w' := by
  have hH := fun w => cutPre_any s c w hs
  unfold prefV at *
  by_cases h0 : 0 < s.size ∧ (bs s).headD 0 = c
  · simp only [if_pos h0] at hH ⊢
    have HH := Lib.hid hH
    clear hH h0
    go_enter Tryd.func80, Tryd.ntmps80
    go_wp2_with (go_at_call 102; refine (HH.out _).mono ?_; rintro e w' ⟨rfl, rfl⟩)
    go_ret2
    exact ⟨rfl, rfl⟩
  · simp only [if_neg h0] at hH ⊢
    have HH := Lib.hid hH
    clear hH h0
    go_enter Tryd.func80, Tryd.ntmps80
    go_wp2_with (go_at_call 102; refine (HH.out _).mono ?_; rintro e w' ⟨rfl, rfl⟩)
    go_ret2
    exact ⟨rfl, rfl⟩
theorem fitE_nil' : FitE [] := fun p hp => absurd hp List.not_mem_nil
def RfRes (r : Option (List En)) (w : World) (e : Ending) (w' : World) : Prop := ∃ v, e = .returned (.tuple #[v, .bool r.isSome]) ∧ Own w' w.heap.size 100 2 encE v (r.getD []) ∧ Below w.heap.size w w'
theorem RfRes.no {r : Option (List En)} (h : r = none) {w w' : World} (hb : Below w.heap.size w w') : RfRes r w (.returned (.tuple #[.slice none 0 0, .bool false])) w' := by
  subst h; exact ⟨_, rfl, Own.nil, hb⟩
theorem RfRes.yes {r : Option (List En)} {l : List En} (h : r = some l) {w w' : World} {v : Value} (ho : Own w' w.heap.size 100 2 encE v l) (hb : Below w.heap.size w w') : RfRes r w (.returned (.tuple #[v, .bool true])) w' := by
  subst h; exact ⟨_, rfl, ho, hb⟩
theorem readF_head {s : ByteArray} (h : ¬ (0 < s.size ∧ (bs s).headD 0 = 100)) : readF (bs s) = none := readF_none fun l _ e => by
  apply h
  have h2 := size_bs s
  rw [← e] at h2 ⊢
  unfold foldB at h2 ⊢
  rw [List.length_cons] at h2
  exact ⟨by omega, rfl⟩
set_option maxHeartbeats 2000000 in
set_option maxRecDepth 100000 in
theorem iReadFolder_any (s : ByteArray) (w : World) (hs : s.size ≤ 1048576) (ht : TzL w) (hm : MaxL w) :
    Calls Tryd.prog 58 #[.string s] w (RfRes (readF (bs s)) w) := by
  have HT := Lib.hid ht
  have HM := Lib.hid hm
  have hCP := fun w => CutPrefix_any s 100 w (by omega)
  unfold prefV at hCP
  clear ht hm
  by_cases h0 : 0 < s.size ∧ (bs s).headD 0 = 100
  case neg =>
    have E := Lib.hid (readF_head h0)
    simp only [if_neg h0] at hCP
    have HCP := Lib.hid hCP
    clear hCP h0
    go_enter Tryd.func58, Tryd.ntmps58
    go_wp2_with (go_at_call 80; refine (HCP.out _).mono ?_; rintro e w' ⟨rfl, rfl⟩)
    go_ret2
    exact RfRes.no E.out (Below.refl _ _)
  simp only [if_pos h0] at hCP
  have HCP := Lib.hid hCP
  have hne := bs_ne_nil h0.1
  have HC0 := Lib.hid (show FC (bs s) [] (bs s).tail by rw [← List.drop_one]; exact FC.start (bs s))
  have hr0 : ((bs s).tail).length ≤ s.size := by rw [List.length_tail, size_bs]; omega
  have HDN := Lib.hid (fun acc (h : FC (bs s) acc []) => h.done hne)
  clear hCP h0 hne
  generalize hS : bs s = S at *
  generalize S.tail = R0 at *
  have HS := Lib.hid hS
  clear hS
  go_enter Tryd.func58, Tryd.ntmps58
  go_wp2_with (go_at_call 80; refine (HCP.out _).mono ?_; rintro e w' ⟨rfl, rfl⟩)
  go_loopw [4, 6] (fun r v wr => ∃ (rb : ByteArray) (acc : List En), r = .string rb ∧ rb.size ≤ s.size ∧ acc.length ≤ 3 ∧ Hid (FitE acc) ∧ Hid (FC S acc (bs rb)) ∧ Own wr w.heap.size 100 2 encE v acc ∧ Below w.heap.size w wr) (fun r _ _ => match r with | .string x => x.size | _ => 0)
  case atStart => exact ⟨mk R0, [], rfl, by rw [mk_size]; exact hr0, Nat.zero_le _, fitE_nil', HC0.out, Own.nil, Below.refl _ _⟩
  case round =>
    obtain ⟨rb, acc, rfl, hrl, ha3, HF, HC, hown, hb⟩ := hrel
    obtain ⟨X, d, rfl, hle, hsX, _⟩ := hown.sl
    have HW := Lib.hid hown
    have HSX := Lib.hid hsX
    have HB := Lib.hid hb
    clear hown hsX hb
    by_cases hre : rb.size = 0
    · have hnil := nil_tl hre
      have hdn := HDN.out acc (by have := HC.out; rwa [show bs rb = [] from List.eq_nil_of_length_eq_zero hre] at this)
      have HFT := Lib.hid (fun w h h2 => iFolderText_any X d acc w h (by omega) HF.out h2)
      clear hre
      by_cases he : foldT acc = S
      · rw [if_pos he] at hdn
        have HE := Lib.hid hdn
        have heq : ((mk (foldT acc)).toList == s.toList) = true := by rw [eq_tlx, HS.out]; exact beq_iff_eq.2 he
        clear hdn he
        go_wp2_with fail
        refine (HFT.out _ HSX.out (HT.out.below HB.out)).mono ?_
        rintro e w1 ⟨rfl, hb1⟩
        have HW1 := Lib.hid (HW.out.below hb1)
        have HB1 := Lib.hid (Below_then HB.out hb1 (Nat.le_refl _))
        clear hb1
        go_wp2
        go_ret2
        exact RfRes.yes HE.out HW1.out HB1.out
      · rw [if_neg he] at hdn
        have HE := Lib.hid hdn
        have heq : ((mk (foldT acc)).toList == s.toList) = false := by rw [eq_tlx, HS.out]; exact beq_eq_false_iff_ne.2 he
        clear hdn he
        go_wp2_with fail
        refine (HFT.out _ HSX.out (HT.out.below HB.out)).mono ?_
        rintro e w1 ⟨rfl, hb1⟩
        have HB1 := Lib.hid (Below_then HB.out hb1 (Nat.le_refl _))
        clear hb1
        go_wp2
        go_ret2
        exact RfRes.no HE.out HB1.out
    · have hpos : 0 < rb.size := by omega
      obtain ⟨hne, hne2⟩ := ne_tl (s := rb) hpos
      have hnb := bs_ne_nil hpos
      have hct := fun w h => Cut_any rb 59 w (by omega) h
      unfold cutV at hct
      clear hre
      cases hcu : cutC 59 (bs rb) with
      | none =>
        have HE := Lib.hid (HC.out.fail1 hnb hcu)
        simp only [hcu] at hct
        have HCT := Lib.hid hct
        have hc2 := fun w h => Cut_any rb 61 w (by omega) h
        unfold cutV at hc2
        clear hct hcu hnb
        cases hcv : cutC 61 (bs rb) with
        | none =>
          simp only [hcv] at hc2
          have HC2 := Lib.hid hc2
          clear hc2 hcv
          go_wp2_with fail
          refine (HCT.out _ (HM.out.below HB.out)).mono ?_
          rintro e w1 ⟨rfl, hb1⟩
          have HB1 := Lib.hid (Below_then HB.out hb1 (Nat.le_refl _))
          clear hb1
          go_wp2_with fail
          refine (HC2.out _ (HM.out.below HB1.out)).mono ?_
          rintro e w2 ⟨rfl, hb2⟩
          have HB2 := Lib.hid (Below_then HB1.out hb2 (Nat.le_refl _))
          clear hb2
          go_wp2
          go_ret2
          exact RfRes.no HE.out HB2.out
        | some x =>
          simp only [hcv] at hc2
          have HC2 := Lib.hid hc2
          clear hc2 hcv
          go_wp2_with fail
          refine (HCT.out _ (HM.out.below HB.out)).mono ?_
          rintro e w1 ⟨rfl, hb1⟩
          have HB1 := Lib.hid (Below_then HB.out hb1 (Nat.le_refl _))
          clear hb1
          go_wp2_with fail
          refine (HC2.out _ (HM.out.below HB1.out)).mono ?_
          rintro e w2 ⟨rfl, hb2⟩
          have HB2 := Lib.hid (Below_then HB1.out hb2 (Nat.le_refl _))
          clear hb2
          go_wp2
          go_ret2
          exact RfRes.no HE.out HB2.out
      | some x =>
        obtain ⟨pp, aa⟩ := x
        have hlen := cutC_len hcu
        have hpz : (mk pp).size ≤ 16777216 := by rw [mk_size]; omega
        have haz : (mk aa).size < rb.size := by rw [mk_size]; omega
        simp only [hcu] at hct
        have HCT := Lib.hid hct
        have hc2 := fun w h => Cut_any (mk pp) 61 w hpz h
        unfold cutV at hc2
        rw [show bs (mk pp) = pp from rfl] at hc2
        have HF2 := Lib.hid (fun h => HC.out.fail2 hnb hcu h)
        have HF3 := Lib.hid (fun h => HC.out.fail3 hnb h)
        have HST := Lib.hid (fun n dg h => HC.out.step (n := n) (d := dg) hnb hcu h)
        clear hct hcu
        cases hcv : cutC 61 pp with
        | none =>
          have HE := Lib.hid (HF2.out hcv)
          simp only [hcv] at hc2
          have HC2 := Lib.hid hc2
          clear hc2 hcv hnb hlen HF2 HF3 HST
          generalize mk pp = PP at *
          generalize mk aa = AA at *
          go_wp2_with fail
          refine (HCT.out _ (HM.out.below HB.out)).mono ?_
          rintro e w1 ⟨rfl, hb1⟩
          have HB1 := Lib.hid (Below_then HB.out hb1 (Nat.le_refl _))
          clear hb1
          go_wp2_with fail
          refine (HC2.out _ (HM.out.below HB1.out)).mono ?_
          rintro e w2 ⟨rfl, hb2⟩
          have HB2 := Lib.hid (Below_then HB1.out hb2 (Nat.le_refl _))
          clear hb2
          go_wp2
          go_ret2
          exact RfRes.no HE.out HB2.out
        | some y =>
          obtain ⟨nn, dg⟩ := y
          have hlen2 := cutC_len (s := mk pp) hcv
          rw [mk_size] at hlen2
          have hnz : (mk nn).size ≤ 16777216 := by rw [mk_size]; omega
          have hdz : (mk dg).size ≤ 16777216 := by rw [mk_size]; omega
          simp only [hcv] at hc2
          have HC2 := Lib.hid hc2
          have HRH := Lib.hid (fun w h => iReadHex_any (mk dg) w hdz h)
          rw [show bs (mk dg) = dg from rfl] at HRH
          have HN := Lib.hid (show FC S (acc ++ [(mk nn, readH dg)]) (bs (mk aa)) from HST.out nn dg hcv)
          have HFN := Lib.hid (show FitE (acc ++ [(mk nn, readH dg)]) from fun q hq => by
            rcases List.mem_append.1 hq with h | h
            · exact HF.out q h
            · rw [List.mem_singleton.1 h]; exact hnz)
          clear hc2 hcv hnb hlen hlen2 HF2 HST
          generalize readH dg = hx at *
          generalize mk pp = PP at *
          generalize mk aa = AA at *
          generalize mk dg = DG at *
          generalize mk nn = NN at *
          by_cases h3 : acc.length = 3
          · have HE := Lib.hid (HF3.out (by omega))
            have h3' : (acc.length : Int) = 3 := by omega
            clear HN HFN
            go_wp2_with fail
            refine (HCT.out _ (HM.out.below HB.out)).mono ?_
            rintro e w1 ⟨rfl, hb1⟩
            have HB1 := Lib.hid (Below_then HB.out hb1 (Nat.le_refl _))
            clear hb1
            go_wp2_with fail
            refine (HC2.out _ (HM.out.below HB1.out)).mono ?_
            rintro e w2 ⟨rfl, hb2⟩
            have HB2 := Lib.hid (Below_then HB1.out hb2 (Nat.le_refl _))
            clear hb2
            go_wp2
            go_ret2
            exact RfRes.no HE.out HB2.out
          · have h3' : ¬ (acc.length : Int) = 3 := by omega
            go_wp2_with fail
            refine (HCT.out _ (HM.out.below HB.out)).mono ?_
            rintro e w1 ⟨rfl, hb1⟩
            have HW1 := Lib.hid (HW.out.below hb1)
            have HB1 := Lib.hid (Below_then HB.out hb1 (Nat.le_refl _))
            clear hb1
            go_wp2_with fail
            refine (HC2.out _ (HM.out.below HB1.out)).mono ?_
            rintro e w2 ⟨rfl, hb2⟩
            have HW2 := Lib.hid (HW1.out.below hb2)
            have HB2 := Lib.hid (Below_then HB1.out hb2 (Nat.le_refl _))
            clear hb2
            go_wp2_with fail
            refine (HRH.out _ (HT.out.below HB2.out)).mono ?_
            rintro e w3 ⟨rfl, hb3⟩
            have HW3 := Lib.hid (HW2.out.below hb3)
            have HB3 := Lib.hid (Below_then HB2.out hb3 (Nat.le_refl _))
            clear hb3
            go_wp2_with (at_builtin; refine app_en (w0 := w) (y := (NN, hx)) rfl rfl rfl rfl HW3.out HB3.out (Nat.le_refl _) HB3.out.size (by omega) ?_; intro v4 w4 hown4 hb4; have HW4 := Lib.hid hown4; have HB4 := Lib.hid hb4; clear hown4 hb4)
            go_roundw
            case rel => exact ⟨AA, _, rfl, by omega, by simp; omega, HFN.out, HN.out, HW4.out, HB4.out⟩
            case measure => simpa using haz
end Go.Proofs.YtaghiefokmapmaaDoor

/- ReadFolder of the reference, walked. -/
set_option linter.unusedVariables false
namespace Go.Proofs.YtaghiefokmapmaaDoor
open Go.RowKit
theorem RfRes.made {r : Option (List En)} (h : r = none) {w w' : World} (hb : Below w.heap.size w w') : RfRes r w (.returned (.tuple #[.slice (some ⟨w'.heap.size, 0, none⟩) 0 0, .bool false])) (w'.alloc (.cells #[] 100)) := by
  subst h; exact ⟨_, rfl, Own.made hb.size, hb.alloc hb.size _⟩
theorem ext_drop (s : ByteArray) (a b : Nat) : s.extract a b = mk (((bs s).drop a).take (b - a)) := by
  apply ByteArray.ext
  apply Array.ext'
  rw [Lib.extract_data]; rfl
abbrev rowE (y : En) : Obj := .cells #[.string y.1, .int .i64 y.2] 100
section
variable {ops : Array Oper} {o : Oper} {a : Act} {K : Act → World → Prop} {Q : Exit → Act → World → Prop} {E' : Prop} {l : List En} {s x : Operand}
theorem one_rowE {W : World} {y : En} : Sl (W.alloc (rowE y)) encE 2 (some ⟨W.heap.size, 0, none⟩) [y] := by
  intro _
  refine ⟨W.heap.size, 0, rfl, fun j u hu => ?_⟩
  rw [cell_of_row _ _ _ _ _ (0, 0) (heap_alloc_new W _)]
  simpa [flat, encE] using hu
theorem step_en_g {w0 W : World} {v : Value} {y : En} (hown : Own W w0.heap.size 100 2 encE v l) (hb : Below w0.heap.size w0 W) (hl : l.length ≤ 16777216) (hw : Region.wanted o (yielded ops a.tmps) = true) (ho : o.op = .call { callee := .builtin .append, args := #[s, x], argTypes := #[56, 56] })
    (hs : a.eval s = v) (hx : a.eval x = .slice (some ⟨W.heap.size, 0, none⟩) 1 1)
    (h : ∀ v' w', Own w' w0.heap.size 100 2 encE v' (l ++ [y]) → Below w0.heap.size w0 w' → K (a.put o.dst v') w') : if Region.wanted o (yielded ops a.tmps) = true then Oper.wp Tryd.prog o a (W.drew.alloc (rowE y)) K Q else E' := by
  obtain ⟨i0, hi0, hz0, hz1, hz2⟩ := info_parts en_info
  exact step_appW (l := l) (m := [y]) Tryd.underlying56 hi0 hz0 hz1 hz2 rfl (by decide) (by decide) hw s x ho (hown.drew.alloc _) (hb.drew.alloc hb.size _) (Nat.le_refl _) (by simp; exact Nat.le_succ_of_le hb.size) (by simp; omega) (one_rowE (W := W.drew)) (by intro h; cases h) (fun _ => rfl) oneE hs hx fun v' w' h1 h2 _ => h v' w' h1 h2
end
set_option maxHeartbeats 2000000 in
set_option maxRecDepth 100000 in
theorem sReadFolder_any (s : ByteArray) (w : World) (hs : s.size ≤ 1048576) :
    Calls Tryd.prog 61 #[.string s] w (RfRes (readF (bs s)) w) := by
  have HC0 := Lib.hid (FC.start (bs s))
  go_enter Tryd.func61, Tryd.ntmps61
  go_wp2_with fail
  go_loopw [4, 5] (fun v i wr => ∃ (t : Nat) (acc : List En), i = .int .i64 t ∧ 1 ≤ t ∧ acc.length ≤ t ∧ t ≤ s.size + 1 ∧ Hid (FitE acc) ∧ Hid (FC (bs s) acc ((bs s).drop t)) ∧ Own wr w.heap.size 100 2 encE v acc ∧ Below w.heap.size w wr) (fun _ i _ => s.size + 1 - (intOf i).toNat)
  case atStart => exact ⟨1, [], rfl, Nat.le_refl _, by simp, by omega, fitE_nil', HC0.out, Own.made (Nat.le_refl _), (Below.refl _ _).alloc (Nat.le_refl _) _⟩
  case round =>
    obtain ⟨t, acc, rfl, ht1, hat, hts, HF, HC, hown, hb⟩ := hrel
    obtain ⟨X, d, rfl, hle, hsX, _⟩ := hown.sl
    have HW := Lib.hid hown
    have HSX := Lib.hid hsX
    have HB := Lib.hid hb
    clear hown hsX hb
    by_cases hlt : t < s.size
    · obtain ⟨rest, hrest⟩ : ∃ r, r = (bs s).drop t := ⟨_, rfl⟩
      have hrl : rest.length = s.size - t := by rw [hrest, List.length_drop, size_bs]
      have hne : rest ≠ [] := fun e => by rw [e] at hrl; simp at hrl; omega
      have hFC := HC.out
      rw [← hrest] at hFC
      have HSF := Lib.hid (hFC.sfail hne)
      have HSS := Lib.hid (hFC.sstep hne)
      have hh1 := headC_le 61 rest
      have HN1 := Lib.hid (headC_ne 61 rest)
      have HA1 := Lib.hid (headC_at 61 rest)
      obtain ⟨h1, hh⟩ : ∃ h, h = (headC 61 rest).length := ⟨_, rfl⟩
      rw [← hh] at HSF HSS hh1 HN1 HA1
      have hh2 := headC_le 59 (rest.drop h1)
      have HN2 := Lib.hid (headC_ne 59 (rest.drop h1))
      have HA2 := Lib.hid (headC_at 59 (rest.drop h1))
      obtain ⟨h2, hhh⟩ : ∃ h, h = (headC 59 (rest.drop h1)).length := ⟨_, rfl⟩
      rw [← hhh] at HSF HSS hh2 HN2 HA2
      rw [List.length_drop] at hh2
      have HR := Lib.hid hrest
      have HG := Lib.hid (show ∀ j (h : j < rest.length) (h' : t + j < s.size), rest[j] = s[t + j] from fun j h h' => by
        have e : rest[j]? = (bs s)[t + j]? := by rw [hrest, List.getElem?_drop]
        rw [List.getElem?_eq_getElem h, List.getElem?_eq_getElem (show t + j < (bs s).length from h')] at e
        injection e)
      have HRL := Lib.hid hrl
      clear hrest hFC hh hhh hne
      go_wp2_with fail
      go_loop [6] (fun j => ∃ (q : Nat), q ≤ h1 ∧ j = .int .i64 ((t + q : Nat) : Int)) (fun j => h1 + t - (intOf j).toNat)
      case atStart => exact ⟨0, Nat.zero_le _, rfl⟩
      case round =>
        obtain ⟨q, hq, rfl⟩ := hrel
        by_cases hqh : q < h1
        · have hin : t + q < s.size := by omega
          have hne : ¬ s[t + q].toNat = 61 := by
            have h3 := HN1.out q (by omega) hqh
            rw [HG.out q (by omega) hin] at h3
            intro e; exact h3 (UInt8.toNat_inj.1 e)
          have hne2 : ¬ ((s[t + q].toNat : Int) = 61) := by omega
          have hin2 : ((t + q : Nat) : Int) < (s.size : Int) := by omega
          go_wp2
          go_round
          case rel => exact ⟨q + 1, by omega, by go_num⟩
          case measure => simp [intOf]; omega
        · obtain rfl : q = h1 := by omega
          have hst1 : t + q < s.size → ∃ h : t + q < s.size, s[t + q].toNat = 61 := fun h => ⟨h, by
            have h3 := HA1.out (by omega)
            rw [HG.out q (by omega) h] at h3
            rw [h3]; rfl⟩
          have HS1 := Lib.hid hst1
          have HH2 := Lib.hid (show ∀ p, p < h2 → ∀ h : t + q + p < s.size, ¬ s[t + q + p].toNat = 59 from fun p hp h e => by
            have h3 := HN2.out p (by rw [List.length_drop]; omega) hp
            rw [List.getElem_drop, HG.out (q + p) (by omega) (by omega)] at h3
            apply h3
            have e2 : t + (q + p) = t + q + p := by omega
            simp only [e2]
            exact UInt8.toNat_inj.1 e)
          have HS2 := Lib.hid (show ∀ h : t + q + h2 < s.size, s[t + q + h2].toNat = 59 from fun h => by
            have h3 := HA2.out (by rw [List.length_drop]; omega)
            rw [List.getElem_drop, HG.out (q + h2) (by omega) (by omega)] at h3
            have e2 : t + (q + h2) = t + q + h2 := by omega
            simp only [e2] at h3
            rw [h3]; rfl)
          have HP1 := Lib.hid (show t + q + h2 < s.size → 1 ≤ h2 from fun h => by
            by_cases e : h2 = 0
            · obtain ⟨h5, h6⟩ := HS1.out (by omega)
              have h7 := HS2.out h
              simp only [e, Nat.add_zero] at h7
              rw [h6] at h7; cases h7
            · omega)
          have HE1 := Lib.hid (show s.extract t (t + q) = mk (rest.take q) by rw [ext_drop, ← HR.out]; congr 2; omega)
          have HE2 := Lib.hid (show s.extract (t + q + 1) (t + q + h2) = mk ((rest.drop (q + 1)).take (h2 - 1)) by
            rw [ext_drop, HR.out, List.drop_drop, show t + (q + 1) = t + q + 1 by omega]; congr 2; omega)
          have HE3 := Lib.hid (show rest.drop (q + h2 + 1) = (bs s).drop (t + q + h2 + 1) by rw [HR.out, List.drop_drop]; congr 1; omega)
          have hq2 : q + h2 ≤ rest.length := by omega
          clear hst1 HN1 HA1 HN2 HA2 HG HR
          have hsl : t + q + h2 ≤ s.size := by omega
          have HLT := Lib.hid (show t + q + h2 < s.size → q + h2 < rest.length from fun h => by omega)
          have HGE := Lib.hid (show ¬ t + q + h2 < s.size → ¬ q + h2 < rest.length from fun h => by omega)
          have htsg : t ≤ t + q := by omega
          have hnn : (mk (rest.take q)).size ≤ 16777216 := by rw [mk_size, List.length_take]; omega
          have hdd : (mk ((rest.drop (q + 1)).take (h2 - 1))).size ≤ 16777216 := by rw [mk_size, List.length_take, List.length_drop]; omega
          have hRH := fun w => sReadHex_any (mk ((rest.drop (q + 1)).take (h2 - 1))) w hdd
          rw [show bs (mk ((rest.drop (q + 1)).take (h2 - 1))) = (rest.drop (q + 1)).take (h2 - 1) from rfl] at hRH
          have HRH := Lib.hid hRH
          clear hRH
          rw [HE3.out] at HSS
          clear HE3
          generalize readH ((rest.drop (q + 1)).take (h2 - 1)) = hx at *
          generalize mk ((rest.drop (q + 1)).take (h2 - 1)) = DG at *
          generalize mk (rest.take q) = NN at *
          generalize hsg : t + q = sg at *
          have hex : (sg < s.size ∧ ∃ h : sg < s.size, s[sg].toNat = 61) ∨ ¬ sg < s.size := by
            by_cases h : sg < s.size
            · exact .inl ⟨h, HS1.out h⟩
            · exact .inr h
          rcases hex with ⟨hz, _, h61⟩ | hz
          case inr =>
            have hz2 : h2 = 0 := by omega
            subst hz2
            have hE := HSF.out (HGE.out (by omega))
            have heq : (sg : Int) = (s.size : Int) := by omega
            have HE := Lib.hid hE
            clear hE HSF HSS HH2 HS2 HP1 HS1 HE1 HE2 HRL HLT HGE
            go_wp2_with fail
            go_loop [7] (fun j => j = .int .i64 (s.size : Int)) (fun _ => 0)
            case atStart => rfl
            case round =>
              subst hrel
              go_wp2
              go_ret2
              exact RfRes.made HE.out HB.out
          case inl =>
            go_wp2_with fail
            go_loop [7] (fun j => ∃ (p : Nat), p ≤ h2 ∧ j = .int .i64 ((sg + p : Nat) : Int)) (fun j => h2 + sg - (intOf j).toNat)
            case atStart => exact ⟨0, Nat.zero_le _, rfl⟩
            case round =>
              obtain ⟨p, hp, rfl⟩ := hrel
              by_cases hph : p < h2
              · have hin : sg + p < s.size := by omega
                have hne := HH2.out p hph hin
                have hne2 : ¬ ((s[sg + p].toNat : Int) = 59) := by omega
                have hin2 : ((sg + p : Nat) : Int) < (s.size : Int) := by omega
                go_wp2
                go_round
                case rel => exact ⟨p + 1, by omega, by go_num⟩
                case measure => simp [intOf]; omega
              · obtain rfl : p = h2 := by omega
                by_cases hend : sg + p < s.size
                · have h59 := HS2.out hend
                  have hp1 := HP1.out hend
                  have hq3 := HLT.out hend
                  have HN := Lib.hid HSS.out
                  have HFN := Lib.hid (show FitE (acc ++ [(NN, hx)]) from fun z hz => by
                    rcases List.mem_append.1 hz with h | h
                    · exact HF.out z h
                    · rw [List.mem_singleton.1 h]; exact hnn)
                  have he1 := HE1.out
                  have he2 := HE2.out
                  have hnd : ¬ ((sg + p : Nat) : Int) = (s.size : Int) := by omega
                  have hw1 : IntKind.i64.wrap ((sg : Int) + 1) = (sg : Int) + 1 := IntWalk.i64_in _ (by omega)
                  have hw2 : (0 : Int) ≤ (sg : Int) + 1 := by omega
                  have hw3 : ((sg : Int) + 1).toNat = sg + 1 := by omega
                  have HL := Lib.hid (show acc.length ≤ 16777216 by omega)
                  have HTT := Lib.hid (show t ≤ sg ∧ acc.length ≤ t ∧ sg + p < s.size from ⟨htsg, hat, hend⟩)
                  have hsgs : sg < s.size := by omega
                  clear HH2 HS2 HP1 HS1 HSF HSS HE1 HE2 HRL HLT HGE hsg
                  generalize hen : sg + p = en at *
                  have hw4 : (sg : Int) + 1 ≤ (en : Int) := by omega
                  have hw5 : (en : Int) ≤ (s.size : Int) := by omega
                  have hw6 : sg + 1 ≤ en := by omega
                  have hw7 : en ≤ s.size := by omega
                  have hw8 : sg ≤ s.size := by omega
                  have hw9 : (t : Int) ≤ (sg : Int) := by omega
                  have hw10 : (sg : Int) ≤ (s.size : Int) := by omega
                  clear hen
                  go_wp2_with fail
                  first
                    | go_region_held3 (fun w' => True) (trivial)
                        ((first
                          | (go_at_call 32; refine (HRH.out _).mono ?_; rintro e w3 ⟨rfl, rfl⟩)
                          | (refine step_en_g (w0 := w) (y := (NN, hx)) HW.out HB.out HL.out (by rfl) rfl (by rfl) (by rfl) ?_; intro v4 w4 hown4 hb4; have HW4 := Lib.hid hown4; have HB4 := Lib.hid hb4; clear hown4 hb4)))
                    | fail
                  all_goals
                    go_wp2
                    go_roundw
                    case rel => exact ⟨en + 1, _, by go_num, by omega, by have := HTT.out; simp; omega, by omega, HFN.out, HN.out, HW4.out, HB4.out⟩
                    case measure => have := HTT.out; simp [intOf]; omega
                · have HE := Lib.hid (HSF.out (HGE.out hend))
                  have heq : ((sg + p : Nat) : Int) = (s.size : Int) := by omega
                  clear HSF HSS HH2 HS2 HP1 HS1 HE1 HE2 HRL HLT HGE
                  go_wp2
                  go_ret2
                  exact RfRes.made HE.out HB.out
    · have hnil : (bs s).drop t = [] := List.drop_eq_nil_of_le (by rw [size_bs]; omega)
      have hFC := HC.out
      rw [hnil] at hFC
      have HFT := Lib.hid (fun w h => sFolderText_any X d acc w h (by omega) HF.out)
      have hR : (0 < s.size ∧ (foldT acc = bs s) ∧ readF (bs s) = some acc) ∨ ((s.size = 0 ∨ foldT acc ≠ bs s) ∧ readF (bs s) = none) := by
        by_cases h0 : 0 < s.size
        · have hd := hFC.done (bs_ne_nil h0)
          by_cases he : foldT acc = bs s
          · rw [if_pos he] at hd; exact .inl ⟨h0, he, hd⟩
          · rw [if_neg he] at hd; exact .inr ⟨.inr he, hd⟩
        · exact .inr ⟨.inl (by omega), readF_head (fun h => h0 h.1)⟩
      clear hFC hnil
      rcases hR with ⟨h0, he, hr⟩ | ⟨h0, hr⟩
      · have HE := Lib.hid hr
        have heq : ((mk (foldT acc)).toList == s.toList) = true := by rw [eq_tlx]; exact beq_iff_eq.2 he
        obtain ⟨hne, hne2⟩ := ne_tl (s := s) h0
        clear hr he
        go_wp2_with fail
        refine (HFT.out _ HSX.out).mono ?_
        rintro e w1 ⟨rfl, hb1⟩
        have HW1 := Lib.hid (HW.out.below hb1)
        have HB1 := Lib.hid (Below_then HB.out hb1 (Nat.le_refl _))
        clear hb1
        go_wp2
        go_ret2
        exact RfRes.yes HE.out HW1.out HB1.out
      · have HE := Lib.hid hr
        clear hr
        cases heq : ((mk (foldT acc)).toList == s.toList)
        · clear h0
          go_wp2_with fail
          refine (HFT.out _ HSX.out).mono ?_
          rintro e w1 ⟨rfl, hb1⟩
          have HB1 := Lib.hid (Below_then HB.out hb1 (Nat.le_refl _))
          clear hb1
          go_wp2
          go_ret2
          exact RfRes.made HE.out HB1.out
        · have he : foldT acc = bs s := by rw [eq_tlx] at heq; exact beq_iff_eq.1 heq
          have hz := h0.resolve_right (fun h => h he)
          have hnil := nil_tl hz
          clear h0 he hz
          go_wp2_with fail
          refine (HFT.out _ HSX.out).mono ?_
          rintro e w1 ⟨rfl, hb1⟩
          have HB1 := Lib.hid (Below_then HB.out hb1 (Nat.le_refl _))
          clear hb1
          go_wp2
          all_goals
            go_ret2
            exact RfRes.made HE.out HB1.out
end Go.Proofs.YtaghiefokmapmaaDoor

/- textOf and GetText of the program, walked. -/
set_option linter.unusedVariables false
namespace Go.Proofs.YtaghiefokmapmaaDoor
open Go.RowKit

def GtRes (r : Option ByteArray) (w : World) (e : Ending) (w' : World) : Prop := e = .returned (.tuple #[.string (r.getD ⟨#[]⟩), .bool r.isSome]) ∧ Below w.heap.size w w'
set_option maxHeartbeats 4000000 in
set_option maxRecDepth 100000 in
theorem itextOf_any (A : Option Addr) (c : Nat) (l : List Pc) (x : Int) (w : World) (hs : Sl w encP 2 A l) (hl : l.length ≤ 16777216) (hso : Sorted l) :
    Calls Tryd.prog 57 #[.slice A l.length c, .int .i64 x] w (GtRes (getT l x) w) := by
  have hX := fun w h => findPiece_any A c l x w h hl hso
  have HS := Lib.hid hs
  have hg := getT_here hso (p := x)
  clear hs
  unfold FpRes at hX
  unfold GtRes
  rw [hg]
  cases hh : hereP l x
  · rw [hh] at hX
    have HX := Lib.hid hX
    clear hX hg hso hh
    go_enter Tryd.func57, Tryd.ntmps57
    go_wp2_with fail
    refine (HX.out _ HS.out).mono ?_
    rintro e w1 ⟨rfl, hb⟩
    have HB := Lib.hid hb
    clear hb
    go_wp2
    go_ret2
    exact ⟨rfl, HB.out⟩
  · have hlt : below l x < l.length := by unfold hereP at hh; simp at hh; exact hh.1
    rw [hh] at hX
    rw [getD_pc hlt]
    have HX := Lib.hid hX
    have HG := Lib.hid (fun (w : World) (h : Sl w encP 2 A l) => h.getP hlt)
    generalize l[below l x] = q at *
    obtain ⟨a, t⟩ := q
    simp only at *
    generalize below l x = B at *
    obtain ⟨b, o, rfl, _, _⟩ := HG.out w HS.out
    clear hX hg hso hh
    go_enter Tryd.func57, Tryd.ntmps57
    go_wp2_with fail
    refine (HX.out _ HS.out).mono ?_
    rintro e w1 ⟨rfl, hb⟩
    have HB := Lib.hid hb
    obtain ⟨b', o', e', hc0, hc1⟩ := HG.out _ (HS.out.below hb)
    have hbb : b' = b ∧ o' = o := by injection e' with e'; injection e' with e1 e2; exact ⟨e1.symm, e2.symm⟩
    obtain ⟨rfl, rfl⟩ := hbb
    clear hb e'
    go_wp2
    go_ret2
    exact ⟨rfl, HB.out⟩
end Go.Proofs.YtaghiefokmapmaaDoor

/- ContentValid, ReadFile, TextKind, l4Get of the reference; folderOf of the program, walked. -/
set_option linter.unusedVariables false
namespace Go.Proofs.YtaghiefokmapmaaDoor
open Go.RowKit
set_option maxHeartbeats 1000000 in
set_option maxRecDepth 100000 in
theorem sContentValid_any (s : ByteArray) (w : World) (hs : s.size ≤ 16777216) :
    Calls Tryd.prog 82 #[.string s] w fun e w' => e = .returned (.bool (contV (bs s))) ∧ w = w' := by
  have hTV := fun w => sTextValid_any s w hs
  have E := Lib.hid (show contV (bs s) = (textV (bs s) && decide (s.size ≤ 40)) from rfl)
  rw [E.out]
  cases hv : textV (bs s)
  · rw [hv] at hTV
    have HTV := Lib.hid hTV
    clear hTV hv E
    go_enter Tryd.func82, Tryd.ntmps82
    go_wp2_with (go_at_call 24; refine (HTV.out _).mono ?_; rintro e w' ⟨rfl, rfl⟩)
    go_ret
    exact ⟨rfl, rfl⟩
  · rw [hv] at hTV
    have HTV := Lib.hid hTV
    clear hTV hv E
    by_cases h : s.size ≤ 40
    · have h' : (s.size : Int) ≤ 40 := by omega
      rw [decide_eq_true h]
      clear h
      go_enter Tryd.func82, Tryd.ntmps82
      go_wp2_with (go_at_call 24; refine (HTV.out _).mono ?_; rintro e w' ⟨rfl, rfl⟩)
      go_ret
      first | exact ⟨rfl, rfl⟩ | exact ⟨ret_bool (decide_eq_true h'), rfl⟩
    · have h' : ¬ (s.size : Int) ≤ 40 := by omega
      rw [decide_eq_false h]
      clear h
      go_enter Tryd.func82, Tryd.ntmps82
      go_wp2_with (go_at_call 24; refine (HTV.out _).mono ?_; rintro e w' ⟨rfl, rfl⟩)
      go_ret
      first | exact ⟨rfl, rfl⟩ | exact ⟨ret_bool (decide_eq_false (Int.not_le.2 h')), rfl⟩
def RdRes (r : Option Bs) (w : World) (e : Ending) (w' : World) : Prop := e = .returned (.tuple #[.string (mk (r.getD [])), .bool r.isSome]) ∧ w = w'
theorem readFi_head {s : ByteArray} (h : 0 < s.size) : readFi (bs s) = if s[0] = 102 ∧ contV (bs s).tail = true then some (bs s).tail else none := by
  have hh := head_bs0 h
  cases hb : bs s with
  | nil => have := size_bs s; rw [hb] at this; simp at this; omega
  | cons x r =>
    rw [hb] at hh
    have hx : x = s[0] := by simpa using hh
    unfold readFi
    simp only [List.tail_cons, ← hx]
    by_cases h1 : x = 102 <;> cases h2 : contV r <;> simp [h1]
set_option maxHeartbeats 1000000 in
set_option maxRecDepth 100000 in
theorem sReadFile_any (s : ByteArray) (w : World) (hs : s.size ≤ 16777216) : Calls Tryd.prog 60 #[.string s] w (RdRes (readFi (bs s)) w) := by
  unfold RdRes
  by_cases h0 : 0 < s.size
  · have hE := readFi_head h0
    obtain ⟨hne, hne2⟩ := ne_tl (s := s) h0
    have hx := drop1_ext s
    have hz : 1 ≤ s.size := h0
    have hts : (mk (bs s).tail).size ≤ 16777216 := by rw [mk_size, List.length_tail, size_bs]; omega
    have hCV := fun w => sContentValid_any (mk (bs s).tail) w hts
    rw [show bs (mk (bs s).tail) = (bs s).tail from rfl] at hCV
    by_cases h1 : s[0] = 102
    · have h1n : (s[0].toNat : Int) = 102 := by rw [h1]; rfl
      cases hc : contV (bs s).tail
      · rw [if_neg (by rw [hc]; simp)] at hE
        rw [hc] at hCV
        have HCV := Lib.hid hCV
        have HE := Lib.hid hE
        clear hCV hE hc h1
        rw [HE.out]
        generalize mk (bs s).tail = TT at *
        go_enter Tryd.func60, Tryd.ntmps60
        go_wp2_with (go_at_call 82; refine (HCV.out _).mono ?_; rintro e w' ⟨rfl, rfl⟩)
        go_ret2
        exact ⟨rfl, rfl⟩
      · rw [if_pos ⟨h1, hc⟩] at hE
        rw [hc] at hCV
        have HCV := Lib.hid hCV
        have HE := Lib.hid hE
        clear hCV hE hc h1
        rw [HE.out]
        show Calls _ _ _ _ fun e w' => e = .returned (.tuple #[.string (mk (bs s).tail), .bool true]) ∧ w = w'
        generalize mk (bs s).tail = TT at *
        go_enter Tryd.func60, Tryd.ntmps60
        go_wp2_with (go_at_call 82; refine (HCV.out _).mono ?_; rintro e w' ⟨rfl, rfl⟩)
        go_ret2
        exact ⟨rfl, rfl⟩
    · have h1n : ¬ (s[0].toNat : Int) = 102 := by
        intro e; apply h1; apply UInt8.toNat_inj.1; show s[0].toNat = 102; omega
      rw [if_neg (fun h => h1 h.1)] at hE
      have HE := Lib.hid hE
      clear hE hCV h1 hx
      rw [HE.out]
      go_enter Tryd.func60, Tryd.ntmps60
      go_wp2
      go_ret2
      exact ⟨rfl, rfl⟩
  · have hz : s.size = 0 := by omega
    have HE := Lib.hid (show readFi (bs s) = none by rw [show bs s = [] from List.eq_nil_of_length_eq_zero hz]; rfl)
    have hnil := nil_tl hz
    rw [HE.out]
    clear h0 hz
    go_enter Tryd.func60, Tryd.ntmps60
    go_wp2
    go_ret2
    exact ⟨rfl, rfl⟩
set_option maxHeartbeats 1000000 in
set_option maxRecDepth 100000 in
theorem sTextKind_any (s : ByteArray) (w : World) (hs : s.size ≤ 1048576) : Calls Tryd.prog 41 #[.string s] w fun e w' => e = .returned (.int .i64 (textK (bs s))) ∧ Below w.heap.size w w' := by
  have hRF := fun w => sReadFile_any s w (by omega)
  have hRd := fun w => sReadFolder_any s w hs
  have hE : textK (bs s) = if (readFi (bs s)).isSome then 1 else if (readF (bs s)).isSome then 2 else 0 := rfl
  unfold RdRes at hRF
  unfold RfRes at hRd
  rw [hE]
  generalize readFi (bs s) = P at *
  generalize readF (bs s) = Q at *
  clear hE
  have HRF := Lib.hid hRF
  have HRd := Lib.hid hRd
  clear hRF hRd
  cases P with
  | none =>
    cases Q with
    | none =>
      go_enter Tryd.func41, Tryd.ntmps41
      go_wp2_with (go_at_call 60; refine (HRF.out _).mono ?_; rintro e w' ⟨rfl, rfl⟩)
      refine (HRd.out _).mono ?_
      rintro e w1 ⟨v, rfl, hown, hb⟩
      have HB := Lib.hid hb
      clear hb hown
      go_wp2
      go_ret
      exact ⟨rfl, HB.out⟩
    | some q =>
      go_enter Tryd.func41, Tryd.ntmps41
      go_wp2_with (go_at_call 60; refine (HRF.out _).mono ?_; rintro e w' ⟨rfl, rfl⟩)
      refine (HRd.out _).mono ?_
      rintro e w1 ⟨v, rfl, hown, hb⟩
      have HB := Lib.hid hb
      clear hb hown
      go_wp2
      go_ret
      exact ⟨rfl, HB.out⟩
  | some p =>
    go_enter Tryd.func41, Tryd.ntmps41
    go_wp2_with (go_at_call 60; refine (HRF.out _).mono ?_; rintro e w' ⟨rfl, rfl⟩)
    refine (HRd.out _).mono ?_
    rintro e w1 ⟨v, rfl, hown, hb⟩
    have HB := Lib.hid hb
    clear hb hown
    go_wp2
    go_ret
    exact ⟨rfl, HB.out⟩
theorem getT_find {l : List Pc} {p : Int} {k : Nat} (hk : k < l.length) (h : ∀ j (h : j < l.length), j < k → l[j].1 ≠ p) (he : l[k].1 = p) : getT l p = some l[k].2 := by
  unfold getT
  have : l.find? (fun x => x.1 == p) = some l[k] := by
    rw [List.find?_eq_some_iff_getElem]
    refine ⟨by simpa using he, k, hk, rfl, fun j hj => ?_⟩
    simpa using h j (by omega) hj
  rw [this]; rfl
set_option maxHeartbeats 1000000 in
set_option maxRecDepth 100000 in
theorem sl4Get_any (A : Option Addr) (c : Nat) (l : List Pc) (p : Int) (w : World) (hs : Sl w encP 2 A l) (hl : l.length ≤ 16777216) :
    Calls Tryd.prog 40 #[.slice A l.length c, .int .i64 p] w fun e w' => e = .returned (.tuple #[.string ((getT l p).getD ⟨#[]⟩), .bool (getT l p).isSome]) ∧ w = w' := by
  have HS := Lib.hid hs
  clear hs
  generalize hr : getT l p = R at *
  have HR := Lib.hid hr
  clear hr
  go_enter Tryd.func40, Tryd.ntmps40
  go_wp2_with fail
  go_loop [6] (fun i => ∃ (k : Nat), k ≤ l.length ∧ i = .int .i64 k ∧ Hid (∀ j (h : j < l.length), j < k → l[j].1 ≠ p)) (fun i => l.length - (intOf i).toNat)
  case atStart => exact ⟨0, Nat.zero_le _, rfl, fun j h h2 => by omega⟩
  case round =>
    obtain ⟨k, hk, rfl, HH⟩ := hrel
    by_cases hlt : k < l.length
    · obtain ⟨b, o, rfl, hc0, hc1⟩ := HS.out.getP hlt
      have HF := Lib.hid (fun (he : l[k].1 = p) => getT_find hlt HH.out he)
      have HN := Lib.hid (fun (hne : l[k].1 ≠ p) => show ∀ j (h : j < l.length), j < k + 1 → l[j].1 ≠ p from fun j h h2 => by
        by_cases e : j = k
        · subst e; exact hne
        · exact HH.out j h (by omega))
      generalize l[k] = q at *
      obtain ⟨a, t⟩ := q
      simp only at *
      by_cases he : a = p
      · have HE := Lib.hid (show R = some t by rw [← HR.out]; exact HF.out he)
        subst he
        go_wp2
        go_ret2
        rw [HE.out]
        exact ⟨rfl, rfl⟩
      · have HNN := Lib.hid (HN.out he)
        go_wp2
        go_round
        case rel => exact ⟨k + 1, by omega, by go_num, HNN.out⟩
        case measure => simp [intOf]; omega
    · have HE := Lib.hid (show R = none by
        rw [← HR.out]
        refine getT_none_iff.2 fun x hx => ?_
        obtain ⟨j, hj, rfl⟩ := List.getElem_of_mem hx
        exact HH.out j hj (by omega))
      go_wp2
      go_ret2
      rw [HE.out]
      exact ⟨rfl, rfl⟩
set_option maxHeartbeats 1000000 in
set_option maxRecDepth 100000 in
theorem ifolderOf_any (A : Option Addr) (c : Nat) (l : List Pc) (p : Int) (w : World) (hs : Sl w encP 2 A l) (hv : storeV l = true) (ht : TzL w) (hm : MaxL w) :
    Calls Tryd.prog 38 #[.slice A l.length c, .int .i64 p] w (RfRes (folderOf l p) w) := by
  have HS := Lib.hid hs
  have HT := Lib.hid ht
  have HM := Lib.hid hm
  have hl := storeV_len hv
  have hX := fun w h => itextOf_any A c l p w h (by omega) (storeV_sorted hv)
  have hsz : ∀ t, getT l p = some t → t.size ≤ 60 := fun t h => textV_size (getT_valid hv h).1
  clear hs ht hm
  unfold GtRes at hX
  unfold folderOf
  cases hg : getT l p with
  | none =>
    rw [hg] at hX
    have HX := Lib.hid hX
    clear hX hg hsz hv
    go_enter Tryd.func38, Tryd.ntmps38
    go_wp2_with fail
    refine (HX.out _ HS.out).mono ?_
    rintro e w1 ⟨rfl, hb⟩
    have HB := Lib.hid hb
    clear hb
    go_wp2
    go_ret2
    exact RfRes.no rfl HB.out
  | some t =>
    have hts := hsz t hg
    rw [hg] at hX
    have HX := Lib.hid hX
    have hRF := fun w h h2 => iReadFolder_any t w (by omega) h h2
    rw [Option.bind_some]
    unfold RfRes at *
    rw [show readF (tx t) = readF (bs t) from rfl]
    generalize readF (bs t) = R at *
    have HRF := Lib.hid hRF
    clear hX hg hsz hv hRF
    go_enter Tryd.func38, Tryd.ntmps38
    go_wp2_with fail
    refine (HX.out _ HS.out).mono ?_
    rintro e w1 ⟨rfl, hb⟩
    have HB := Lib.hid hb
    clear hb
    go_wp2_with fail
    refine (HRF.out _ (HT.out.below HB.out) (HM.out.below HB.out)).mono ?_
    rintro e w2 ⟨v, rfl, hown, hb⟩
    have HW := Lib.hid (hown.mono HB.out.size)
    have HB2 := Lib.hid (Below_then HB.out hb (Nat.le_refl _))
    clear hown hb
    go_wp2
    go_ret2
    exact ⟨_, rfl, HW.out, HB2.out⟩
end Go.Proofs.YtaghiefokmapmaaDoor

/- JoinPath of the reference, walked. -/
set_option linter.unusedVariables false
namespace Go.Proofs.YtaghiefokmapmaaDoor
open Go.RowKit
def accJ (l : List ByteArray) (k : Nat) : ByteArray := mk (joinB ((l.take k).map bs))
theorem joinB_snoc (a : List Bs) (p : Bs) : joinB (a ++ [p]) = joinB a ++ 47 :: p := by unfold joinB; simp
theorem accJ_zero (l : List ByteArray) : accJ l 0 = ⟨#[]⟩ := by simp [accJ, joinB, mk]
theorem accJ_succ {l : List ByteArray} {k : Nat} (h : k < l.length) : accJ l k ++ ⟨#[47]⟩ ++ l[k] = accJ l (k + 1) := by
  unfold accJ
  rw [← List.take_append_getElem h, List.map_append, List.map_singleton, joinB_snoc]
  have e : (⟨#[47]⟩ : ByteArray) = mk [47] := rfl
  rw [e, mk_append]
  conv => lhs; rhs; rw [← mk_bs l[k]]
  rw [mk_append, List.append_assoc]; rfl
theorem accJ_len {l : List ByteArray} {k : Nat} (hk : k ≤ l.length) : (accJ l k).size = 0 ↔ k = 0 := by
  unfold accJ
  rw [mk_size]
  cases k with
  | zero => simp [joinB]
  | succ k =>
    cases l with
    | nil => simp at hk
    | cons p r => simp [joinB]
theorem word_size {p : ByteArray} (h : wordV (bs p) = true) : p.size ≤ 8 := by
  unfold wordV at h
  rw [Bool.and_eq_true, Bool.and_eq_true, decide_eq_true_eq] at h
  have := h.1.1.2
  rw [size_bs] at this; exact this
theorem joinP_long {l : List ByteArray} (h : 3 < l.length) : joinP (l.map bs) = [] := by
  unfold joinP
  rw [if_neg]
  rw [partsV_iff]; simp; omega
theorem joinP_bad {l : List ByteArray} {k : Nat} (hk : k < l.length) (h : wordV (bs l[k]) = false) : joinP (l.map bs) = [] := by
  unfold joinP
  rw [if_neg]
  rw [partsV_iff]
  intro hh
  have := hh.2 (bs l[k]) (List.mem_map.2 ⟨_, List.getElem_mem hk, rfl⟩)
  rw [h] at this; cases this
theorem joinP_good {l : List ByteArray} (h3 : l.length ≤ 3) (h : ∀ j (hj : j < l.length), wordV (bs l[j]) = true) : partsV (l.map bs) = true := by
  rw [partsV_iff]
  refine ⟨by simpa using h3, fun p hp => ?_⟩
  obtain ⟨q, hq, rfl⟩ := List.mem_map.1 hp
  obtain ⟨i, hi, rfl⟩ := List.getElem_of_mem hq
  exact h i hi
theorem joinP_end {l : List ByteArray} (h3 : l.length ≤ 3) (h : ∀ j (hj : j < l.length), wordV (bs l[j]) = true) (hne : 0 < l.length) : mk (joinP (l.map bs)) = accJ l l.length := by
  unfold joinP accJ
  rw [joinP_good h3 h, if_pos rfl, if_neg, List.take_length]
  intro e; rw [List.map_eq_nil_iff] at e; subst e; simp at hne
set_option maxHeartbeats 2000000 in
set_option maxRecDepth 100000 in
theorem sJoinPath_any (A : Option Addr) (c : Nat) (l : List ByteArray) (w : World) (hs : Sl w encS 1 A l) (hl : l.length ≤ 16777216) (hf : ∀ p ∈ l, p.size ≤ 16777216) :
    Calls Tryd.prog 104 #[.slice A l.length c] w fun e w' => e = .returned (.string (mk (joinP (l.map bs)))) ∧ w = w' := by
  have HS := Lib.hid hs
  have HF := Lib.hid hf
  clear hs hf
  by_cases h3 : 3 < l.length
  · have E := Lib.hid (joinP_long h3)
    rw [E.out, mk_nil]
    have h3' : (3 : Int) < (l.length : Int) := by omega
    go_enter Tryd.func104, Tryd.ntmps104
    go_wp2
    go_loop [3, 4] (fun o i => ∃ k : Nat, k < l.length ∧ o = .string ⟨#[]⟩ ∧ i = .int .i64 k) (fun _ _ => 0)
    case atStart => exact ⟨0, by omega, rfl, rfl⟩
    case round =>
      obtain ⟨k, hk, rfl, rfl⟩ := hrel
      obtain ⟨b, o, rfl, hc⟩ := HS.out.getS hk
      have hz := HF.out _ (List.getElem_mem hk)
      generalize l[k] = p at *
      have hW := fun w => sWordValid_any p w hz
      cases hw : wordV (bs p)
      all_goals
        rw [hw] at hW
        have HW := Lib.hid hW
        clear hW hw
        go_wp2_with (go_at_call 59; refine (HW.out _).mono ?_; rintro e w' ⟨rfl, rfl⟩)
        go_ret
        exact ⟨rfl, rfl⟩
  · have h3b : ¬ (3 : Int) < (l.length : Int) := by omega
    have HB := Lib.hid (fun k (hk : k < l.length) h => @joinP_bad l k hk h)
    have HE := Lib.hid (@joinP_end l (by omega))
    generalize hJ : mk (joinP (l.map bs)) = J at *
    have HJ := Lib.hid hJ
    clear hJ
    go_enter Tryd.func104, Tryd.ntmps104
    go_wp2
    go_loop [3, 4] (fun o i => ∃ (k : Nat) (acc : ByteArray), k ≤ l.length ∧ i = .int .i64 k ∧ o = .string acc ∧ acc.size ≤ 9 * k ∧ Hid (acc = accJ l k) ∧ Hid (∀ j (h : j < l.length), j < k → wordV (bs l[j]) = true)) (fun _ i => l.length - (intOf i).toNat)
    case atStart => exact ⟨0, _, Nat.zero_le _, rfl, rfl, by simp [ByteArray.size], (accJ_zero l).symm, fun j h h2 => by omega⟩
    case round =>
      obtain ⟨k, acc, hk, rfl, rfl, hz, HA, HH⟩ := hrel
      by_cases hlt : k < l.length
      · have hst := accJ_succ hlt
        rw [← HA.out] at hst
        obtain ⟨b, o, rfl, hc⟩ := HS.out.getS hlt
        have hzp := HF.out _ (List.getElem_mem hlt)
        have HBk := Lib.hid (fun h => HB.out k hlt h)
        have HSTk := Lib.hid (fun (h : wordV (bs l[k]) = true) => show ∀ j (hj : j < l.length), j < k + 1 → wordV (bs l[j]) = true from fun j hj h2 => by
          by_cases e : j = k
          · subst e; exact h
          · exact HH.out j hj (by omega))
        generalize l[k] = p at *
        have hW := fun w => sWordValid_any p w hzp
        cases hw : wordV (bs p)
        · have HN := Lib.hid (show J = ⟨#[]⟩ by rw [← HJ.out, HBk.out hw]; rfl)
          rw [hw] at hW
          have HW := Lib.hid hW
          clear hW hw hst HSTk HBk
          go_wp2_with (go_at_call 59; refine (HW.out _).mono ?_; rintro e w' ⟨rfl, rfl⟩)
          go_ret
          rw [HN.out]
          exact ⟨rfl, rfl⟩
        · have HN := Lib.hid (HSTk.out hw)
          have hps := word_size hw
          rw [hw] at hW
          have HW := Lib.hid hW
          have HST := Lib.hid hst
          have hq1 : (acc ++ ⟨#[47]⟩).size ≤ 9 * k + 1 := by rw [ByteArray.size_append]; have : (⟨#[47]⟩ : ByteArray).size = 1 := rfl; omega
          have hq2 : (acc ++ ⟨#[47]⟩ ++ p).size ≤ 9 * (k + 1) := by rw [ByteArray.size_append]; omega
          clear hW hw hst HSTk HBk
          go_wp2_with (go_at_call 59; refine (HW.out _).mono ?_; rintro e w' ⟨rfl, rfl⟩)
          go_round
          case rel => exact ⟨k + 1, _, by omega, by go_num, rfl, hq2, HST.out, HN.out⟩
          case measure => simp [intOf]; omega
      · have e : k = l.length := by omega
        have hsz := (accJ_len (l := l) hk)
        rw [← HA.out] at hsz
        by_cases h0 : l.length = 0
        · have hnil : l = [] := List.length_eq_zero_iff.1 h0
          have hacc : acc = ⟨#[]⟩ := by rw [HA.out, e, h0, accJ_zero]
          subst hacc
          have HN := Lib.hid (show J = ⟨#[47]⟩ by rw [← HJ.out, hnil]; rfl)
          clear hsz e hnil
          go_wp2
          go_ret
          rw [HN.out]
          exact ⟨rfl, rfl⟩
        · obtain ⟨hne, hne2⟩ := ne_tl (s := acc) (by have := fun h => h0 (by have := hsz.1 h; omega); omega)
          have HN := Lib.hid (show J = acc by rw [HE.out (fun j hj => HH.out j hj (by omega)) (by omega), HA.out, e])
          clear hsz e
          go_wp2
          go_ret
          rw [HN.out]
          exact ⟨rfl, rfl⟩
end Go.Proofs.YtaghiefokmapmaaDoor
