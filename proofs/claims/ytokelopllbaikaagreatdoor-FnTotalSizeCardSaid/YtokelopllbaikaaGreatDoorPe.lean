/- PutEntry of the reference, walked. Written by gen_pe.py. -/
import Derived.Test.YtokelopllbaikaaGreatDoorGb8
import Derived.Test.YtokelopllbaikaaGreatDoorGa9
set_option linter.unusedVariables false
namespace Go.Proofs.YtokelopllbaikaaGreatDoor
open Go.RowKit
theorem insE_here {l : List En} {e : En} {k : Nat} (hk : k < l.length) (hp : posE l (tx e.1) = k) (h : tx l[k].1 = tx e.1) : insE l e = l.take k ++ e :: l.drop (k + 1) := by
  have hh : hereE l (tx e.1) = true := hereE_iff.2 (by subst hp; exact ⟨hk, h⟩)
  unfold insE; rw [hh, if_pos rfl, hp]
theorem insE_not {l : List En} {e : En} {k : Nat} (hp : posE l (tx e.1) = k) (h : ∀ hk : k < l.length, tx l[k].1 ≠ tx e.1) : insE l e = l.take k ++ e :: l.drop k := by
  have hh : hereE l (tx e.1) = false := by
    cases hq : hereE l (tx e.1)
    · rfl
    · obtain ⟨h1, h2⟩ := hereE_iff.1 hq
      subst hp
      exact absurd h2 (h h1)
  unfold insE; rw [hh, hp]; rfl
/-- What is known of the region's slots, as far as they are set. -/
structure PeJ (w1 : World) (A : Option Addr) (n c k : Nat) (l : List En) (y : En) (AM : Option Addr) (cm : Nat) (M : List En) (d : Nat → Bool) (u50 u51 u52 u53 u54 u55 u56 u57 u58 u59 u8 : Value) (W : World) : Prop where
  b : Below w1.heap.size w1 W
  o4 : d 4 = true → d 0 = true ∧ d 3 = true
  o7 : d 7 = true → d 4 = true ∧ d 6 = true
  o9 : d 9 = true → d 7 = true ∧ d 8 = true
  o10 : d 10 = true → d 9 = true
  c0 : d 0 = true → d 4 = false → Own W w1.heap.size 70 2 encE u50 []
  c1 : d 1 = true → u51 = .slice A n c
  c2 : d 2 = true → u52 = .int .i64 (k : Int)
  c3 : d 3 = true → ∃ A' c', u53 = .slice A' (l.take k).length c' ∧ (A' = none → c' = 0) ∧ Sl w1 encE 2 A' (l.take k)
  c4 : d 4 = true → d 7 = false → Own W w1.heap.size 70 2 encE u54 (l.take k)
  c5 : d 5 = true → u55 = .agg #[.string y.1, .int .i64 y.2]
  c6 : d 6 = true → d 7 = false → ∃ g, u56 = .slice (some ⟨g, 0, none⟩) 1 1 ∧ g < W.heap.size ∧ Sl W encE 2 (some ⟨g, 0, none⟩) [y] ∧ (d 0 = true → d 4 = false → u50.ownBlock ≠ some g) ∧ (d 4 = true → u54.ownBlock ≠ some g)
  c7 : d 7 = true → d 9 = false → Own W w1.heap.size 70 2 encE u57 (l.take k ++ [y])
  c8 : d 8 = true → u58 = .slice AM M.length cm
  c9 : d 9 = true → Own W w1.heap.size 70 2 encE u59 (l.take k ++ [y] ++ M)
  c10 : d 10 = true → u8 = u59
section
variable {w1 : World} {A AM : Option Addr} {n c k cm : Nat} {l M : List En} {y : En} {d : Nat → Bool} {u50 u51 u52 u53 u54 u55 u56 u57 u58 u59 u8 : Value} {W W' : World} {v' : Value}
theorem PeJ.n4 (h : PeJ w1 A n c k l y AM cm M d u50 u51 u52 u53 u54 u55 u56 u57 u58 u59 u8 W) (h0 : d 0 = false) : d 4 = false ∧ d 7 = false ∧ d 9 = false ∧ d 10 = false := by
  have h4 : d 4 = false := by
    cases e : d 4
    · rfl
    · rw [(h.o4 e).1] at h0; cases h0
  have h7 : d 7 = false := by
    cases e : d 7
    · rfl
    · rw [(h.o7 e).1] at h4; cases h4
  have h9 : d 9 = false := by
    cases e : d 9
    · rfl
    · rw [(h.o9 e).1] at h7; cases h7
  have h10 : d 10 = false := by
    cases e : d 10
    · rfl
    · rw [h.o10 e] at h9; cases h9
  exact ⟨h4, h7, h9, h10⟩
theorem PeJ.n7 (h : PeJ w1 A n c k l y AM cm M d u50 u51 u52 u53 u54 u55 u56 u57 u58 u59 u8 W) (h0 : d 4 = false ∨ d 6 = false) : d 7 = false ∧ d 9 = false ∧ d 10 = false := by
  have h7 : d 7 = false := by
    cases e : d 7
    · rfl
    · obtain ⟨e1, e2⟩ := h.o7 e
      rcases h0 with h0 | h0
      · rw [e1] at h0; cases h0
      · rw [e2] at h0; cases h0
  have h9 : d 9 = false := by
    cases e : d 9
    · rfl
    · rw [(h.o9 e).1] at h7; cases h7
  have h10 : d 10 = false := by
    cases e : d 10
    · rfl
    · rw [h.o10 e] at h9; cases h9
  exact ⟨h7, h9, h10⟩
theorem PeJ.n9 (h : PeJ w1 A n c k l y AM cm M d u50 u51 u52 u53 u54 u55 u56 u57 u58 u59 u8 W) (h7 : d 7 = false) : d 9 = false ∧ d 10 = false := by
  have h9 : d 9 = false := by
    cases e : d 9
    · rfl
    · rw [(h.o9 e).1] at h7; cases h7
  have h10 : d 10 = false := by
    cases e : d 10
    · rfl
    · rw [h.o10 e] at h9; cases h9
  exact ⟨h9, h10⟩
theorem PeJ.step0 (h : PeJ w1 A n c k l y AM cm M d u50 u51 u52 u53 u54 u55 u56 u57 u58 u59 u8 W) (h0 : d 0 = false) : PeJ w1 A n c k l y AM cm M (fun j => j == 0 || d j) (.slice (some ⟨W.heap.size, 0, none⟩) 0 0) u51 u52 u53 u54 u55 u56 u57 u58 u59 u8 (W.alloc madeEn) := by
  obtain ⟨h4, h7, h9, h10⟩ := h.n4 h0
  exact { h with
    b := h.b.alloc h.b.size _
    o4 := fun e => by rw [show (4 == 0 || d 4) = d 4 from rfl, h4] at e; cases e
    c0 := fun _ _ => Own.made h.b.size
    c4 := fun e => by rw [show (4 == 0 || d 4) = d 4 from rfl, h4] at e; cases e
    c6 := fun e1 e2 => by
      obtain ⟨g, e, hg, hs, _, hq⟩ := h.c6 e1 e2
      exact ⟨g, e, by simp; omega, hs.alloc _, fun _ _ e => (by have e2 : W.heap.size = g := (by simpa [Value.ownBlock] using e); omega), hq⟩
    c7 := fun e => by rw [show (7 == 0 || d 7) = d 7 from rfl, h7] at e; cases e
    c9 := fun e => by rw [show (9 == 0 || d 9) = d 9 from rfl, h9] at e; cases e }
theorem PeJ.step4 (h : PeJ w1 A n c k l y AM cm M d u50 u51 u52 u53 u54 u55 u56 u57 u58 u59 u8 W) (h0 : d 0 = true) (h3 : d 3 = true) (h4 : d 4 = false) (hown : Own W' w1.heap.size 70 2 encE v' ([] ++ l.take k)) (hb : Below w1.heap.size w1 W') (hg : Grew u50 W W') (hk : Kin u50 W v') :
    PeJ w1 A n c k l y AM cm M (fun j => j == 4 || d j) u50 u51 u52 u53 v' u55 u56 u57 u58 u59 u8 W' := by
  obtain ⟨h7, h9, h10⟩ := h.n7 (.inl h4)
  exact { h with
    b := hb
    o4 := fun _ => ⟨h0, h3⟩
    o7 := fun e => by rw [show (7 == 4 || d 7) = d 7 from rfl, h7] at e; cases e
    c0 := fun _ e => by cases e
    c4 := fun _ _ => by rw [List.nil_append] at hown; exact hown
    c6 := fun e1 e2 => by
      obtain ⟨g, e, hgl, hs, hp, _⟩ := h.c6 e1 e2
      have hne := hp h0 h4
      exact ⟨g, e, Nat.lt_of_lt_of_le hgl hg.size, hs.grew hg (fun b o e => by injection e with e; injection e with e; subst e; exact hne), (fun _ e => by cases e), (fun _ => hk g hgl hne)⟩
    c7 := fun e => by rw [show (7 == 4 || d 7) = d 7 from rfl, h7] at e; cases e
    c9 := fun e => by rw [show (9 == 4 || d 9) = d 9 from rfl, h9] at e; cases e }
theorem PeJ.step6 (h : PeJ w1 A n c k l y AM cm M d u50 u51 u52 u53 u54 u55 u56 u57 u58 u59 u8 W) (h6 : d 6 = false) : PeJ w1 A n c k l y AM cm M (fun j => j == 6 || d j) u50 u51 u52 u53 u54 u55 (.slice (some ⟨W.heap.size, 0, none⟩) 1 1) u57 u58 u59 u8 (W.alloc (rowEn y)) := by
  obtain ⟨h7, h9, h10⟩ := h.n7 (.inr h6)
  exact { h with
    b := h.b.alloc h.b.size _
    o7 := fun e => by rw [show (7 == 6 || d 7) = d 7 from rfl, h7] at e; cases e
    c0 := fun e1 e2 => (h.c0 e1 e2).alloc _
    c4 := fun e1 e2 => (h.c4 e1 e2).alloc _
    c6 := fun _ _ => ⟨W.heap.size, rfl, by simp, slEn_new W y, (fun e1 e2 e => by have := ((h.c0 e1 e2).blk _ e).2; omega), (fun e1 e => by have := ((h.c4 e1 h7).blk _ e).2; omega)⟩
    c7 := fun e => by rw [show (7 == 6 || d 7) = d 7 from rfl, h7] at e; cases e
    c9 := fun e => by rw [show (9 == 6 || d 9) = d 9 from rfl, h9] at e; cases e }
theorem PeJ.step7 (h : PeJ w1 A n c k l y AM cm M d u50 u51 u52 u53 u54 u55 u56 u57 u58 u59 u8 W) (h4 : d 4 = true) (h6 : d 6 = true) (h7 : d 7 = false) (hown : Own W' w1.heap.size 70 2 encE v' (l.take k ++ [y])) (hb : Below w1.heap.size w1 W') :
    PeJ w1 A n c k l y AM cm M (fun j => j == 7 || d j) u50 u51 u52 u53 u54 u55 u56 v' u58 u59 u8 W' := by
  obtain ⟨h9, h10⟩ := h.n9 h7
  exact { h with
    b := hb
    o7 := fun _ => ⟨h4, h6⟩
    o9 := fun e => by rw [show (9 == 7 || d 9) = d 9 from rfl, h9] at e; cases e
    c0 := fun _ e => by rw [show (4 == 7 || d 4) = d 4 from rfl, h4] at e; cases e
    c4 := fun _ e => by cases e
    c6 := fun _ e => by cases e
    c7 := fun _ _ => hown
    c9 := fun e => by rw [show (9 == 7 || d 9) = d 9 from rfl, h9] at e; cases e }
theorem PeJ.step9 (h : PeJ w1 A n c k l y AM cm M d u50 u51 u52 u53 u54 u55 u56 u57 u58 u59 u8 W) (h7 : d 7 = true) (h8 : d 8 = true) (h9 : d 9 = false) (hown : Own W' w1.heap.size 70 2 encE v' (l.take k ++ [y] ++ M)) (hb : Below w1.heap.size w1 W') :
    PeJ w1 A n c k l y AM cm M (fun j => j == 9 || d j) u50 u51 u52 u53 u54 u55 u56 u57 u58 v' u8 W' := by
  have h4 := (h.o7 h7).1
  have h10 : d 10 = false := by
    cases e : d 10
    · rfl
    · rw [h.o10 e] at h9; cases h9
  exact { h with
    b := hb
    o10 := fun e => by rw [show (10 == 9 || d 10) = d 10 from rfl, h10] at e; cases e
    c10 := fun e => by rw [show (10 == 9 || d 10) = d 10 from rfl, h10] at e; cases e
    o9 := fun _ => ⟨h7, h8⟩
    c0 := fun _ e => by rw [show (4 == 9 || d 4) = d 4 from rfl, h4] at e; cases e
    c4 := fun _ e => by rw [show (7 == 9 || d 7) = d 7 from rfl, h7] at e; cases e
    c6 := fun _ e => by rw [show (7 == 9 || d 7) = d 7 from rfl, h7] at e; cases e
    c7 := fun _ e => by cases e
    c9 := fun _ => hown }
end
set_option maxHeartbeats 8000000 in
set_option maxRecDepth 100000 in
theorem sPutEntry_any (A : Option Addr) (c : Nat) (l : List En) (e0 : En) (w : World) (hs : Sl w encE 2 A l) (hcz : A = none → c = 0) (hA : A = none ∨ ∃ b o, A = some ⟨b, o, none⟩) (hle : l.length ≤ c) (hv : entsV l = true) (he : e0.1.size ≤ 16777216) :
    Calls Tryz.prog 139 #[.slice A l.length c, .agg #[.string e0.1, .int .i64 e0.2]] w (EnRes (putE l e0) w) := by
  have HS := Lib.hid hs
  have HCZ := Lib.hid hcz
  have hl3 := entsV_len hv
  have hEV := fun w h => sEntriesValid_any A c l w h (by omega) (fitE_valid hv)
  rw [hv] at hEV
  have HEV := Lib.hid hEV
  have hil := insE_len l e0
  have HEI := Lib.hid (fun A c w h => sEntriesValid_any A c (insE l e0) w h (by omega) (fitE_ins hv he))
  have HPY := Lib.hid (show entsV (insE l e0) = true → putE l e0 = (insE l e0, true) from fun h => by unfold putE; rw [hv, if_pos rfl, h, if_pos rfl])
  have HPN := Lib.hid (show entsV (insE l e0) = false → putE l e0 = (l, false) from fun h => by unfold putE; rw [hv, if_pos rfl, h]; rfl)
  have HIH := Lib.hid (fun k hk h1 h2 => @insE_here l e0 k hk h1 h2)
  have HIN := Lib.hid (fun k h1 h2 => @insE_not l e0 k h1 h2)
  have HPO := Lib.hid (fun i => posE_of l (tx e0.1) i)
  obtain ⟨t, a9⟩ := e0
  simp only at *
  have HBOX := Lib.hid (BoxE.new w (t, a9))
  have HB := Lib.hid ((Below.refl w.heap.size w).alloc (Nat.le_refl _) (rowEn (t, a9)))
  clear hEV hs hcz
  generalize putE l (t, a9) = R at *
  unfold EnRes
  go_enter Tryz.func139, Tryz.ntmps139
  go_wp2_with fail
  refine (HEV.out _ (HS.out.alloc _)).mono ?_
  rintro e w1 ⟨rfl, hb⟩
  replace HB := Lib.hid (HB.out.trans (hb.mono (by simp)))
  replace HBOX := Lib.hid (HBOX.out.below hb)
  clear hb
  go_wp2_with fail
  go_loopw [6] (fun i wr => ∃ (k : Nat), k ≤ l.length ∧ i = .int .i64 k ∧ Hid (∀ j (h : j < l.length), j < k → lessB (tx l[j].1) (tx t) = true) ∧ Hid (Below w1.heap.size w1 wr)) (fun i _ => l.length - (intOf i).toNat)
  case atStart => exact ⟨0, Nat.zero_le _, rfl, fun j h h2 => by omega, Below.refl _ _⟩
  case round =>
    obtain ⟨k, hk, rfl, HJ, HBJ⟩ := hrel
    have HBW := Lib.hid (Below_then HB.out HBJ.out (Nat.le_refl _))
    replace HBOX := Lib.hid (HBOX.out.below HBJ.out)
    have hx0 := far_cell HBOX.out.1
    have hx1 := far_cell HBOX.out.2
    by_cases hlt : k < l.length
    · have hlt' : (k : Int) < (l.length : Int) := by omega
      obtain ⟨b, o, rfl, hc0, hc1⟩ := (HS.out.below HBW.out).getE hlt
      have z0 := far_cell hc0
      have z1 := far_cell hc1
      have HNX := Lib.hid (fun (hx : lessB (tx l[k].1) (tx t) = true) (j : Nat) (h : j < l.length) (hj : j < k + 1) => show lessB (tx l[j].1) (tx t) = true by
        by_cases e : j = k
        · subst e; exact hx
        · exact HJ.out j h (by omega))
      have HPE := Lib.hid (fun (hx : lessB (tx l[k].1) (tx t) = false) => HPO.out k hk HJ.out (fun _ => hx))
      have HH1 := Lib.hid (fun hp h => HIH.out k hlt hp h)
      have HH2 := Lib.hid (fun hp (h : tx l[k].1 ≠ tx t) => HIN.out k hp (fun _ => h))
      generalize l[k] = y at *
      obtain ⟨n, p⟩ := y
      simp only at *
      cases hx : lessB (tx n) (tx t)
      · have HP := Lib.hid (HPE.out hx)
        have hx' := less_t hx
        clear hx
        by_cases hq : tx n = tx t
        · have heq : (n.toList == t.toList) = true := by rw [eq_tlx]; exact beq_iff_eq.2 hq
          have HINS := Lib.hid (HH1.out HP.out hq)
          clear hq HNX HPE HH1 HH2 HP
          go_wp2
          refine wp_region_far (by kernel_rfl) (by kernel_rfl) ?_
          repeat (go_big_quiet_step (fail))
          refine wpQuiet_nil ?_
          intro _ hwF
          obtain ⟨pF, hwF⟩ := hwF
          subst hwF
          replace HBW := Lib.hid (Below_then HBW.out (far_below _ pF) (Nat.le_refl _))
          replace HBOX := Lib.hid (HBOX.out.below (far_below _ pF))
          have hy0 := far_cell HBOX.out.1
          have hy1 := far_cell HBOX.out.2
          have y0 := far_cell (z0 pF)
          have y1 := far_cell (z1 pF)
          clear hx0 hx1 z0 z1 hc0 hc1
          generalize far _ pF = w2 at *
          have hrk : ¬ (c = k) := by omega
          go_wp2
          refine wp_region_far (by kernel_rfl) (by kernel_rfl) ?_
          repeat (go_big_quiet_step (fail))
          refine wpQuiet_nil ?_
          intro _ hwF
          obtain ⟨pF, hwF⟩ := hwF
          subst hwF
          replace HBW := Lib.hid (Below_then HBW.out (far_below _ pF) (Nat.le_refl _))
          replace HBOX := Lib.hid (HBOX.out.below (far_below _ pF))
          clear hy0 hy1 y0 y1
          generalize far _ pF = w3 at *
          have HSW := Lib.hid (HS.out.below HBW.out)
          by_cases hroom : c = k + 1
          · go_wp2
            have hdl : ((l.drop (k + 1))).length = 0 := by rw [List.length_drop]; omega
            have HMW := Lib.hid (show Sl w3 encE 2 (some ⟨b, o, none⟩) (l.drop (k + 1)) from fun h => by omega)
            have HMN := Lib.hid (show (l.drop (k + 1)).length = l.length - (k + 1) by rw [List.length_drop])
            have HCZM := Lib.hid (show ((some ⟨b, o, none⟩) : Option Addr) = none → 0 = 0 from fun h => by cases h)
            have htl : (l.take k).length = k := by rw [List.length_take]; omega
            have HTW := Lib.hid (show Sl w3 encE 2 (some ⟨b, o, none⟩) (l.take k) from HSW.out.takeE)
            have hkl : k ≤ l.length := by omega
            have HIX := Lib.hid (show l.take k ++ [(t, a9)] ++ (l.drop (k + 1)) = insE l (t, a9) by rw [HINS.out]; simp)
            have hkcap : k ≤ c := by omega
            have hml : ((l.drop (k + 1))).length ≤ 3 := by rw [HMN.out]; omega
            have HBOXW := HBOX
            have HROOM := Lib.hid hroom
            clear hroom
            refine wp_region_inv (by kernel_rfl) (by kernel_rfl) (fun a0 d a W => ∃ u50 u51 u52 u53 u54 u55 u56 u57 u58 u59 u8 : Value, a = ⟨#[Value.slice (some { block := b, off := o }) l.length c, Value.agg #[Value.string t, Value.int IntKind.i64 a9], undef, Value.pointer (some { block := w.heap.size, off := 0 }), Value.slice none 0 0, Value.bool false, Value.int IntKind.i64 (k : Int), Value.slice (some { block := b, off := o }) (l.length - (k + 1)) 0, u8, Value.slice (some { block := b, off := o }) l.length c, Value.bool true, Value.bool false, undef, Value.int IntKind.i64 (k : Int), Value.slice (some { block := b, off := o }) l.length c, Value.int IntKind.i64 (l.length : Int), Value.bool true, Value.bool true, Value.slice (some { block := b, off := o }) l.length c, Value.int IntKind.i64 (k : Int), Value.pointer (some { block := b, off := o + k * 2 }), Value.pointer (some { block := b, off := o + k * 2 }), Value.string n, Value.pointer (some { block := w.heap.size, off := 0 }), Value.string t, Value.bool false, Value.bool false, u27, u28, Value.slice (some { block := b, off := o }) l.length c, Value.int IntKind.i64 (k : Int), Value.slice (some { block := b, off := o + k * 2 }) (l.length - k) (c - k), Value.int IntKind.i64 (k : Int), Value.slice (some { block := b, off := o }) l.length c, Value.int IntKind.i64 (l.length : Int), Value.bool true, Value.bool true, Value.slice (some { block := b, off := o }) l.length c, Value.int IntKind.i64 (k : Int), Value.pointer (some { block := b, off := o + k * 2 }), Value.pointer (some { block := b, off := o + k * 2 }), Value.string n, Value.pointer (some { block := w.heap.size, off := 0 }), Value.string t, Value.bool true, Value.bool true, Value.slice (some { block := b, off := o }) l.length c, Value.int IntKind.i64 (k : Int), Value.int IntKind.i64 ((k : Int) + 1), Value.slice (some { block := b, off := o }) (l.length - (k + 1)) 0, u50, u51, u52, u53, u54, u55, u56, u57, u58, u59, undef, undef, undef, undef, undef, undef, undef], []⟩ ∧ PeJ w3 (some ⟨b, o, none⟩) l.length c (k) l (t, a9) (some ⟨b, o, none⟩) 0 (l.drop (k + 1)) d u50 u51 u52 u53 u54 u55 u56 u57 u58 u59 u8 W) ?_ ?_ ?_
            · exact ⟨_, _, _, _, _, _, _, _, _, _, _, rfl, Below_drewN (Below.refl _ _) 1, nofun, nofun, nofun, nofun, nofun, nofun, nofun, nofun, nofun, nofun, nofun, nofun, nofun, nofun, nofun⟩
            · refine ⟨?_, ?_, ?_, ?_, ?_, ?_, ?_, ?_, ?_, ?_, ?_, trivial⟩
              all_goals
                intro d a W K hd hdep hJ hK
                obtain ⟨u50, u51, u52, u53, u54, u55, u56, u57, u58, u59, u8, rfl, hj⟩ := hJ
                have HJ := Lib.hid hj
                have HK := Lib.hid hK
                have HD := Lib.hid hd
                have HDEP := Lib.hid hdep
                clear hj hK hd hdep
              · go_simp
                exact HK.out _ _ ⟨_, _, _, _, _, _, _, _, _, _, _, rfl, HJ.out.step0 HD.out⟩
              · go_simp
                exact HK.out _ _ ⟨_, _, _, _, _, _, _, _, _, _, _, rfl, { HJ.out with c1 := fun _ => rfl }⟩
              · go_simp
                exact HK.out _ _ ⟨_, _, _, _, _, _, _, _, _, _, _, rfl, { HJ.out with c2 := fun _ => rfl }⟩
              · obtain rfl := HJ.out.c1 (HDEP.out { on := 1, ground := Ground.data } (by simp) rfl)
                obtain rfl := HJ.out.c2 (HDEP.out { on := 2, ground := Ground.data } (by simp) rfl)
                go_simp
                exact HK.out _ _ ⟨_, _, _, _, _, _, _, _, _, _, _, rfl, { HJ.out with o4 := fun e => ⟨(HJ.out.o4 e).1, rfl⟩, c3 := fun _ => ⟨(some ⟨b, o, none⟩), c, (by rw [htl]), (by intro h; cases h), HTW.out⟩ }⟩
              · obtain ⟨A', c', rfl, hz, hsl⟩ := HJ.out.c3 (HDEP.out { on := 3, ground := Ground.data } (by simp) rfl)
                refine step_enK (w0 := w3) (by rfl) rfl (HJ.out.c0 (HDEP.out { on := 0, ground := Ground.data } (by simp) rfl) HD.out) HJ.out.b (by first | omega | (simp; done) | (simp; omega)) (hsl.below HJ.out.b) hz rfl rfl rfl ?_
                intro v' W' hown hb hg hk
                exact HK.out _ _ ⟨_, _, _, _, _, _, _, _, _, _, _, rfl, HJ.out.step4 (HDEP.out { on := 0, ground := Ground.data } (by simp) rfl) (HDEP.out { on := 3, ground := Ground.data } (by simp) rfl) HD.out hown hb hg hk⟩
              · have hb5 := HBOXW.out.below HJ.out.b
                have hb50 := hb5.1
                have hb51 := hb5.2
                clear hb5
                go_simp
                exact HK.out _ _ ⟨_, _, _, _, _, _, _, _, _, _, _, rfl, { HJ.out with c5 := fun _ => rfl }⟩
              · obtain rfl := HJ.out.c5 (HDEP.out { on := 5, ground := Ground.data } (by simp) rfl)
                go_simp
                exact HK.out _ _ ⟨_, _, _, _, _, _, _, _, _, _, _, rfl, HJ.out.step6 HD.out⟩
              · obtain ⟨g, rfl, hgl, hsl, _, hap⟩ := HJ.out.c6 (HDEP.out { on := 6, ground := Ground.data } (by simp) rfl) HD.out
                have hap := hap (HDEP.out { on := 4, ground := Ground.data } (by simp) rfl)
                refine step_enK (w0 := w3) (m := [(t, a9)]) (by rfl) rfl (HJ.out.c4 (HDEP.out { on := 4, ground := Ground.data } (by simp) rfl) HD.out) HJ.out.b (by first | omega | (simp; done) | (simp; omega)) hsl (by intro h; cases h) rfl rfl rfl ?_
                intro v' W' hown hb hg hk
                exact HK.out _ _ ⟨_, _, _, _, _, _, _, _, _, _, _, rfl, HJ.out.step7 (HDEP.out { on := 4, ground := Ground.data } (by simp) rfl) (HDEP.out { on := 6, ground := Ground.data } (by simp) rfl) HD.out hown hb⟩
              · go_simp
                exact HK.out _ _ ⟨_, _, _, _, _, _, _, _, _, _, _, rfl, { HJ.out with o9 := fun e => ⟨(HJ.out.o9 e).1, rfl⟩, c8 := fun _ => by rw [HMN.out] }⟩
              · obtain rfl := HJ.out.c8 (HDEP.out { on := 8, ground := Ground.data } (by simp) rfl)
                refine step_enK (w0 := w3) (by rfl) rfl (HJ.out.c7 (HDEP.out { on := 7, ground := Ground.data } (by simp) rfl) HD.out) HJ.out.b (by first | omega | (simp; done) | (simp; omega)) (HMW.out.below HJ.out.b) HCZM.out rfl rfl rfl ?_
                intro v' W' hown hb hg hk
                exact HK.out _ _ ⟨_, _, _, _, _, _, _, _, _, _, _, rfl, HJ.out.step9 (HDEP.out { on := 7, ground := Ground.data } (by simp) rfl) (HDEP.out { on := 8, ground := Ground.data } (by simp) rfl) HD.out hown hb⟩
              · go_simp
                exact HK.out _ _ ⟨_, _, _, _, _, _, _, _, _, _, _, rfl, { HJ.out with o10 := fun _ => (HDEP.out { on := 9, ground := Ground.data } (by simp) rfl), c10 := fun _ => rfl }⟩
            · intro d a W hd hJ
              obtain ⟨u50, u51, u52, u53, u54, u55, u56, u57, u58, u59, u8, rfl, hj⟩ := hJ
              obtain rfl := hj.c10 (hd 10 (by decide))
              have ho9 := hj.c9 (hd 9 (by decide))
              have hb9 := hj.b
              clear hj hd
              try simp only at ho9
              rw [HIX.out] at ho9
              have HB9 := Lib.hid (Below_then HBW.out hb9 (Nat.le_refl _))
              have HW9 := Lib.hid (ho9.mono HBW.out.size)
              clear ho9 hb9 HIX
              obtain ⟨X9, d9, rfl, hle9, hs9, _⟩ := HW9.out.sl
              have HS9 := Lib.hid hs9
              clear hs9
              cases hvi : entsV (insE l (t, a9))
              · have hp := HPN.out hvi
                have hEI := fun w h => HEI.out X9 d9 w h
                rw [hvi] at hEI
                have HEX := Lib.hid hEI
                have HR := Lib.hid hp
                clear hvi hp hEI
                go_wp2_with fail
                refine (HEX.out _ HS9.out).mono ?_
                rintro e w10 ⟨rfl, hb⟩
                replace HB9 := Lib.hid (Below_then HB9.out hb (Nat.le_refl _))
                have HSL := Lib.hid (HS.out.below HB9.out)
                clear hb
                go_wp2_with (at_builtin; refine app_enN (w0 := w10) (l := []) rfl rfl (Own.made (Nat.le_refl _)) ((Below.refl _ _).alloc (Nat.le_refl _) _) (by first | omega | (simp; done) | (simp; omega)) (HSL.out.alloc _) HCZ.out (by rfl) (by rfl) ?_; intro v5 w5 hown5 hb5 hg5; rw [List.nil_append] at hown5; have HW5 := Lib.hid hown5; have HB5 := Lib.hid hb5; clear hown5 hb5 hg5)
                go_ret2
                rw [HR.out]
                exact ⟨_, rfl, HW5.out.mono HB9.out.size, Below_then HB9.out HB5.out (Nat.le_refl _)⟩
              · have hp := HPY.out hvi
                have hEI := fun w h => HEI.out X9 d9 w h
                rw [hvi] at hEI
                have HEX := Lib.hid hEI
                have HR := Lib.hid hp
                clear hvi hp hEI
                go_wp2_with fail
                refine (HEX.out _ HS9.out).mono ?_
                rintro e w10 ⟨rfl, hb⟩
                replace HB9 := Lib.hid (Below_then HB9.out hb (Nat.le_refl _))
                replace HW9 := Lib.hid (HW9.out.below hb)
                clear hb
                go_wp2
                go_ret2
                rw [HR.out]
                exact ⟨_, rfl, HW9.out, HB9.out⟩
          · go_wp2
            have HMW := Lib.hid (HSW.out.dropE (n := (k + 1)) (by omega))
            have HMN := Lib.hid (show (l.drop (k + 1)).length = l.length - (k + 1) by rw [List.length_drop])
            have HCZM := Lib.hid (show ((some ⟨b, o + (k + 1) * 2, none⟩) : Option Addr) = none → (c - (k + 1)) = 0 from fun h => by cases h)
            have htl : (l.take k).length = k := by rw [List.length_take]; omega
            have HTW := Lib.hid (show Sl w3 encE 2 (some ⟨b, o, none⟩) (l.take k) from HSW.out.takeE)
            have hkl : k ≤ l.length := by omega
            have HIX := Lib.hid (show l.take k ++ [(t, a9)] ++ (l.drop (k + 1)) = insE l (t, a9) by rw [HINS.out]; simp)
            have hkcap : k ≤ c := by omega
            have hml : ((l.drop (k + 1))).length ≤ 3 := by rw [HMN.out]; omega
            have HBOXW := HBOX
            refine wp_region_inv (by kernel_rfl) (by kernel_rfl) (fun a0 d a W => ∃ u50 u51 u52 u53 u54 u55 u56 u57 u58 u59 u8 : Value, a = ⟨#[Value.slice (some { block := b, off := o }) l.length c, Value.agg #[Value.string t, Value.int IntKind.i64 a9], undef, Value.pointer (some { block := w.heap.size, off := 0 }), Value.slice none 0 0, Value.bool false, Value.int IntKind.i64 (k : Int), Value.slice (some { block := b, off := o + (k + 1) * 2 }) (l.length - (k + 1)) (c - (k + 1)), u8, Value.slice (some { block := b, off := o }) l.length c, Value.bool true, Value.bool false, undef, Value.int IntKind.i64 (k : Int), Value.slice (some { block := b, off := o }) l.length c, Value.int IntKind.i64 (l.length : Int), Value.bool true, Value.bool true, Value.slice (some { block := b, off := o }) l.length c, Value.int IntKind.i64 (k : Int), Value.pointer (some { block := b, off := o + k * 2 }), Value.pointer (some { block := b, off := o + k * 2 }), Value.string n, Value.pointer (some { block := w.heap.size, off := 0 }), Value.string t, Value.bool false, Value.bool false, u27, u28, Value.slice (some { block := b, off := o }) l.length c, Value.int IntKind.i64 (k : Int), Value.slice (some { block := b, off := o + k * 2 }) (l.length - k) (c - k), Value.int IntKind.i64 (k : Int), Value.slice (some { block := b, off := o }) l.length c, Value.int IntKind.i64 (l.length : Int), Value.bool true, Value.bool true, Value.slice (some { block := b, off := o }) l.length c, Value.int IntKind.i64 (k : Int), Value.pointer (some { block := b, off := o + k * 2 }), Value.pointer (some { block := b, off := o + k * 2 }), Value.string n, Value.pointer (some { block := w.heap.size, off := 0 }), Value.string t, Value.bool true, Value.bool true, Value.slice (some { block := b, off := o }) l.length c, Value.int IntKind.i64 (k : Int), Value.int IntKind.i64 ((k : Int) + 1), Value.slice (some { block := b, off := o + (k + 1) * 2 }) (l.length - (k + 1)) (c - (k + 1)), u50, u51, u52, u53, u54, u55, u56, u57, u58, u59, undef, undef, undef, undef, undef, undef, undef], []⟩ ∧ PeJ w3 (some ⟨b, o, none⟩) l.length c (k) l (t, a9) (some ⟨b, o + (k + 1) * 2, none⟩) (c - (k + 1)) (l.drop (k + 1)) d u50 u51 u52 u53 u54 u55 u56 u57 u58 u59 u8 W) ?_ ?_ ?_
            · exact ⟨_, _, _, _, _, _, _, _, _, _, _, rfl, Below_drewN (Below.refl _ _) 1, nofun, nofun, nofun, nofun, nofun, nofun, nofun, nofun, nofun, nofun, nofun, nofun, nofun, nofun, nofun⟩
            · refine ⟨?_, ?_, ?_, ?_, ?_, ?_, ?_, ?_, ?_, ?_, ?_, trivial⟩
              all_goals
                intro d a W K hd hdep hJ hK
                obtain ⟨u50, u51, u52, u53, u54, u55, u56, u57, u58, u59, u8, rfl, hj⟩ := hJ
                have HJ := Lib.hid hj
                have HK := Lib.hid hK
                have HD := Lib.hid hd
                have HDEP := Lib.hid hdep
                clear hj hK hd hdep
              · go_simp
                exact HK.out _ _ ⟨_, _, _, _, _, _, _, _, _, _, _, rfl, HJ.out.step0 HD.out⟩
              · go_simp
                exact HK.out _ _ ⟨_, _, _, _, _, _, _, _, _, _, _, rfl, { HJ.out with c1 := fun _ => rfl }⟩
              · go_simp
                exact HK.out _ _ ⟨_, _, _, _, _, _, _, _, _, _, _, rfl, { HJ.out with c2 := fun _ => rfl }⟩
              · obtain rfl := HJ.out.c1 (HDEP.out { on := 1, ground := Ground.data } (by simp) rfl)
                obtain rfl := HJ.out.c2 (HDEP.out { on := 2, ground := Ground.data } (by simp) rfl)
                go_simp
                exact HK.out _ _ ⟨_, _, _, _, _, _, _, _, _, _, _, rfl, { HJ.out with o4 := fun e => ⟨(HJ.out.o4 e).1, rfl⟩, c3 := fun _ => ⟨(some ⟨b, o, none⟩), c, (by rw [htl]), (by intro h; cases h), HTW.out⟩ }⟩
              · obtain ⟨A', c', rfl, hz, hsl⟩ := HJ.out.c3 (HDEP.out { on := 3, ground := Ground.data } (by simp) rfl)
                refine step_enK (w0 := w3) (by rfl) rfl (HJ.out.c0 (HDEP.out { on := 0, ground := Ground.data } (by simp) rfl) HD.out) HJ.out.b (by first | omega | (simp; done) | (simp; omega)) (hsl.below HJ.out.b) hz rfl rfl rfl ?_
                intro v' W' hown hb hg hk
                exact HK.out _ _ ⟨_, _, _, _, _, _, _, _, _, _, _, rfl, HJ.out.step4 (HDEP.out { on := 0, ground := Ground.data } (by simp) rfl) (HDEP.out { on := 3, ground := Ground.data } (by simp) rfl) HD.out hown hb hg hk⟩
              · have hb5 := HBOXW.out.below HJ.out.b
                have hb50 := hb5.1
                have hb51 := hb5.2
                clear hb5
                go_simp
                exact HK.out _ _ ⟨_, _, _, _, _, _, _, _, _, _, _, rfl, { HJ.out with c5 := fun _ => rfl }⟩
              · obtain rfl := HJ.out.c5 (HDEP.out { on := 5, ground := Ground.data } (by simp) rfl)
                go_simp
                exact HK.out _ _ ⟨_, _, _, _, _, _, _, _, _, _, _, rfl, HJ.out.step6 HD.out⟩
              · obtain ⟨g, rfl, hgl, hsl, _, hap⟩ := HJ.out.c6 (HDEP.out { on := 6, ground := Ground.data } (by simp) rfl) HD.out
                have hap := hap (HDEP.out { on := 4, ground := Ground.data } (by simp) rfl)
                refine step_enK (w0 := w3) (m := [(t, a9)]) (by rfl) rfl (HJ.out.c4 (HDEP.out { on := 4, ground := Ground.data } (by simp) rfl) HD.out) HJ.out.b (by first | omega | (simp; done) | (simp; omega)) hsl (by intro h; cases h) rfl rfl rfl ?_
                intro v' W' hown hb hg hk
                exact HK.out _ _ ⟨_, _, _, _, _, _, _, _, _, _, _, rfl, HJ.out.step7 (HDEP.out { on := 4, ground := Ground.data } (by simp) rfl) (HDEP.out { on := 6, ground := Ground.data } (by simp) rfl) HD.out hown hb⟩
              · go_simp
                exact HK.out _ _ ⟨_, _, _, _, _, _, _, _, _, _, _, rfl, { HJ.out with o9 := fun e => ⟨(HJ.out.o9 e).1, rfl⟩, c8 := fun _ => by rw [HMN.out] }⟩
              · obtain rfl := HJ.out.c8 (HDEP.out { on := 8, ground := Ground.data } (by simp) rfl)
                refine step_enK (w0 := w3) (by rfl) rfl (HJ.out.c7 (HDEP.out { on := 7, ground := Ground.data } (by simp) rfl) HD.out) HJ.out.b (by first | omega | (simp; done) | (simp; omega)) (HMW.out.below HJ.out.b) HCZM.out rfl rfl rfl ?_
                intro v' W' hown hb hg hk
                exact HK.out _ _ ⟨_, _, _, _, _, _, _, _, _, _, _, rfl, HJ.out.step9 (HDEP.out { on := 7, ground := Ground.data } (by simp) rfl) (HDEP.out { on := 8, ground := Ground.data } (by simp) rfl) HD.out hown hb⟩
              · go_simp
                exact HK.out _ _ ⟨_, _, _, _, _, _, _, _, _, _, _, rfl, { HJ.out with o10 := fun _ => (HDEP.out { on := 9, ground := Ground.data } (by simp) rfl), c10 := fun _ => rfl }⟩
            · intro d a W hd hJ
              obtain ⟨u50, u51, u52, u53, u54, u55, u56, u57, u58, u59, u8, rfl, hj⟩ := hJ
              obtain rfl := hj.c10 (hd 10 (by decide))
              have ho9 := hj.c9 (hd 9 (by decide))
              have hb9 := hj.b
              clear hj hd
              try simp only at ho9
              rw [HIX.out] at ho9
              have HB9 := Lib.hid (Below_then HBW.out hb9 (Nat.le_refl _))
              have HW9 := Lib.hid (ho9.mono HBW.out.size)
              clear ho9 hb9 HIX
              obtain ⟨X9, d9, rfl, hle9, hs9, _⟩ := HW9.out.sl
              have HS9 := Lib.hid hs9
              clear hs9
              cases hvi : entsV (insE l (t, a9))
              · have hp := HPN.out hvi
                have hEI := fun w h => HEI.out X9 d9 w h
                rw [hvi] at hEI
                have HEX := Lib.hid hEI
                have HR := Lib.hid hp
                clear hvi hp hEI
                go_wp2_with fail
                refine (HEX.out _ HS9.out).mono ?_
                rintro e w10 ⟨rfl, hb⟩
                replace HB9 := Lib.hid (Below_then HB9.out hb (Nat.le_refl _))
                have HSL := Lib.hid (HS.out.below HB9.out)
                clear hb
                go_wp2_with (at_builtin; refine app_enN (w0 := w10) (l := []) rfl rfl (Own.made (Nat.le_refl _)) ((Below.refl _ _).alloc (Nat.le_refl _) _) (by first | omega | (simp; done) | (simp; omega)) (HSL.out.alloc _) HCZ.out (by rfl) (by rfl) ?_; intro v5 w5 hown5 hb5 hg5; rw [List.nil_append] at hown5; have HW5 := Lib.hid hown5; have HB5 := Lib.hid hb5; clear hown5 hb5 hg5)
                go_ret2
                rw [HR.out]
                exact ⟨_, rfl, HW5.out.mono HB9.out.size, Below_then HB9.out HB5.out (Nat.le_refl _)⟩
              · have hp := HPY.out hvi
                have hEI := fun w h => HEI.out X9 d9 w h
                rw [hvi] at hEI
                have HEX := Lib.hid hEI
                have HR := Lib.hid hp
                clear hvi hp hEI
                go_wp2_with fail
                refine (HEX.out _ HS9.out).mono ?_
                rintro e w10 ⟨rfl, hb⟩
                replace HB9 := Lib.hid (Below_then HB9.out hb (Nat.le_refl _))
                replace HW9 := Lib.hid (HW9.out.below hb)
                clear hb
                go_wp2
                go_ret2
                rw [HR.out]
                exact ⟨_, rfl, HW9.out, HB9.out⟩
        · have heq : (n.toList == t.toList) = false := by rw [eq_tlx, beq_eq_false_iff_ne]; exact hq
          have HINS := Lib.hid (HH2.out HP.out hq)
          have hroom : ¬ (c = k) := by omega
          clear hq HNX HPE HH1 HH2 HP
          go_wp2
          refine wp_region_far (by kernel_rfl) (by kernel_rfl) ?_
          repeat (go_big_quiet_step (fail))
          refine wpQuiet_nil ?_
          intro _ hwF
          obtain ⟨pF, hwF⟩ := hwF
          subst hwF
          replace HBW := Lib.hid (Below_then HBW.out (far_below _ pF) (Nat.le_refl _))
          replace HBOX := Lib.hid (HBOX.out.below (far_below _ pF))
          have hy0 := far_cell HBOX.out.1
          have hy1 := far_cell HBOX.out.2
          have y0 := far_cell (z0 pF)
          have y1 := far_cell (z1 pF)
          clear hx0 hx1 z0 z1 hc0 hc1
          generalize far _ pF = w2 at *
          go_wp2
          refine wp_region_far (by kernel_rfl) (by kernel_rfl) ?_
          repeat (go_big_quiet_step (fail))
          refine wpQuiet_nil ?_
          intro _ hwF
          obtain ⟨pF, hwF⟩ := hwF
          subst hwF
          replace HBW := Lib.hid (Below_then HBW.out (far_below _ pF) (Nat.le_refl _))
          replace HBOX := Lib.hid (HBOX.out.below (far_below _ pF))
          clear hy0 hy1 y0 y1
          generalize far _ pF = w3 at *
          have HSW := Lib.hid (HS.out.below HBW.out)
          go_wp2
          have HMW := Lib.hid (HSW.out.dropE (n := k) (by omega))
          have HMN := Lib.hid (show (l.drop k).length = l.length - k by rw [List.length_drop])
          have HCZM := Lib.hid (show ((some ⟨b, o + k * 2, none⟩) : Option Addr) = none → (c - k) = 0 from fun h => by cases h)
          have htl : (l.take k).length = k := by rw [List.length_take]; omega
          have HTW := Lib.hid (show Sl w3 encE 2 (some ⟨b, o, none⟩) (l.take k) from HSW.out.takeE)
          have hkl : k ≤ l.length := by omega
          have HIX := Lib.hid (show l.take k ++ [(t, a9)] ++ (l.drop k) = insE l (t, a9) by rw [HINS.out]; simp)
          have hkcap : k ≤ c := by omega
          have hml : ((l.drop k)).length ≤ 3 := by rw [HMN.out]; omega
          have HBOXW := HBOX
          refine wp_region_inv (by kernel_rfl) (by kernel_rfl) (fun a0 d a W => ∃ u50 u51 u52 u53 u54 u55 u56 u57 u58 u59 u8 : Value, a = ⟨#[Value.slice (some { block := b, off := o }) l.length c, Value.agg #[Value.string t, Value.int IntKind.i64 a9], undef, Value.pointer (some { block := w.heap.size, off := 0 }), Value.slice none 0 0, Value.bool false, Value.int IntKind.i64 (k : Int), Value.slice (some { block := b, off := o + k * 2 }) (l.length - k) (c - k), u8, Value.slice (some { block := b, off := o }) l.length c, Value.bool true, Value.bool false, undef, Value.int IntKind.i64 (k : Int), Value.slice (some { block := b, off := o }) l.length c, Value.int IntKind.i64 (l.length : Int), Value.bool true, Value.bool true, Value.slice (some { block := b, off := o }) l.length c, Value.int IntKind.i64 (k : Int), Value.pointer (some { block := b, off := o + k * 2 }), Value.pointer (some { block := b, off := o + k * 2 }), Value.string n, Value.pointer (some { block := w.heap.size, off := 0 }), Value.string t, Value.bool false, Value.bool false, u27, u28, Value.slice (some { block := b, off := o }) l.length c, Value.int IntKind.i64 (k : Int), Value.slice (some { block := b, off := o + k * 2 }) (l.length - k) (c - k), Value.int IntKind.i64 (k : Int), Value.slice (some { block := b, off := o }) l.length c, Value.int IntKind.i64 (l.length : Int), Value.bool true, Value.bool true, Value.slice (some { block := b, off := o }) l.length c, Value.int IntKind.i64 (k : Int), Value.pointer (some { block := b, off := o + k * 2 }), Value.pointer (some { block := b, off := o + k * 2 }), Value.string n, Value.pointer (some { block := w.heap.size, off := 0 }), Value.string t, Value.bool false, Value.bool false, undef, undef, undef, undef, u50, u51, u52, u53, u54, u55, u56, u57, u58, u59, undef, undef, undef, undef, undef, undef, undef], []⟩ ∧ PeJ w3 (some ⟨b, o, none⟩) l.length c (k) l (t, a9) (some ⟨b, o + k * 2, none⟩) (c - k) (l.drop k) d u50 u51 u52 u53 u54 u55 u56 u57 u58 u59 u8 W) ?_ ?_ ?_
          · exact ⟨_, _, _, _, _, _, _, _, _, _, _, rfl, Below_drewN (Below.refl _ _) 1, nofun, nofun, nofun, nofun, nofun, nofun, nofun, nofun, nofun, nofun, nofun, nofun, nofun, nofun, nofun⟩
          · refine ⟨?_, ?_, ?_, ?_, ?_, ?_, ?_, ?_, ?_, ?_, ?_, trivial⟩
            all_goals
              intro d a W K hd hdep hJ hK
              obtain ⟨u50, u51, u52, u53, u54, u55, u56, u57, u58, u59, u8, rfl, hj⟩ := hJ
              have HJ := Lib.hid hj
              have HK := Lib.hid hK
              have HD := Lib.hid hd
              have HDEP := Lib.hid hdep
              clear hj hK hd hdep
            · go_simp
              exact HK.out _ _ ⟨_, _, _, _, _, _, _, _, _, _, _, rfl, HJ.out.step0 HD.out⟩
            · go_simp
              exact HK.out _ _ ⟨_, _, _, _, _, _, _, _, _, _, _, rfl, { HJ.out with c1 := fun _ => rfl }⟩
            · go_simp
              exact HK.out _ _ ⟨_, _, _, _, _, _, _, _, _, _, _, rfl, { HJ.out with c2 := fun _ => rfl }⟩
            · obtain rfl := HJ.out.c1 (HDEP.out { on := 1, ground := Ground.data } (by simp) rfl)
              obtain rfl := HJ.out.c2 (HDEP.out { on := 2, ground := Ground.data } (by simp) rfl)
              go_simp
              exact HK.out _ _ ⟨_, _, _, _, _, _, _, _, _, _, _, rfl, { HJ.out with o4 := fun e => ⟨(HJ.out.o4 e).1, rfl⟩, c3 := fun _ => ⟨(some ⟨b, o, none⟩), c, (by rw [htl]), (by intro h; cases h), HTW.out⟩ }⟩
            · obtain ⟨A', c', rfl, hz, hsl⟩ := HJ.out.c3 (HDEP.out { on := 3, ground := Ground.data } (by simp) rfl)
              refine step_enK (w0 := w3) (by rfl) rfl (HJ.out.c0 (HDEP.out { on := 0, ground := Ground.data } (by simp) rfl) HD.out) HJ.out.b (by first | omega | (simp; done) | (simp; omega)) (hsl.below HJ.out.b) hz rfl rfl rfl ?_
              intro v' W' hown hb hg hk
              exact HK.out _ _ ⟨_, _, _, _, _, _, _, _, _, _, _, rfl, HJ.out.step4 (HDEP.out { on := 0, ground := Ground.data } (by simp) rfl) (HDEP.out { on := 3, ground := Ground.data } (by simp) rfl) HD.out hown hb hg hk⟩
            · have hb5 := HBOXW.out.below HJ.out.b
              have hb50 := hb5.1
              have hb51 := hb5.2
              clear hb5
              go_simp
              exact HK.out _ _ ⟨_, _, _, _, _, _, _, _, _, _, _, rfl, { HJ.out with c5 := fun _ => rfl }⟩
            · obtain rfl := HJ.out.c5 (HDEP.out { on := 5, ground := Ground.data } (by simp) rfl)
              go_simp
              exact HK.out _ _ ⟨_, _, _, _, _, _, _, _, _, _, _, rfl, HJ.out.step6 HD.out⟩
            · obtain ⟨g, rfl, hgl, hsl, _, hap⟩ := HJ.out.c6 (HDEP.out { on := 6, ground := Ground.data } (by simp) rfl) HD.out
              have hap := hap (HDEP.out { on := 4, ground := Ground.data } (by simp) rfl)
              refine step_enK (w0 := w3) (m := [(t, a9)]) (by rfl) rfl (HJ.out.c4 (HDEP.out { on := 4, ground := Ground.data } (by simp) rfl) HD.out) HJ.out.b (by first | omega | (simp; done) | (simp; omega)) hsl (by intro h; cases h) rfl rfl rfl ?_
              intro v' W' hown hb hg hk
              exact HK.out _ _ ⟨_, _, _, _, _, _, _, _, _, _, _, rfl, HJ.out.step7 (HDEP.out { on := 4, ground := Ground.data } (by simp) rfl) (HDEP.out { on := 6, ground := Ground.data } (by simp) rfl) HD.out hown hb⟩
            · go_simp
              exact HK.out _ _ ⟨_, _, _, _, _, _, _, _, _, _, _, rfl, { HJ.out with o9 := fun e => ⟨(HJ.out.o9 e).1, rfl⟩, c8 := fun _ => by rw [HMN.out] }⟩
            · obtain rfl := HJ.out.c8 (HDEP.out { on := 8, ground := Ground.data } (by simp) rfl)
              refine step_enK (w0 := w3) (by rfl) rfl (HJ.out.c7 (HDEP.out { on := 7, ground := Ground.data } (by simp) rfl) HD.out) HJ.out.b (by first | omega | (simp; done) | (simp; omega)) (HMW.out.below HJ.out.b) HCZM.out rfl rfl rfl ?_
              intro v' W' hown hb hg hk
              exact HK.out _ _ ⟨_, _, _, _, _, _, _, _, _, _, _, rfl, HJ.out.step9 (HDEP.out { on := 7, ground := Ground.data } (by simp) rfl) (HDEP.out { on := 8, ground := Ground.data } (by simp) rfl) HD.out hown hb⟩
            · go_simp
              exact HK.out _ _ ⟨_, _, _, _, _, _, _, _, _, _, _, rfl, { HJ.out with o10 := fun _ => (HDEP.out { on := 9, ground := Ground.data } (by simp) rfl), c10 := fun _ => rfl }⟩
          · intro d a W hd hJ
            obtain ⟨u50, u51, u52, u53, u54, u55, u56, u57, u58, u59, u8, rfl, hj⟩ := hJ
            obtain rfl := hj.c10 (hd 10 (by decide))
            have ho9 := hj.c9 (hd 9 (by decide))
            have hb9 := hj.b
            clear hj hd
            try simp only at ho9
            rw [HIX.out] at ho9
            have HB9 := Lib.hid (Below_then HBW.out hb9 (Nat.le_refl _))
            have HW9 := Lib.hid (ho9.mono HBW.out.size)
            clear ho9 hb9 HIX
            obtain ⟨X9, d9, rfl, hle9, hs9, _⟩ := HW9.out.sl
            have HS9 := Lib.hid hs9
            clear hs9
            cases hvi : entsV (insE l (t, a9))
            · have hp := HPN.out hvi
              have hEI := fun w h => HEI.out X9 d9 w h
              rw [hvi] at hEI
              have HEX := Lib.hid hEI
              have HR := Lib.hid hp
              clear hvi hp hEI
              go_wp2_with fail
              refine (HEX.out _ HS9.out).mono ?_
              rintro e w10 ⟨rfl, hb⟩
              replace HB9 := Lib.hid (Below_then HB9.out hb (Nat.le_refl _))
              have HSL := Lib.hid (HS.out.below HB9.out)
              clear hb
              go_wp2_with (at_builtin; refine app_enN (w0 := w10) (l := []) rfl rfl (Own.made (Nat.le_refl _)) ((Below.refl _ _).alloc (Nat.le_refl _) _) (by first | omega | (simp; done) | (simp; omega)) (HSL.out.alloc _) HCZ.out (by rfl) (by rfl) ?_; intro v5 w5 hown5 hb5 hg5; rw [List.nil_append] at hown5; have HW5 := Lib.hid hown5; have HB5 := Lib.hid hb5; clear hown5 hb5 hg5)
              go_ret2
              rw [HR.out]
              exact ⟨_, rfl, HW5.out.mono HB9.out.size, Below_then HB9.out HB5.out (Nat.le_refl _)⟩
            · have hp := HPY.out hvi
              have hEI := fun w h => HEI.out X9 d9 w h
              rw [hvi] at hEI
              have HEX := Lib.hid hEI
              have HR := Lib.hid hp
              clear hvi hp hEI
              go_wp2_with fail
              refine (HEX.out _ HS9.out).mono ?_
              rintro e w10 ⟨rfl, hb⟩
              replace HB9 := Lib.hid (Below_then HB9.out hb (Nat.le_refl _))
              replace HW9 := Lib.hid (HW9.out.below hb)
              clear hb
              go_wp2
              go_ret2
              rw [HR.out]
              exact ⟨_, rfl, HW9.out, HB9.out⟩
      · have HN := Lib.hid (HNX.out hx)
        have hx' := less_t hx
        clear hx HNX HPE HH1 HH2
        go_wp2
        refine wp_region_far (by kernel_rfl) (by kernel_rfl) ?_
        repeat (go_big_quiet_step (fail))
        refine wpQuiet_nil ?_
        intro _ hwF
        obtain ⟨pF, hwF⟩ := hwF
        subst hwF
        have HBF := Lib.hid (Below_then HBJ.out (far_below _ pF) (Nat.le_refl _))
        clear hx0 hx1 z0 z1 hc0 hc1
        generalize far _ pF = w2 at *
        go_wp2
        go_roundw
        case rel => exact ⟨k + 1, by omega, by go_num, HN.out, HBF.out⟩
        case measure => simp [intOf]; omega
    · have hlt' : ¬ (k : Int) < (l.length : Int) := by omega
      obtain rfl : k = l.length := by omega
      have HINS := Lib.hid (HIN.out l.length (HPO.out l.length (Nat.le_refl _) HJ.out (fun h => absurd h (by omega))) (fun h => absurd h (by omega)))
      go_wp2
      refine wp_region_far (by kernel_rfl) (by kernel_rfl) ?_
      repeat (go_big_quiet_step (fail))
      refine wpQuiet_nil ?_
      intro _ hwF
      obtain ⟨pF, hwF⟩ := hwF
      subst hwF
      replace HBW := Lib.hid (Below_then HBW.out (far_below _ pF) (Nat.le_refl _))
      replace HBOX := Lib.hid (HBOX.out.below (far_below _ pF))
      have hy0 := far_cell HBOX.out.1
      have hy1 := far_cell HBOX.out.2
      clear hx0 hx1
      generalize far _ pF = w2 at *
      rcases hA with rfl | ⟨b, o, rfl⟩
      · have hc0 : c = 0 := HCZ.out rfl
        have hl0 : l.length = 0 := by omega
        obtain rfl : l = [] := List.eq_nil_of_length_eq_zero hl0
        replace HINS := Lib.hid (show insE [] (t, a9) = ([] : List En) ++ (t, a9) :: ([] : List En) from HINS.out)
        go_wp2
        refine wp_region_far (by kernel_rfl) (by kernel_rfl) ?_
        repeat (go_big_quiet_step (fail))
        refine wpQuiet_nil ?_
        intro _ hwF
        obtain ⟨pF, hwF⟩ := hwF
        subst hwF
        replace HBW := Lib.hid (Below_then HBW.out (far_below _ pF) (Nat.le_refl _))
        replace HBOX := Lib.hid (HBOX.out.below (far_below _ pF))
        clear hy0 hy1
        generalize far _ pF = w3 at *
        have HSW := Lib.hid (HS.out.below HBW.out)
        go_wp2
        have HMW := Lib.hid (show Sl w3 encE 2 none ([] : List En) from Sl.none_)
        have HMN := Lib.hid (show ([] : List En).length = 0 from rfl)
        have HCZM := Lib.hid (show (none : Option Addr) = none → 0 = 0 from fun _ => rfl)
        have htl : (([] : List En).take 0).length = 0 := rfl
        have HTW := Lib.hid (show Sl w3 encE 2 none (([] : List En).take 0) from Sl.none_)
        have hkl : 0 ≤ ([] : List En).length := Nat.le_refl _
        have HIX := Lib.hid (show ([] : List En).take 0 ++ [(t, a9)] ++ ([] : List En) = insE ([] : List En) (t, a9) by rw [HINS.out]; rfl)
        have hkcap : 0 ≤ c := by omega
        have hml : (([] : List En)).length ≤ 3 := by rw [HMN.out]; omega
        have HBOXW := HBOX
        refine wp_region_inv (by kernel_rfl) (by kernel_rfl) (fun a0 d a W => ∃ u50 u51 u52 u53 u54 u55 u56 u57 u58 u59 u8 : Value, a = ⟨#[Value.slice none 0 0, Value.agg #[Value.string t, Value.int IntKind.i64 a9], undef, Value.pointer (some { block := w.heap.size, off := 0 }), Value.slice none 0 0, Value.bool false, Value.int IntKind.i64 0, Value.slice none 0 0, u8, Value.slice none 0 0, Value.bool true, Value.bool false, undef, Value.int IntKind.i64 0, Value.slice none 0 0, Value.int IntKind.i64 0, Value.bool false, Value.bool false, undef, undef, undef, undef, undef, undef, undef, undef, Value.bool false, u27, u28, Value.slice none 0 0, Value.int IntKind.i64 0, Value.slice none 0 0, Value.int IntKind.i64 0, Value.slice none 0 0, Value.int IntKind.i64 0, Value.bool false, Value.bool false, undef, undef, undef, undef, undef, undef, undef, undef, Value.bool false, undef, undef, undef, undef, u50, u51, u52, u53, u54, u55, u56, u57, u58, u59, undef, undef, undef, undef, undef, undef, undef], []⟩ ∧ PeJ w3 none ([] : List En).length 0 (0) ([] : List En) (t, a9) none 0 ([] : List En) d u50 u51 u52 u53 u54 u55 u56 u57 u58 u59 u8 W) ?_ ?_ ?_
        · exact ⟨_, _, _, _, _, _, _, _, _, _, _, rfl, Below_drewN (Below.refl _ _) 1, nofun, nofun, nofun, nofun, nofun, nofun, nofun, nofun, nofun, nofun, nofun, nofun, nofun, nofun, nofun⟩
        · refine ⟨?_, ?_, ?_, ?_, ?_, ?_, ?_, ?_, ?_, ?_, ?_, trivial⟩
          all_goals
            intro d a W K hd hdep hJ hK
            obtain ⟨u50, u51, u52, u53, u54, u55, u56, u57, u58, u59, u8, rfl, hj⟩ := hJ
            have HJ := Lib.hid hj
            have HK := Lib.hid hK
            have HD := Lib.hid hd
            have HDEP := Lib.hid hdep
            clear hj hK hd hdep
          · go_simp
            exact HK.out _ _ ⟨_, _, _, _, _, _, _, _, _, _, _, rfl, HJ.out.step0 HD.out⟩
          · go_simp
            exact HK.out _ _ ⟨_, _, _, _, _, _, _, _, _, _, _, rfl, { HJ.out with c1 := fun _ => rfl }⟩
          · go_simp
            exact HK.out _ _ ⟨_, _, _, _, _, _, _, _, _, _, _, rfl, { HJ.out with c2 := fun _ => rfl }⟩
          · obtain rfl := HJ.out.c1 (HDEP.out { on := 1, ground := Ground.data } (by simp) rfl)
            obtain rfl := HJ.out.c2 (HDEP.out { on := 2, ground := Ground.data } (by simp) rfl)
            go_simp
            exact HK.out _ _ ⟨_, _, _, _, _, _, _, _, _, _, _, rfl, { HJ.out with o4 := fun e => ⟨(HJ.out.o4 e).1, rfl⟩, c3 := fun _ => ⟨none, 0, (by rw [htl]), (fun _ => rfl), HTW.out⟩ }⟩
          · obtain ⟨A', c', rfl, hz, hsl⟩ := HJ.out.c3 (HDEP.out { on := 3, ground := Ground.data } (by simp) rfl)
            refine step_enK (w0 := w3) (by rfl) rfl (HJ.out.c0 (HDEP.out { on := 0, ground := Ground.data } (by simp) rfl) HD.out) HJ.out.b (by first | omega | (simp; done) | (simp; omega)) (hsl.below HJ.out.b) hz rfl rfl rfl ?_
            intro v' W' hown hb hg hk
            exact HK.out _ _ ⟨_, _, _, _, _, _, _, _, _, _, _, rfl, HJ.out.step4 (HDEP.out { on := 0, ground := Ground.data } (by simp) rfl) (HDEP.out { on := 3, ground := Ground.data } (by simp) rfl) HD.out hown hb hg hk⟩
          · have hb5 := HBOXW.out.below HJ.out.b
            have hb50 := hb5.1
            have hb51 := hb5.2
            clear hb5
            go_simp
            exact HK.out _ _ ⟨_, _, _, _, _, _, _, _, _, _, _, rfl, { HJ.out with c5 := fun _ => rfl }⟩
          · obtain rfl := HJ.out.c5 (HDEP.out { on := 5, ground := Ground.data } (by simp) rfl)
            go_simp
            exact HK.out _ _ ⟨_, _, _, _, _, _, _, _, _, _, _, rfl, HJ.out.step6 HD.out⟩
          · obtain ⟨g, rfl, hgl, hsl, _, hap⟩ := HJ.out.c6 (HDEP.out { on := 6, ground := Ground.data } (by simp) rfl) HD.out
            have hap := hap (HDEP.out { on := 4, ground := Ground.data } (by simp) rfl)
            refine step_enK (w0 := w3) (m := [(t, a9)]) (by rfl) rfl (HJ.out.c4 (HDEP.out { on := 4, ground := Ground.data } (by simp) rfl) HD.out) HJ.out.b (by first | omega | (simp; done) | (simp; omega)) hsl (by intro h; cases h) rfl rfl rfl ?_
            intro v' W' hown hb hg hk
            exact HK.out _ _ ⟨_, _, _, _, _, _, _, _, _, _, _, rfl, HJ.out.step7 (HDEP.out { on := 4, ground := Ground.data } (by simp) rfl) (HDEP.out { on := 6, ground := Ground.data } (by simp) rfl) HD.out hown hb⟩
          · go_simp
            exact HK.out _ _ ⟨_, _, _, _, _, _, _, _, _, _, _, rfl, { HJ.out with o9 := fun e => ⟨(HJ.out.o9 e).1, rfl⟩, c8 := fun _ => by rw [HMN.out] }⟩
          · obtain rfl := HJ.out.c8 (HDEP.out { on := 8, ground := Ground.data } (by simp) rfl)
            refine step_enK (w0 := w3) (by rfl) rfl (HJ.out.c7 (HDEP.out { on := 7, ground := Ground.data } (by simp) rfl) HD.out) HJ.out.b (by first | omega | (simp; done) | (simp; omega)) (HMW.out.below HJ.out.b) HCZM.out rfl rfl rfl ?_
            intro v' W' hown hb hg hk
            exact HK.out _ _ ⟨_, _, _, _, _, _, _, _, _, _, _, rfl, HJ.out.step9 (HDEP.out { on := 7, ground := Ground.data } (by simp) rfl) (HDEP.out { on := 8, ground := Ground.data } (by simp) rfl) HD.out hown hb⟩
          · go_simp
            exact HK.out _ _ ⟨_, _, _, _, _, _, _, _, _, _, _, rfl, { HJ.out with o10 := fun _ => (HDEP.out { on := 9, ground := Ground.data } (by simp) rfl), c10 := fun _ => rfl }⟩
        · intro d a W hd hJ
          obtain ⟨u50, u51, u52, u53, u54, u55, u56, u57, u58, u59, u8, rfl, hj⟩ := hJ
          obtain rfl := hj.c10 (hd 10 (by decide))
          have ho9 := hj.c9 (hd 9 (by decide))
          have hb9 := hj.b
          clear hj hd
          try simp only at ho9
          rw [HIX.out] at ho9
          have HB9 := Lib.hid (Below_then HBW.out hb9 (Nat.le_refl _))
          have HW9 := Lib.hid (ho9.mono HBW.out.size)
          clear ho9 hb9 HIX
          obtain ⟨X9, d9, rfl, hle9, hs9, _⟩ := HW9.out.sl
          have HS9 := Lib.hid hs9
          clear hs9
          cases hvi : entsV (insE ([] : List En) (t, a9))
          · have hp := HPN.out hvi
            have hEI := fun w h => HEI.out X9 d9 w h
            rw [hvi] at hEI
            have HEX := Lib.hid hEI
            have HR := Lib.hid hp
            clear hvi hp hEI
            go_wp2_with fail
            refine (HEX.out _ HS9.out).mono ?_
            rintro e w10 ⟨rfl, hb⟩
            replace HB9 := Lib.hid (Below_then HB9.out hb (Nat.le_refl _))
            have HSL := Lib.hid (HS.out.below HB9.out)
            clear hb
            go_wp2_with (at_builtin; refine app_enN (w0 := w10) (l := []) rfl rfl (Own.made (Nat.le_refl _)) ((Below.refl _ _).alloc (Nat.le_refl _) _) (by first | omega | (simp; done) | (simp; omega)) (A := none) (c := 0) (m := []) Sl.none_ (fun _ => rfl) (by rfl) (by rfl) ?_; intro v5 w5 hown5 hb5 hg5; rw [List.nil_append] at hown5; have HW5 := Lib.hid hown5; have HB5 := Lib.hid hb5; clear hown5 hb5 hg5)
            go_ret2
            rw [HR.out]
            exact ⟨_, rfl, HW5.out.mono HB9.out.size, Below_then HB9.out HB5.out (Nat.le_refl _)⟩
          · have hp := HPY.out hvi
            have hEI := fun w h => HEI.out X9 d9 w h
            rw [hvi] at hEI
            have HEX := Lib.hid hEI
            have HR := Lib.hid hp
            clear hvi hp hEI
            go_wp2_with fail
            refine (HEX.out _ HS9.out).mono ?_
            rintro e w10 ⟨rfl, hb⟩
            replace HB9 := Lib.hid (Below_then HB9.out hb (Nat.le_refl _))
            replace HW9 := Lib.hid (HW9.out.below hb)
            clear hb
            go_wp2
            go_ret2
            rw [HR.out]
            exact ⟨_, rfl, HW9.out, HB9.out⟩
      · by_cases hroom : c = l.length
        · subst hroom
          go_wp2
          refine wp_region_far (by kernel_rfl) (by kernel_rfl) ?_
          repeat (go_big_quiet_step (fail))
          refine wpQuiet_nil ?_
          intro _ hwF
          obtain ⟨pF, hwF⟩ := hwF
          subst hwF
          replace HBW := Lib.hid (Below_then HBW.out (far_below _ pF) (Nat.le_refl _))
          replace HBOX := Lib.hid (HBOX.out.below (far_below _ pF))
          clear hy0 hy1
          generalize far _ pF = w3 at *
          have HSW := Lib.hid (HS.out.below HBW.out)
          go_wp2
          have hdl : ((l.drop l.length)).length = 0 := by rw [List.length_drop]; omega
          have HMW := Lib.hid (show Sl w3 encE 2 (some ⟨b, o, none⟩) (l.drop l.length) from fun h => by omega)
          have HMN := Lib.hid (show (l.drop l.length).length = 0 by rw [List.length_drop]; omega)
          have HCZM := Lib.hid (show ((some ⟨b, o, none⟩) : Option Addr) = none → 0 = 0 from fun h => by cases h)
          have htl : (l.take l.length).length = l.length := by rw [List.length_take]; omega
          have HTW := Lib.hid (show Sl w3 encE 2 (some ⟨b, o, none⟩) (l.take l.length) from HSW.out.takeE)
          have hkl : l.length ≤ l.length := by omega
          have HIX := Lib.hid (show l.take l.length ++ [(t, a9)] ++ (l.drop l.length) = insE l (t, a9) by rw [HINS.out]; simp)
          have hkcap : l.length ≤ l.length := by omega
          have hml : ((l.drop l.length)).length ≤ 3 := by rw [HMN.out]; omega
          have HBOXW := HBOX
          refine wp_region_inv (by kernel_rfl) (by kernel_rfl) (fun a0 d a W => ∃ u50 u51 u52 u53 u54 u55 u56 u57 u58 u59 u8 : Value, a = ⟨#[Value.slice (some { block := b, off := o }) l.length l.length, Value.agg #[Value.string t, Value.int IntKind.i64 a9], undef, Value.pointer (some { block := w.heap.size, off := 0 }), Value.slice none 0 0, Value.bool false, Value.int IntKind.i64 (l.length : Int), Value.slice (some { block := b, off := o }) 0 0, u8, Value.slice (some { block := b, off := o }) l.length l.length, Value.bool true, Value.bool false, undef, Value.int IntKind.i64 (l.length : Int), Value.slice (some { block := b, off := o }) l.length l.length, Value.int IntKind.i64 (l.length : Int), Value.bool false, Value.bool false, undef, undef, undef, undef, undef, undef, undef, undef, Value.bool false, u27, u28, Value.slice (some { block := b, off := o }) l.length l.length, Value.int IntKind.i64 (l.length : Int), Value.slice (some { block := b, off := o }) 0 0, Value.int IntKind.i64 (l.length : Int), Value.slice (some { block := b, off := o }) l.length l.length, Value.int IntKind.i64 (l.length : Int), Value.bool false, Value.bool false, undef, undef, undef, undef, undef, undef, undef, undef, Value.bool false, undef, undef, undef, undef, u50, u51, u52, u53, u54, u55, u56, u57, u58, u59, undef, undef, undef, undef, undef, undef, undef], []⟩ ∧ PeJ w3 (some ⟨b, o, none⟩) l.length l.length (l.length) l (t, a9) (some ⟨b, o, none⟩) 0 (l.drop l.length) d u50 u51 u52 u53 u54 u55 u56 u57 u58 u59 u8 W) ?_ ?_ ?_
          · exact ⟨_, _, _, _, _, _, _, _, _, _, _, rfl, Below_drewN (Below.refl _ _) 1, nofun, nofun, nofun, nofun, nofun, nofun, nofun, nofun, nofun, nofun, nofun, nofun, nofun, nofun, nofun⟩
          · refine ⟨?_, ?_, ?_, ?_, ?_, ?_, ?_, ?_, ?_, ?_, ?_, trivial⟩
            all_goals
              intro d a W K hd hdep hJ hK
              obtain ⟨u50, u51, u52, u53, u54, u55, u56, u57, u58, u59, u8, rfl, hj⟩ := hJ
              have HJ := Lib.hid hj
              have HK := Lib.hid hK
              have HD := Lib.hid hd
              have HDEP := Lib.hid hdep
              clear hj hK hd hdep
            · go_simp
              exact HK.out _ _ ⟨_, _, _, _, _, _, _, _, _, _, _, rfl, HJ.out.step0 HD.out⟩
            · go_simp
              exact HK.out _ _ ⟨_, _, _, _, _, _, _, _, _, _, _, rfl, { HJ.out with c1 := fun _ => rfl }⟩
            · go_simp
              exact HK.out _ _ ⟨_, _, _, _, _, _, _, _, _, _, _, rfl, { HJ.out with c2 := fun _ => rfl }⟩
            · obtain rfl := HJ.out.c1 (HDEP.out { on := 1, ground := Ground.data } (by simp) rfl)
              obtain rfl := HJ.out.c2 (HDEP.out { on := 2, ground := Ground.data } (by simp) rfl)
              go_simp
              exact HK.out _ _ ⟨_, _, _, _, _, _, _, _, _, _, _, rfl, { HJ.out with o4 := fun e => ⟨(HJ.out.o4 e).1, rfl⟩, c3 := fun _ => ⟨(some ⟨b, o, none⟩), l.length, (by rw [htl]), (by intro h; cases h), HTW.out⟩ }⟩
            · obtain ⟨A', c', rfl, hz, hsl⟩ := HJ.out.c3 (HDEP.out { on := 3, ground := Ground.data } (by simp) rfl)
              refine step_enK (w0 := w3) (by rfl) rfl (HJ.out.c0 (HDEP.out { on := 0, ground := Ground.data } (by simp) rfl) HD.out) HJ.out.b (by first | omega | (simp; done) | (simp; omega)) (hsl.below HJ.out.b) hz rfl rfl rfl ?_
              intro v' W' hown hb hg hk
              exact HK.out _ _ ⟨_, _, _, _, _, _, _, _, _, _, _, rfl, HJ.out.step4 (HDEP.out { on := 0, ground := Ground.data } (by simp) rfl) (HDEP.out { on := 3, ground := Ground.data } (by simp) rfl) HD.out hown hb hg hk⟩
            · have hb5 := HBOXW.out.below HJ.out.b
              have hb50 := hb5.1
              have hb51 := hb5.2
              clear hb5
              go_simp
              exact HK.out _ _ ⟨_, _, _, _, _, _, _, _, _, _, _, rfl, { HJ.out with c5 := fun _ => rfl }⟩
            · obtain rfl := HJ.out.c5 (HDEP.out { on := 5, ground := Ground.data } (by simp) rfl)
              go_simp
              exact HK.out _ _ ⟨_, _, _, _, _, _, _, _, _, _, _, rfl, HJ.out.step6 HD.out⟩
            · obtain ⟨g, rfl, hgl, hsl, _, hap⟩ := HJ.out.c6 (HDEP.out { on := 6, ground := Ground.data } (by simp) rfl) HD.out
              have hap := hap (HDEP.out { on := 4, ground := Ground.data } (by simp) rfl)
              refine step_enK (w0 := w3) (m := [(t, a9)]) (by rfl) rfl (HJ.out.c4 (HDEP.out { on := 4, ground := Ground.data } (by simp) rfl) HD.out) HJ.out.b (by first | omega | (simp; done) | (simp; omega)) hsl (by intro h; cases h) rfl rfl rfl ?_
              intro v' W' hown hb hg hk
              exact HK.out _ _ ⟨_, _, _, _, _, _, _, _, _, _, _, rfl, HJ.out.step7 (HDEP.out { on := 4, ground := Ground.data } (by simp) rfl) (HDEP.out { on := 6, ground := Ground.data } (by simp) rfl) HD.out hown hb⟩
            · go_simp
              exact HK.out _ _ ⟨_, _, _, _, _, _, _, _, _, _, _, rfl, { HJ.out with o9 := fun e => ⟨(HJ.out.o9 e).1, rfl⟩, c8 := fun _ => by rw [HMN.out] }⟩
            · obtain rfl := HJ.out.c8 (HDEP.out { on := 8, ground := Ground.data } (by simp) rfl)
              refine step_enK (w0 := w3) (by rfl) rfl (HJ.out.c7 (HDEP.out { on := 7, ground := Ground.data } (by simp) rfl) HD.out) HJ.out.b (by first | omega | (simp; done) | (simp; omega)) (HMW.out.below HJ.out.b) HCZM.out rfl rfl rfl ?_
              intro v' W' hown hb hg hk
              exact HK.out _ _ ⟨_, _, _, _, _, _, _, _, _, _, _, rfl, HJ.out.step9 (HDEP.out { on := 7, ground := Ground.data } (by simp) rfl) (HDEP.out { on := 8, ground := Ground.data } (by simp) rfl) HD.out hown hb⟩
            · go_simp
              exact HK.out _ _ ⟨_, _, _, _, _, _, _, _, _, _, _, rfl, { HJ.out with o10 := fun _ => (HDEP.out { on := 9, ground := Ground.data } (by simp) rfl), c10 := fun _ => rfl }⟩
          · intro d a W hd hJ
            obtain ⟨u50, u51, u52, u53, u54, u55, u56, u57, u58, u59, u8, rfl, hj⟩ := hJ
            obtain rfl := hj.c10 (hd 10 (by decide))
            have ho9 := hj.c9 (hd 9 (by decide))
            have hb9 := hj.b
            clear hj hd
            try simp only at ho9
            rw [HIX.out] at ho9
            have HB9 := Lib.hid (Below_then HBW.out hb9 (Nat.le_refl _))
            have HW9 := Lib.hid (ho9.mono HBW.out.size)
            clear ho9 hb9 HIX
            obtain ⟨X9, d9, rfl, hle9, hs9, _⟩ := HW9.out.sl
            have HS9 := Lib.hid hs9
            clear hs9
            cases hvi : entsV (insE l (t, a9))
            · have hp := HPN.out hvi
              have hEI := fun w h => HEI.out X9 d9 w h
              rw [hvi] at hEI
              have HEX := Lib.hid hEI
              have HR := Lib.hid hp
              clear hvi hp hEI
              go_wp2_with fail
              refine (HEX.out _ HS9.out).mono ?_
              rintro e w10 ⟨rfl, hb⟩
              replace HB9 := Lib.hid (Below_then HB9.out hb (Nat.le_refl _))
              have HSL := Lib.hid (HS.out.below HB9.out)
              clear hb
              go_wp2_with (at_builtin; refine app_enN (w0 := w10) (l := []) rfl rfl (Own.made (Nat.le_refl _)) ((Below.refl _ _).alloc (Nat.le_refl _) _) (by first | omega | (simp; done) | (simp; omega)) (HSL.out.alloc _) HCZ.out (by rfl) (by rfl) ?_; intro v5 w5 hown5 hb5 hg5; rw [List.nil_append] at hown5; have HW5 := Lib.hid hown5; have HB5 := Lib.hid hb5; clear hown5 hb5 hg5)
              go_ret2
              rw [HR.out]
              exact ⟨_, rfl, HW5.out.mono HB9.out.size, Below_then HB9.out HB5.out (Nat.le_refl _)⟩
            · have hp := HPY.out hvi
              have hEI := fun w h => HEI.out X9 d9 w h
              rw [hvi] at hEI
              have HEX := Lib.hid hEI
              have HR := Lib.hid hp
              clear hvi hp hEI
              go_wp2_with fail
              refine (HEX.out _ HS9.out).mono ?_
              rintro e w10 ⟨rfl, hb⟩
              replace HB9 := Lib.hid (Below_then HB9.out hb (Nat.le_refl _))
              replace HW9 := Lib.hid (HW9.out.below hb)
              clear hb
              go_wp2
              go_ret2
              rw [HR.out]
              exact ⟨_, rfl, HW9.out, HB9.out⟩
        · go_wp2
          refine wp_region_far (by kernel_rfl) (by kernel_rfl) ?_
          repeat (go_big_quiet_step (fail))
          refine wpQuiet_nil ?_
          intro _ hwF
          obtain ⟨pF, hwF⟩ := hwF
          subst hwF
          replace HBW := Lib.hid (Below_then HBW.out (far_below _ pF) (Nat.le_refl _))
          replace HBOX := Lib.hid (HBOX.out.below (far_below _ pF))
          clear hy0 hy1
          generalize far _ pF = w3 at *
          have HSW := Lib.hid (HS.out.below HBW.out)
          go_wp2
          have HMW := Lib.hid (HSW.out.dropE (n := l.length) (by omega))
          have HMN := Lib.hid (show (l.drop l.length).length = 0 by rw [List.length_drop]; omega)
          have HCZM := Lib.hid (show ((some ⟨b, o + l.length * 2, none⟩) : Option Addr) = none → (c - l.length) = 0 from fun h => by cases h)
          have htl : (l.take l.length).length = l.length := by rw [List.length_take]; omega
          have HTW := Lib.hid (show Sl w3 encE 2 (some ⟨b, o, none⟩) (l.take l.length) from HSW.out.takeE)
          have hkl : l.length ≤ l.length := by omega
          have HIX := Lib.hid (show l.take l.length ++ [(t, a9)] ++ (l.drop l.length) = insE l (t, a9) by rw [HINS.out]; simp)
          have hkcap : l.length ≤ c := by omega
          have hml : ((l.drop l.length)).length ≤ 3 := by rw [HMN.out]; omega
          have HBOXW := HBOX
          refine wp_region_inv (by kernel_rfl) (by kernel_rfl) (fun a0 d a W => ∃ u50 u51 u52 u53 u54 u55 u56 u57 u58 u59 u8 : Value, a = ⟨#[Value.slice (some { block := b, off := o }) l.length c, Value.agg #[Value.string t, Value.int IntKind.i64 a9], undef, Value.pointer (some { block := w.heap.size, off := 0 }), Value.slice none 0 0, Value.bool false, Value.int IntKind.i64 (l.length : Int), Value.slice (some { block := b, off := o + l.length * 2 }) 0 (c - l.length), u8, Value.slice (some { block := b, off := o }) l.length c, Value.bool true, Value.bool false, undef, Value.int IntKind.i64 (l.length : Int), Value.slice (some { block := b, off := o }) l.length c, Value.int IntKind.i64 (l.length : Int), Value.bool false, Value.bool false, undef, undef, undef, undef, undef, undef, undef, undef, Value.bool false, u27, u28, Value.slice (some { block := b, off := o }) l.length c, Value.int IntKind.i64 (l.length : Int), Value.slice (some { block := b, off := o + l.length * 2 }) 0 (c - l.length), Value.int IntKind.i64 (l.length : Int), Value.slice (some { block := b, off := o }) l.length c, Value.int IntKind.i64 (l.length : Int), Value.bool false, Value.bool false, undef, undef, undef, undef, undef, undef, undef, undef, Value.bool false, undef, undef, undef, undef, u50, u51, u52, u53, u54, u55, u56, u57, u58, u59, undef, undef, undef, undef, undef, undef, undef], []⟩ ∧ PeJ w3 (some ⟨b, o, none⟩) l.length c (l.length) l (t, a9) (some ⟨b, o + l.length * 2, none⟩) (c - l.length) (l.drop l.length) d u50 u51 u52 u53 u54 u55 u56 u57 u58 u59 u8 W) ?_ ?_ ?_
          · exact ⟨_, _, _, _, _, _, _, _, _, _, _, rfl, Below_drewN (Below.refl _ _) 1, nofun, nofun, nofun, nofun, nofun, nofun, nofun, nofun, nofun, nofun, nofun, nofun, nofun, nofun, nofun⟩
          · refine ⟨?_, ?_, ?_, ?_, ?_, ?_, ?_, ?_, ?_, ?_, ?_, trivial⟩
            all_goals
              intro d a W K hd hdep hJ hK
              obtain ⟨u50, u51, u52, u53, u54, u55, u56, u57, u58, u59, u8, rfl, hj⟩ := hJ
              have HJ := Lib.hid hj
              have HK := Lib.hid hK
              have HD := Lib.hid hd
              have HDEP := Lib.hid hdep
              clear hj hK hd hdep
            · go_simp
              exact HK.out _ _ ⟨_, _, _, _, _, _, _, _, _, _, _, rfl, HJ.out.step0 HD.out⟩
            · go_simp
              exact HK.out _ _ ⟨_, _, _, _, _, _, _, _, _, _, _, rfl, { HJ.out with c1 := fun _ => rfl }⟩
            · go_simp
              exact HK.out _ _ ⟨_, _, _, _, _, _, _, _, _, _, _, rfl, { HJ.out with c2 := fun _ => rfl }⟩
            · obtain rfl := HJ.out.c1 (HDEP.out { on := 1, ground := Ground.data } (by simp) rfl)
              obtain rfl := HJ.out.c2 (HDEP.out { on := 2, ground := Ground.data } (by simp) rfl)
              go_simp
              exact HK.out _ _ ⟨_, _, _, _, _, _, _, _, _, _, _, rfl, { HJ.out with o4 := fun e => ⟨(HJ.out.o4 e).1, rfl⟩, c3 := fun _ => ⟨(some ⟨b, o, none⟩), c, (by rw [htl]), (by intro h; cases h), HTW.out⟩ }⟩
            · obtain ⟨A', c', rfl, hz, hsl⟩ := HJ.out.c3 (HDEP.out { on := 3, ground := Ground.data } (by simp) rfl)
              refine step_enK (w0 := w3) (by rfl) rfl (HJ.out.c0 (HDEP.out { on := 0, ground := Ground.data } (by simp) rfl) HD.out) HJ.out.b (by first | omega | (simp; done) | (simp; omega)) (hsl.below HJ.out.b) hz rfl rfl rfl ?_
              intro v' W' hown hb hg hk
              exact HK.out _ _ ⟨_, _, _, _, _, _, _, _, _, _, _, rfl, HJ.out.step4 (HDEP.out { on := 0, ground := Ground.data } (by simp) rfl) (HDEP.out { on := 3, ground := Ground.data } (by simp) rfl) HD.out hown hb hg hk⟩
            · have hb5 := HBOXW.out.below HJ.out.b
              have hb50 := hb5.1
              have hb51 := hb5.2
              clear hb5
              go_simp
              exact HK.out _ _ ⟨_, _, _, _, _, _, _, _, _, _, _, rfl, { HJ.out with c5 := fun _ => rfl }⟩
            · obtain rfl := HJ.out.c5 (HDEP.out { on := 5, ground := Ground.data } (by simp) rfl)
              go_simp
              exact HK.out _ _ ⟨_, _, _, _, _, _, _, _, _, _, _, rfl, HJ.out.step6 HD.out⟩
            · obtain ⟨g, rfl, hgl, hsl, _, hap⟩ := HJ.out.c6 (HDEP.out { on := 6, ground := Ground.data } (by simp) rfl) HD.out
              have hap := hap (HDEP.out { on := 4, ground := Ground.data } (by simp) rfl)
              refine step_enK (w0 := w3) (m := [(t, a9)]) (by rfl) rfl (HJ.out.c4 (HDEP.out { on := 4, ground := Ground.data } (by simp) rfl) HD.out) HJ.out.b (by first | omega | (simp; done) | (simp; omega)) hsl (by intro h; cases h) rfl rfl rfl ?_
              intro v' W' hown hb hg hk
              exact HK.out _ _ ⟨_, _, _, _, _, _, _, _, _, _, _, rfl, HJ.out.step7 (HDEP.out { on := 4, ground := Ground.data } (by simp) rfl) (HDEP.out { on := 6, ground := Ground.data } (by simp) rfl) HD.out hown hb⟩
            · go_simp
              exact HK.out _ _ ⟨_, _, _, _, _, _, _, _, _, _, _, rfl, { HJ.out with o9 := fun e => ⟨(HJ.out.o9 e).1, rfl⟩, c8 := fun _ => by rw [HMN.out] }⟩
            · obtain rfl := HJ.out.c8 (HDEP.out { on := 8, ground := Ground.data } (by simp) rfl)
              refine step_enK (w0 := w3) (by rfl) rfl (HJ.out.c7 (HDEP.out { on := 7, ground := Ground.data } (by simp) rfl) HD.out) HJ.out.b (by first | omega | (simp; done) | (simp; omega)) (HMW.out.below HJ.out.b) HCZM.out rfl rfl rfl ?_
              intro v' W' hown hb hg hk
              exact HK.out _ _ ⟨_, _, _, _, _, _, _, _, _, _, _, rfl, HJ.out.step9 (HDEP.out { on := 7, ground := Ground.data } (by simp) rfl) (HDEP.out { on := 8, ground := Ground.data } (by simp) rfl) HD.out hown hb⟩
            · go_simp
              exact HK.out _ _ ⟨_, _, _, _, _, _, _, _, _, _, _, rfl, { HJ.out with o10 := fun _ => (HDEP.out { on := 9, ground := Ground.data } (by simp) rfl), c10 := fun _ => rfl }⟩
          · intro d a W hd hJ
            obtain ⟨u50, u51, u52, u53, u54, u55, u56, u57, u58, u59, u8, rfl, hj⟩ := hJ
            obtain rfl := hj.c10 (hd 10 (by decide))
            have ho9 := hj.c9 (hd 9 (by decide))
            have hb9 := hj.b
            clear hj hd
            try simp only at ho9
            rw [HIX.out] at ho9
            have HB9 := Lib.hid (Below_then HBW.out hb9 (Nat.le_refl _))
            have HW9 := Lib.hid (ho9.mono HBW.out.size)
            clear ho9 hb9 HIX
            obtain ⟨X9, d9, rfl, hle9, hs9, _⟩ := HW9.out.sl
            have HS9 := Lib.hid hs9
            clear hs9
            cases hvi : entsV (insE l (t, a9))
            · have hp := HPN.out hvi
              have hEI := fun w h => HEI.out X9 d9 w h
              rw [hvi] at hEI
              have HEX := Lib.hid hEI
              have HR := Lib.hid hp
              clear hvi hp hEI
              go_wp2_with fail
              refine (HEX.out _ HS9.out).mono ?_
              rintro e w10 ⟨rfl, hb⟩
              replace HB9 := Lib.hid (Below_then HB9.out hb (Nat.le_refl _))
              have HSL := Lib.hid (HS.out.below HB9.out)
              clear hb
              go_wp2_with (at_builtin; refine app_enN (w0 := w10) (l := []) rfl rfl (Own.made (Nat.le_refl _)) ((Below.refl _ _).alloc (Nat.le_refl _) _) (by first | omega | (simp; done) | (simp; omega)) (HSL.out.alloc _) HCZ.out (by rfl) (by rfl) ?_; intro v5 w5 hown5 hb5 hg5; rw [List.nil_append] at hown5; have HW5 := Lib.hid hown5; have HB5 := Lib.hid hb5; clear hown5 hb5 hg5)
              go_ret2
              rw [HR.out]
              exact ⟨_, rfl, HW5.out.mono HB9.out.size, Below_then HB9.out HB5.out (Nat.le_refl _)⟩
            · have hp := HPY.out hvi
              have hEI := fun w h => HEI.out X9 d9 w h
              rw [hvi] at hEI
              have HEX := Lib.hid hEI
              have HR := Lib.hid hp
              clear hvi hp hEI
              go_wp2_with fail
              refine (HEX.out _ HS9.out).mono ?_
              rintro e w10 ⟨rfl, hb⟩
              replace HB9 := Lib.hid (Below_then HB9.out hb (Nat.le_refl _))
              replace HW9 := Lib.hid (HW9.out.below hb)
              clear hb
              go_wp2
              go_ret2
              rw [HR.out]
              exact ⟨_, rfl, HW9.out, HB9.out⟩
end Go.Proofs.YtokelopllbaikaaGreatDoor
