/- FnClashOf, walked. -/
import Derived.Test.YthbdcmaloojngaaDr4
import Derived.Test.YthbdcmaloojngaaNm
import Derived.Test.YthbdcmaloojngaaNm2
import Derived.Test.YthbdcmaloojngaaNp
import Derived.Test.YthbdcmaloojngaaAv
import Derived.Test.YthbdcmaloojngaaFar
import Derived.Test.YthbdcmaloojngaaL1
import Derived.Deep.RegionHeld3
set_option linter.unusedVariables false
namespace Go.Proofs.Ythbdcmaloojngaa
open Go.RowKit

theorem sl_take {w : World} {A : Option Addr} {l : List ByteArray} (h : Sl w encS 1 A l) (m : Nat) : Sl w encS 1 A (l.take m) := by
  intro hn
  obtain ⟨b, o, e, hc⟩ := h (by simp at hn; omega)
  refine ⟨b, o, e, fun j u hu => hc j u ?_⟩
  rw [← List.take_append_drop m l, flat_append, List.getElem?_append_left (List.getElem?_eq_some_iff.1 hu).1]
  exact hu
theorem step_appW {P : Program} {α : Type} {enc : α → List Value} {ops : Array Oper} {o : Oper} {a : Act} {K : Act → World → Prop} {Q : Exit → Act → World → Prop} {E' : Prop} {w0 wr : World} {B base size bytes : Nat} {t E : TypeId} {i : TypeInfo} {z : Value} {v : Value} {l m : List α} {A : Option Addr} {c : Nat}
    (ht : P.underlying t = some (.slice E)) (hi : P.info? E = some i) (hz : i.zero = some z) (hsize : i.size = size) (hby : i.bytes = bytes) (hzs : z.cells.size = size) (hsz : 0 < size) (hb200 : bytes ≤ 256)
    (hw : Region.wanted o (yielded ops a.tmps) = true) (s x : Operand) (ho : o.op = .call { callee := .builtin .append, args := #[s, x], argTypes := #[t, t] })
    (hown : Own wr base E size enc v l) (hb : Below B w0 wr) (hB : B ≤ base) (hbase : base ≤ wr.heap.size) (hn : l.length + m.length ≤ 33554432)
    (hsl : Sl wr enc size A m) (hcz : A = none → c = 0) (hce : ∀ y, (enc y).length = size) (h1 : ∀ y, ∀ u ∈ enc y, u.oneCell' = true)
    (hs : a.eval s = v) (hx : a.eval x = .slice A m.length c)
    (h : ∀ v' w', Own w' base E size enc v' (l ++ m) → Below B w0 w' → Grew v wr w' → K (a.put o.dst v') w') :
    if Region.wanted o (yielded ops a.tmps) = true then Oper.wp P o a wr K Q else E' := by
  rw [if_pos hw]
  cases A with
  | none =>
    have hm : m = [] := by
      cases m with
      | nil => rfl
      | cons y r => obtain ⟨b, o, e, _⟩ := hsl (by simp); cases e
    subst hm
    rw [hcz rfl] at hx
    have hrun := run_append_owned_none (P := P) (w := wr) base t o.type E i size ht hi v l.length (flat enc l) hown
    have hK := h v wr (by rw [List.append_nil]; exact hown) hb (Grew.refl _ _)
    simp at hx
    unfold Oper.wp
    simp [execOp, ho, resolve, invoke, builtin, hs, hx, hrun, Result.andThen]
    exact hK
  | some ad =>
    refine wp_append_own wr s x t ho base E i z size bytes ht hi hz hsize hby hzs hsz v l.length (flat enc l) hs hown ad m.length c (flat enc m) hx (flat_length hce m) ?_ ?_ ?_ ?_ hbase ?_
    · intro j u hu
      have hpos : 0 < m.length := by
        have hlt := (List.getElem?_eq_some_iff.1 hu).1
        rw [flat_length hce] at hlt
        cases m with
        | nil => simp at hlt
        | cons y r => simp
      obtain ⟨b, o', e, hc⟩ := hsl hpos
      injection e with e
      subst e
      have hadd : (⟨b, o', none⟩ : Addr).add j = ⟨b, o' + j, none⟩ := by unfold Addr.add; split <;> simp_all
      rw [hadd]; exact hc j u hu
    · intro u hu
      unfold flat at hu
      obtain ⟨y, _, hy⟩ := List.mem_flatMap.1 hu
      exact h1 y u hy
    · unfold maxLen; omega
    · have := Nat.mul_le_mul_left (l.length + m.length) hb200; omega
    · intro v' w' hown' hg _
      refine h v' w' ?_ (hb.grown hg (Nat.le_trans hB hbase) (fun k hk => Nat.le_trans hB (World.ownsRow.lt hown k hk).1)) hg
      show w'.ownsRow base E size v' (l ++ m).length (flat enc (l ++ m))
      rw [flat_append, List.length_append]; exact hown'
abbrev rowS (y : ByteArray) : Obj := .cells #[.string y] 9
abbrev madeS : Obj := .cells #[] 9
section
variable {ops : Array Oper} {o : Oper} {a : Act} {K : Act → World → Prop} {Q : Exit → Act → World → Prop} {E' : Prop} {w1 : World} {l : List ByteArray} {A : Option Addr} {c : Nat} {y : ByteArray} {s x : Operand}
theorem step_strN {l m : List ByteArray} {w0 wr : World} {v : Value} {A : Option Addr} {c : Nat} {s x : Operand} (hw : Region.wanted o (yielded ops a.tmps) = true) (ho : o.op = .call { callee := .builtin .append, args := #[s, x], argTypes := #[23, 23] })
    (hown : Own wr w0.heap.size 9 1 encS v l) (hb : Below w0.heap.size w0 wr) (hn : l.length + m.length ≤ 33554432) (hsl : Sl wr encS 1 A m) (hcz : A = none → c = 0)
    (hs : a.eval s = v) (hx : a.eval x = .slice A m.length c)
    (h : ∀ v' w', Own w' w0.heap.size 9 1 encS v' (l ++ m) → Below w0.heap.size w0 w' → Grew v wr w' → K (a.put o.dst v') w') : if Region.wanted o (yielded ops a.tmps) = true then Oper.wp Try.prog o a wr K Q else E' := by
  obtain ⟨i0, hi0, hz0, hz1, hz2⟩ := info_parts str_info
  exact step_appW Try.underlying23 hi0 hz0 hz1 hz2 rfl (by decide) (by decide) hw s x ho hown hb (Nat.le_refl _) hb.size hn hsl hcz (fun _ => rfl) oneS hs hx h
def StrAt (w : World) (g : Nat) (y : ByteArray) : Prop := w.cell? ⟨g, 0, none⟩ = some (.string y)
theorem StrAt.new (w : World) (y : ByteArray) : StrAt (w.alloc (rowS y)) w.heap.size y := new_cell rfl
theorem StrAt.sl {w : World} {g : Nat} {y : ByteArray} (h : StrAt w g y) : Sl w encS 1 (some ⟨g, 0, none⟩) [y] := by
  intro _
  refine ⟨g, 0, rfl, fun j u hu => ?_⟩
  have hj : j = 0 := by have := (List.getElem?_eq_some_iff.1 hu).1; simp [flat, encS] at this; omega
  subst hj; simp [flat, encS] at hu; rw [← hu]; exact h
theorem step_str_a (hsl : Sl w1 encS 1 A l) (hcz : A = none → c = 0) (hl : l.length ≤ 16777216) (hw : Region.wanted o (yielded ops a.tmps) = true) (ho : o.op = .call { callee := .builtin .append, args := #[s, x], argTypes := #[23, 23] })
    (hs : a.eval s = .slice (some ⟨w1.heap.size, 0, none⟩) 0 0) (hx : a.eval x = .slice A l.length c)
    (h : ∀ v' w', Own w' w1.heap.size 9 1 encS v' l → Below w1.heap.size w1 w' → K (a.put o.dst v') w') : if Region.wanted o (yielded ops a.tmps) = true then Oper.wp Try.prog o a (w1.alloc madeS).drew K Q else E' :=
  step_strN (w0 := w1) (l := []) hw ho ((Own.made (w := w1) (Nat.le_refl _)).drew) (((Below.refl _ _).alloc (Nat.le_refl _) _).drew) (by simp; omega) ((hsl.alloc _).drew) hcz hs hx fun v' w' h1 h2 _ => h v' w' h1 h2
theorem step_str_b (hsl : Sl w1 encS 1 A l) (hcz : A = none → c = 0) (hl : l.length ≤ 16777216) (hw : Region.wanted o (yielded ops a.tmps) = true) (ho : o.op = .call { callee := .builtin .append, args := #[s, x], argTypes := #[23, 23] })
    (hs : a.eval s = .slice (some ⟨w1.heap.size, 0, none⟩) 0 0) (hx : a.eval x = .slice A l.length c)
    (h : ∀ v' w', Own w' w1.heap.size 9 1 encS v' l → Below w1.heap.size w1 w' → StrAt w' (w1.heap.size + 1) y → K (a.put o.dst v') w') : if Region.wanted o (yielded ops a.tmps) = true then Oper.wp Try.prog o a ((w1.alloc madeS).alloc (rowS y)).drew K Q else E' := by
  have hz : w1.heap.size ≤ (w1.alloc madeS).heap.size := by simp
  have hr := StrAt.new (w1.alloc madeS) y
  have hzz : (w1.alloc madeS).heap.size = w1.heap.size + 1 := by simp
  rw [hzz] at hr
  exact step_strN (w0 := w1) (l := []) hw ho (((Own.made (w := w1) (Nat.le_refl _)).alloc _).drew) ((((Below.refl _ _).alloc (Nat.le_refl _) _).alloc hz _).drew) (by simp; omega) (((hsl.alloc _).alloc _).drew) hcz hs hx fun v' w' h1 h2 h3 => h v' w' h1 h2 (Grew.cell (w := ((w1.alloc madeS).alloc (rowS y)).drew) h3 (by simp [Value.ownBlock]) hr)
theorem step_str_c (hsl : Sl w1 encS 1 A l) (hcz : A = none → c = 0) (hl : l.length ≤ 16777216) (hw : Region.wanted o (yielded ops a.tmps) = true) (ho : o.op = .call { callee := .builtin .append, args := #[s, x], argTypes := #[23, 23] })
    (hs : a.eval s = .slice (some ⟨w1.heap.size + 1, 0, none⟩) 0 0) (hx : a.eval x = .slice A l.length c)
    (h : ∀ v' w', Own w' w1.heap.size 9 1 encS v' l → Below w1.heap.size w1 w' → StrAt w' w1.heap.size y → K (a.put o.dst v') w') : if Region.wanted o (yielded ops a.tmps) = true then Oper.wp Try.prog o a ((w1.alloc (rowS y)).alloc madeS).drew K Q else E' := by
  have hz : w1.heap.size ≤ (w1.alloc (rowS y)).heap.size := by simp
  have hr : StrAt ((w1.alloc (rowS y)).alloc madeS) w1.heap.size y := cell_alloc (StrAt.new w1 y)
  have hm := (Own.made (enc := encS) (E := 9) (size := 1) (w := w1.alloc (rowS y)) hz).drew
  have hzz : (w1.alloc (rowS y)).heap.size = w1.heap.size + 1 := by simp
  rw [hzz] at hm
  exact step_strN (w0 := w1) (l := []) hw ho hm ((((Below.refl _ _).alloc (Nat.le_refl _) _).alloc hz _).drew) (by simp; omega) (((hsl.alloc _).alloc _).drew) hcz hs hx fun v' w' h1 h2 h3 => h v' w' h1 h2 (Grew.cell (w := ((w1.alloc (rowS y)).alloc madeS).drew) h3 (by simp [Value.ownBlock]) hr)
theorem step_str_d {w0 W : World} {v : Value} {g : Nat} (hown : Own W w0.heap.size 9 1 encS v l) (hb : Below w0.heap.size w0 W) (hr : StrAt W g y) (hl : l.length ≤ 16777216) (hw : Region.wanted o (yielded ops a.tmps) = true) (ho : o.op = .call { callee := .builtin .append, args := #[s, x], argTypes := #[23, 23] })
    (hs : a.eval s = v) (hx : a.eval x = .slice (some ⟨g, 0, none⟩) 1 1)
    (h : ∀ v' w', Own w' w0.heap.size 9 1 encS v' (l ++ [y]) → Below w0.heap.size w0 w' → K (a.put o.dst v') w') : if Region.wanted o (yielded ops a.tmps) = true then Oper.wp Try.prog o a W K Q else E' :=
  step_strN (l := l) (m := [y]) hw ho hown hb (by simp; omega) hr.sl (by intro h; cases h) hs hx fun v' w' h1 h2 _ => h v' w' h1 h2
end
set_option maxHeartbeats 4000000 in
set_option maxRecDepth 100000 in
theorem wFnClashOf (A : Option Addr) (n c : Nat) (w : World) (hb : BytesIn w A n c) : Calls Try.prog 3 #[.slice A n c] w (LawOk w) := by
  by_cases h : n ≤ 1048576
  case neg =>
    go_enter Try.func3, Try.ntmps3
    go_wp2
    go_ret
    exact ⟨rfl, Below.refl _ _⟩
  have HBI := Lib.hid hb
  clear hb
  go_enter Try.func3, Try.ntmps3
  go_wp2_with fail
  refine (DrawClashOf_any _ _ _ _ HBI.out).mono ?_
  rintro e w1 ⟨v1, ss, rfl, hown1, hf1, hb1⟩
  obtain ⟨A1, c1, rfl, hle1, hs1, _⟩ := hown1.sl
  have HC1 := Lib.hid hown1.cz
  have HS1 := Lib.hid hs1
  have HB1 := Lib.hid hb1
  have hl1 := hf1.1
  have HF1 := Lib.hid (show ∀ s ∈ ss, s.size ≤ 16777216 from fun s hs => Nat.le_trans (hf1.2 s hs) (by omega))
  clear hown1 hs1 hb1 hf1
  have HI := Lib.hid (fun w h => iClashOf_any A1 c1 ss w h (by omega) HF1.out)
  have HS := Lib.hid (fun w h => sClashOf_any A1 c1 ss w h (by omega) HF1.out)
  have hlo := clashOf_lo ss
  by_cases hD : 0 ≤ clashOf ss
  · obtain ⟨m, hm⟩ := Int.eq_ofNat_of_zero_le hD
    obtain ⟨hmn, ⟨k0, hk0, hfe⟩, htk⟩ := clashOf_first hm
    rw [hm] at HI HS
    have HTK := Lib.hid htk
    clear hlo hD hm htk
    go_wp2_with fail
    refine (HI.out _ HS1.out).mono ?_
    rintro e w2 ⟨rfl, hb2⟩
    have HS2 := Lib.hid (HS1.out.below hb2)
    have HB2 := Lib.hid (Below_then HB1.out hb2 (Nat.le_refl _))
    clear hb2
    go_wp2_with fail
    refine (HS.out _ HS2.out).mono ?_
    rintro e w3 ⟨rfl, hb3⟩
    have HS3 := Lib.hid (HS2.out.below hb3)
    have HB3 := Lib.hid (Below_then HB2.out hb3 (Nat.le_refl _))
    clear hb3
    have g1 : (0 : Int) ≤ (m : Int) := by omega
    have g2 : (m : Int) < (ss.length : Int) := by omega
    go_wp2_with fail
    go_loopw [5, 6] (fun v i wr => ∃ (k : Nat) (f : Bool), k ≤ m ∧ i = .int .i64 k ∧ v = .bool f ∧ Hid (k0 < k → f = true) ∧ Hid (Below w3.heap.size w3 wr)) (fun _ i _ => m - (intOf i).toNat)
    case atStart => exact ⟨0, false, Nat.zero_le _, rfl, rfl, (by intro h; omega), Below.refl _ _⟩
    case round =>
      obtain ⟨k, f, hk, rfl, rfl, HH, HBW⟩ := hrel
      by_cases hlt : k < m
      · cases f
        · obtain ⟨b, o, rfl, hc⟩ := (HS3.out.below HBW.out).getS (k := k) (by omega)
          obtain ⟨b', o', e, hc'⟩ := (HS3.out.below HBW.out).getS hmn
          have hbb : b' = b ∧ o' = o := by injection e with e; injection e with e1 e3; exact ⟨e1.symm, e3.symm⟩
          obtain ⟨rfl, rfl⟩ := hbb
          clear e
          have hu : ss[k].size ≤ 16777216 := HF1.out _ (by simp)
          have hz : ss[m].size ≤ 16777216 := HF1.out _ (by simp)
          have hkk : k = k0 → mk (foldName (bs ss[k])) = mk (foldName (bs ss[m])) := by rintro rfl; rw [hfe]
          replace hc := far_cell hc
          replace hc' := far_cell hc'
          clear hfe
          generalize ss[k] = u at *
          generalize ss[m] = z at *
          have HKK := Lib.hid hkk
          clear hkk
          go_wp2
          refine wp_region_far (by kernel_rfl) (by kernel_rfl) ?_
          repeat (go_big_quiet_step ((go_at_call 11; exact far_same (iFoldName_any _ _ (by assumption)))))
          refine wpQuiet_nil ?_
          intro _ hwF
          obtain ⟨pF, hwF⟩ := hwF
          subst hwF
          have HB5 := Lib.hid (Below_then HBW.out (far_below _ pF) (Nat.le_refl _))
          generalize far _ pF = wF at *
          clear hc hc'
          go_wp2
          go_roundw
          case rel => exact ⟨k + 1, _, by omega, by go_num, rfl, (by
            intro h
            by_cases e : k = k0
            · rw [HKK.out e]; simp
            · exact absurd (HH.out (by omega)) (by simp)), HB5.out⟩
          case measure => simp [intOf]; omega
        · go_wp2
          refine wp_region_far (by kernel_rfl) (by kernel_rfl) ?_
          repeat (go_big_quiet_step (fail))
          refine wpQuiet_nil ?_
          intro _ hwF
          obtain ⟨pF, hwF⟩ := hwF
          subst hwF
          have HB5 := Lib.hid (Below_then HBW.out (far_below _ pF) (Nat.le_refl _))
          generalize far _ pF = wF at *
          go_wp2
          go_roundw
          case rel => exact ⟨k + 1, true, by omega, by go_num, rfl, (fun _ => rfl), HB5.out⟩
          case measure => simp [intOf]; omega
      · have hft : f = true := HH.out (by omega)
        subst hft
        have hmt : (ss.take m).length = m := by simp; omega
        have HIT := Lib.hid (fun c w h => iClashOf_any A1 c (ss.take m) w h (by omega) (fun s hs => HF1.out s (List.mem_of_mem_take hs)))
        rw [HTK.out, hmt] at HIT
        have HSW := Lib.hid (HS3.out.below HBW.out)
        have HBB := Lib.hid (Below_then HB3.out HBW.out (Nat.le_refl _))
        go_wp2_with fail
        refine (HIT.out _ _ (sl_take HSW.out m)).mono ?_
        rintro e w5 ⟨rfl, hb5⟩
        have HB5 := Lib.hid (Below_then HBB.out hb5 (Nat.le_refl _))
        clear hb5
        go_wp2
        go_ret
        exact ⟨rfl, HB5.out⟩
  · have hm : clashOf ss = -1 := by omega
    rw [hm] at HI HS
    have HM := Lib.hid hm
    clear hlo hD hm
    go_wp2_with fail
    refine (HI.out _ HS1.out).mono ?_
    rintro e w2 ⟨rfl, hb2⟩
    have HS2 := Lib.hid (HS1.out.below hb2)
    have HB2 := Lib.hid (Below_then HB1.out hb2 (Nat.le_refl _))
    clear hb2
    go_wp2_with fail
    refine (HS.out _ HS2.out).mono ?_
    rintro e w3 ⟨rfl, hb3⟩
    have HS3 := Lib.hid (HS2.out.below hb3)
    have HB3 := Lib.hid (Below_then HB2.out hb3 (Nat.le_refl _))
    clear hb3
    go_wp2_with fail
    go_loopw [7, 8] (fun v i wr => ∃ (k : Nat) (f : Bool), k ≤ ss.length ∧ i = .int .i64 k ∧ v = .bool f ∧ Hid (f = true → 0 < ss.length ∧ ∀ j (h : j < ss.length), j < k → (foldName (bs ss[j])).isEmpty = false) ∧ Hid (Below w3.heap.size w3 wr)) (fun _ i _ => ss.length - (intOf i).toNat)
    case atStart => exact ⟨0, _, Nat.zero_le _, rfl, rfl, (fun h => ⟨by simpa using h, fun j _ h => by omega⟩), Below.refl _ _⟩
    case round =>
      obtain ⟨k, f, hk, rfl, rfl, HH, HBW⟩ := hrel
      by_cases hlt : k < ss.length
      · cases f
        · go_wp2
          go_roundw
          case rel => exact ⟨k + 1, false, by omega, by go_num, rfl, (fun h => by cases h), HBW.out⟩
          case measure => simp [intOf]; omega
        · obtain ⟨b, o, rfl, hc⟩ := (HS3.out.below HBW.out).getS (k := k) hlt
          have hu : ss[k].size ≤ 16777216 := HF1.out _ (by simp)
          have hall := HH.out rfl
          have hkk : ∀ z : Bool, (z = true → (foldName (bs ss[k])).isEmpty = false) → (z = true → 0 < ss.length ∧ ∀ j (h : j < ss.length), j < k + 1 → (foldName (bs ss[j])).isEmpty = false) := by
            intro z hz h
            refine ⟨hall.1, fun j hj hjk => ?_⟩
            by_cases e : j = k
            · subst e; exact hz h
            · exact hall.2 j hj (by omega)
          have HKK := Lib.hid hkk
          clear hkk hall
          generalize ss[k] = u at *
          go_wp2_with (go_at_call 11; refine (iFoldName_any _ _ (by assumption)).mono ?_; rintro e w' ⟨rfl, rfl⟩)
          go_roundw
          case rel => exact ⟨k + 1, _, by omega, by go_num, rfl, HKK.out _ (by intro h; cases hf : foldName (bs u) with | nil => rw [hf] at h; simp [mk] at h | cons x r => rfl), HBW.out⟩
          case measure => simp [intOf]; omega
      · have HSW := Lib.hid (HS3.out.below HBW.out)
        have HBB := Lib.hid (Below_then HB3.out HBW.out (Nat.le_refl _))
        cases f
        · go_wp2
          refine wp_region_far (by kernel_rfl) (by kernel_rfl) ?_
          repeat (go_big_quiet_step ((go_at_call 12; exact far_same (alive_any _))))
          refine wpQuiet_nil ?_
          intro _ hwF
          obtain ⟨pF, hwF⟩ := hwF
          subst hwF
          have HB5 := Lib.hid (Below_then HBB.out (far_below _ pF) (Nat.le_refl _))
          generalize far _ pF = wF at *
          go_wp2
          go_ret
          exact ⟨rfl, HB5.out⟩
        · obtain ⟨hpos, hall⟩ := HH.out rfl
          have hl0 : ss.length - 1 < ss.length := by omega
          obtain ⟨b, o, rfl, hc⟩ := HSW.out.getS hl0
          have hxe := hall (ss.length - 1) hl0 (by omega)
          have hmem : ss[ss.length - 1] ∈ ss := by simp
          have haf : allFold ss = true := by
            unfold allFold
            rw [List.all_eq_true]
            intro s hs
            obtain ⟨j, hj, rfl⟩ := List.mem_iff_getElem.1 hs
            rw [hall j hj (by omega)]; rfl
          have hmore := clashOf_more haf HM.out hxe
          generalize ss[ss.length - 1] = x at *
          rw [if_pos (show hasS (folds ss) (mk (foldName (bs x))) = true from hasS_iff.2 ⟨mk (foldName (bs x)), (by unfold folds; exact List.mem_map.2 ⟨x, hmem, rfl⟩), rfl⟩)] at hmore
          have hlen : (ss ++ [x]).length = ss.length + 1 := by simp
          have hCL := fun X d w h => iClashOf_any X d (ss ++ [x]) w h (by omega) (fun s hs => by
            rw [List.mem_append, List.mem_singleton] at hs
            rcases hs with hs | rfl
            · exact HF1.out s hs
            · exact HF1.out _ hmem)
          rw [hmore, hlen] at hCL
          have HCL := Lib.hid hCL
          have HLEN := Lib.hid hlen
          have HL := Lib.hid (show ss.length ≤ 16777216 by omega)
          clear hCL hlen hmore haf hmem hxe hall
          have g1 : (0 : Int) ≤ (ss.length : Int) - 1 := by omega
          have g2 : (ss.length : Int) - 1 < (ss.length : Int) := by omega
          have g5 : (1 : Int) ≤ (ss.length : Int) := by omega
          have g6 : 0 < ss.length := hpos
          have g3 : IntKind.i64.wrap ((ss.length : Int) - 1) = (ss.length : Int) - 1 := IntWalk.i64_in _ (by omega)
          have g4 : ((ss.length : Int) - 1).toNat = ss.length - 1 := by omega
          have HK := Lib.hid hc
          have HD := Lib.hid (Below.refl wr.heap.size wr).drew
          have HD1 := Lib.hid ((Below.refl wr.heap.size wr).alloc (Nat.le_refl _) madeS).drew
          have HZ := Lib.hid (show wr.heap.size < (wr.alloc madeS).heap.size by simp)
          have HZ2 := Lib.hid (show wr.heap.size < (wr.alloc (rowS x)).heap.size by simp)
          have HA := Lib.hid (fun w => alive_any w)
          go_wp2_with fail
          first
            | go_region_held3 (fun w' => w'.cell? ⟨b, o + (ss.length - 1), none⟩ = some (.string x))
                (first | assumption | exact HK.out | exact Below_cells HD.out _ _ _ HK.out | exact Below_cells HD1.out _ _ _ HK.out | exact Below_cells HB4.out _ _ _ HK.out | exact Below_cells HBW3.out _ _ _ HK.out | exact Below_cells HBR.out _ _ _ HK.out | exact Below_cells HBW2.out _ _ _ HK.out | exact Below_cells (((Below.refl _ _).alloc (Nat.le_refl _) _).drew) _ _ _ HK.out | exact Below_cells ((((Below.refl _ _).alloc (Nat.le_refl _) _).alloc (Nat.le_of_lt HZ.out) _).drew) _ _ _ HK.out | exact Below_cells ((((Below.refl _ _).alloc (Nat.le_refl _) _).alloc (Nat.le_of_lt HZ2.out) _).drew) _ _ _ HK.out)
                ((first
                  | (refine step_str_a HSW.out HC1.out HL.out (by rfl) rfl (by rfl) (by rfl) ?_; intro v2 w2 hown2 hb2; have HW2 := Lib.hid (hown2.alloc (rowS x)); have HBW2 := Lib.hid hb2; have HBR := Lib.hid (hb2.alloc hb2.size (rowS x)); have HR := Lib.hid (StrAt.new w2 x); clear hown2 hb2)
                  | (refine step_str_b (y := x) HSW.out HC1.out HL.out (by rfl) rfl (by rfl) (by rfl) ?_; intro v2 w2 hown2 hb2 hr2; have HW2 := Lib.hid hown2; have HBW2 := Lib.hid hb2; have HBR := HBW2; have HR := Lib.hid hr2; clear hown2 hb2 hr2)
                  | (refine step_str_c (y := x) HSW.out HC1.out HL.out (by rfl) rfl (by rfl) (by rfl) ?_; intro v2 w2 hown2 hb2 hr2; have HW2 := Lib.hid hown2; have HBW2 := Lib.hid hb2; have HBR := HBW2; have HR := Lib.hid hr2; clear hown2 hb2 hr2)
                  | (refine step_str_d HW2.out HBR.out HR.out HL.out (by rfl) rfl (by rfl) (by rfl) ?_; intro v3 w3' hown3 hb3; have HW3 := Lib.hid hown3; have HBW3 := Lib.hid hb3; obtain ⟨X, d, ev, _, _, _⟩ := hown3.sl; rw [HLEN.out] at ev; subst ev; clear hown3 hb3)
                  | (go_at_call 9; refine (HCL.out _ _ _ HW3.out.sl').mono ?_; rintro e w4 ⟨rfl, hb4⟩; have HB4 := Lib.hid (Below_then HBW3.out hb4 (Nat.le_refl _)); clear hb4)
                  | (go_at_call 12; refine (HA.out _).mono ?_; rintro e w5 ⟨rfl, rfl⟩)))
            | fail
          all_goals
            have HBB4 := Lib.hid (Below_then HBB.out HB4.out (Nat.le_refl _))
            go_wp2
            go_ret
            exact ⟨rfl, HBB4.out⟩
end Go.Proofs.Ythbdcmaloojngaa
