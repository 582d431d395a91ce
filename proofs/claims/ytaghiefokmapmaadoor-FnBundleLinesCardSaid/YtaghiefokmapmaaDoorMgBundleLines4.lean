/- Written by merge.py: Ps, Rpc, Rb, En, Be, Ek, S0, Ne, Ve, STag, Vt, SVersion, Av, R3, Ss, Ev, De. -/
import Derived.Maps.AppendAt
import Derived.Shelf.Abstract
import Derived.Laws.StructEq
import Derived.Deep.RegionHeld3
import Derived.Test.YtaghiefokmapmaaDoorMgBundleLines3
/- PutText of the reference, walked. Written by gen_ps.py. -/
set_option linter.unusedVariables false
namespace Go.Proofs.YtaghiefokmapmaaDoor
open Go.RowKit
attribute [local go_sem] mk_toList

section
variable {ops : Array Oper} {o : Oper} {a : Act} {K : Act → World → Prop} {Q : Exit → Act → World → Prop} {E' : Prop} {w0 wr : World} {v : Value}
set_option maxRecDepth 100000 in
theorem step_pcK {l m : List Pc} {A : Option Addr} {c : Nat} {s x : Operand} (hgd : o.guard = none) (ho : o.op = .call { callee := .builtin .append, args := #[s, x], argTypes := #[23, 23] })
    (hown : Own wr w0.heap.size 44 2 encP v l) (hb : Below w0.heap.size w0 wr) (hn : l.length + m.length ≤ 33554432) (hsl : Sl wr encP 2 A m) (hcz : A = none → c = 0)
    (hs : a.eval s = v) (hx : a.eval x = .slice A m.length c)
    (h : ∀ v' w', Own w' w0.heap.size 44 2 encP v' (l ++ m) → Below w0.heap.size w0 w' → Grew v wr w' → Kin v wr v' → K (a.put o.dst v') w') : if Region.wanted o (yielded ops a.tmps) = true then Oper.wp Tryd.prog o a wr K Q else E' := by
  obtain ⟨i0, hi0, hz0, hz1, hz2⟩ := info_parts pc_info
  have hw : Region.wanted o (yielded ops a.tmps) = true := by simp [Region.wanted, hgd]
  rw [if_pos hw]
  cases A with
  | none =>
    have hm : m = [] := by
      cases m with
      | nil => rfl
      | cons y r => obtain ⟨b, o, e, _⟩ := hsl (by simp); cases e
    subst hm
    rw [hcz rfl] at hx
    have hrun := run_append_owned_none (P := Tryd.prog) (w := wr) w0.heap.size 23 o.type 44 i0 2 Tryd.underlying23 hi0 v l.length (flat encP l) hown
    have hK := h v wr (by rw [List.append_nil]; exact hown) hb (Grew.refl _ _) (fun b _ h => h)
    simp at hx
    unfold Oper.wp
    simp [execOp, ho, resolve, invoke, builtin, hs, hx, hrun, Result.andThen]
    exact hK
  | some ad =>
    obtain ⟨v', w', hr, h2, h3, h4, h5⟩ := run_append_own_at (P := Tryd.prog) wr w0.heap.size 23 o.type 44 i0 _ 2 24 Tryd.underlying23 hi0 hz0 hz1 hz2 rfl (by decide) v l.length (flat encP l) hown ad m.length c (flat encP m) (flat_length (enc := encP) (size := 2) (fun _ => rfl) m) (by
        intro j u hu
        have hpos : 0 < m.length := by
          have hlt := (List.getElem?_eq_some_iff.1 hu).1
          rw [flat_length (enc := encP) (size := 2) (fun _ => rfl)] at hlt
          cases m with
          | nil => simp at hlt
          | cons y r => simp
        obtain ⟨b, o', e, hc⟩ := hsl hpos
        injection e with e
        subst e
        have hadd : (⟨b, o', none⟩ : Addr).add j = ⟨b, o' + j, none⟩ := by unfold Addr.add; split <;> simp_all
        rw [hadd]; exact hc j u hu) (by
        intro u hu
        unfold flat at hu
        obtain ⟨y, _, hy⟩ := List.mem_flatMap.1 hu
        exact oneP y u hy) (by unfold maxLen; omega) (by omega) hb.size
    unfold Oper.wp execOp
    simp only [ho, resolve, invoke, builtin, Sem.run_bind, Sem.run_pure, Result.andThen_ok, List.map_toArray, List.map_cons, List.map_nil, hs, hx, hr]
    refine h v' w' ?_ (hb.grown h3 hb.size (fun k hk => (World.ownsRow.lt hown k hk).1)) h3 ?_
    · show w'.ownsRow _ _ _ v' (l ++ m).length (flat encP (l ++ m))
      rw [flat_append, List.length_append]; exact h2
    · intro b hb2 hne hv'
      rcases h5 with h5 | h5
      · exact hne (h5 ▸ hv')
      · rw [h5] at hv'; injection hv' with e; omega
end
theorem own_sh {w : World} {base : Nat} {v : Value} {l : List Pc} (h : Own w base 44 2 encP v l) : ∃ A c, v = .slice A l.length c := let ⟨A, c, e, _⟩ := h.sl; ⟨A, c, e⟩
/-- What is known of the region's slots, as far as they are set. -/
structure PtJ (w1 : World) (A : Option Addr) (n c k : Nat) (l : List Pc) (p : Int) (t : ByteArray) (d : Nat → Bool) (u77 u78 u79 u80 u81 u82 u83 u84 u85 u86 u87 u88 u89 u90 u91 u4 u5 u6 : Value) (W : World) : Prop where
  b : Below w1.heap.size w1 W
  o4 : d 4 = true → d 0 = true ∧ d 3 = true
  o9 : d 9 = true → d 4 = true ∧ d 8 = true
  o13 : d 13 = true → d 9 = true ∧ d 12 = true
  o15 : d 15 = true → d 13 = true
  c0 : d 0 = true → d 4 = false → Own W w1.heap.size 44 2 encP u77 []
  c1 : d 1 = true → u78 = .slice A n c
  c2 : d 2 = true → u79 = .int .i64 (k : Int)
  c3 : d 3 = true → ∃ A' c', u80 = .slice A' (l.take k).length c' ∧ (A' = none → c' = 0) ∧ Sl w1 encP 2 A' (l.take k)
  c4 : d 4 = true → d 9 = false → Own W w1.heap.size 44 2 encP u81 (l.take k)
  c5 : d 5 = true → u82 = .int .i64 p
  c6 : d 6 = true → u83 = .string t
  c7 : d 7 = true → u84 = .agg #[.int .i64 p, .string t]
  c8 : d 8 = true → d 9 = false → ∃ g, u85 = .slice (some ⟨g, 0, none⟩) 1 1 ∧ g < W.heap.size ∧ Sl W encP 2 (some ⟨g, 0, none⟩) [(p, t)] ∧ (d 0 = true → d 4 = false → u77.ownBlock ≠ some g) ∧ (d 4 = true → u81.ownBlock ≠ some g)
  c9 : d 9 = true → d 13 = false → Own W w1.heap.size 44 2 encP u86 (l.take k ++ [(p, t)])
  c10 : d 10 = true → u87 = .slice A n c
  c11 : d 11 = true → u88 = .int .i64 (k : Int)
  c12 : d 12 = true → ∃ A' c', u89 = .slice A' (l.drop k).length c' ∧ (A' = none → c' = 0) ∧ Sl w1 encP 2 A' (l.drop k)
  c13 : d 13 = true → Own W w1.heap.size 44 2 encP u90 (l.take k ++ [(p, t)] ++ l.drop k)
  c14 : d 14 = true → u91 = .int .i64 p
  c15 : d 15 = true → u4 = u90
  c16 : d 16 = true → u5 = .int .i64 p
  c17 : d 17 = true → u6 = .bool true

section
variable {w1 : World} {A : Option Addr} {n c k : Nat} {l : List Pc} {p : Int} {t : ByteArray} {d : Nat → Bool} {u77 u78 u79 u80 u81 u82 u83 u84 u85 u86 u87 u88 u89 u90 u91 u4 u5 u6 : Value} {W W' : World} {v' : Value}
theorem PtJ.step0 (h : PtJ w1 A n c k l p t d u77 u78 u79 u80 u81 u82 u83 u84 u85 u86 u87 u88 u89 u90 u91 u4 u5 u6 W) (h0 : d 0 = false) : PtJ w1 A n c k l p t (fun j => j == 0 || d j) (.slice (some ⟨W.heap.size, 0, none⟩) 0 0) u78 u79 u80 u81 u82 u83 u84 u85 u86 u87 u88 u89 u90 u91 u4 u5 u6 (W.alloc (.cells #[] 44)) := by
  have h4 : d 4 = false := by
    cases e : d 4
    · rfl
    · rw [(h.o4 e).1] at h0; cases h0
  have h9 : d 9 = false := by
    cases e : d 9
    · rfl
    · rw [(h.o9 e).1] at h4; cases h4
  have h13 : d 13 = false := by
    cases e : d 13
    · rfl
    · rw [(h.o13 e).1] at h9; cases h9
  exact { h with
    b := h.b.alloc h.b.size _
    o4 := fun e => by rw [show (4 == 0 || d 4) = d 4 from rfl, h4] at e; cases e
    c0 := fun _ _ => Own.made h.b.size
    c4 := fun e => by rw [show (4 == 0 || d 4) = d 4 from rfl, h4] at e; cases e
    c8 := fun e1 e2 => by
      obtain ⟨g, e, hg, hs, _, hq⟩ := h.c8 e1 e2
      exact ⟨g, e, by simp; omega, hs.alloc _, fun _ _ e => (by have e2 : W.heap.size = g := (by simpa [Value.ownBlock] using e); omega), hq⟩
    c9 := fun e => by rw [show (9 == 0 || d 9) = d 9 from rfl, h9] at e; cases e
    c13 := fun e => by rw [show (13 == 0 || d 13) = d 13 from rfl, h13] at e; cases e }
theorem PtJ.step4 (h : PtJ w1 A n c k l p t d u77 u78 u79 u80 u81 u82 u83 u84 u85 u86 u87 u88 u89 u90 u91 u4 u5 u6 W) (h0 : d 0 = true) (h3 : d 3 = true) (h4 : d 4 = false) (hown : Own W' w1.heap.size 44 2 encP v' ([] ++ l.take k)) (hb : Below w1.heap.size w1 W') (hg : Grew u77 W W') (hk : Kin u77 W v') :
    PtJ w1 A n c k l p t (fun j => j == 4 || d j) u77 u78 u79 u80 v' u82 u83 u84 u85 u86 u87 u88 u89 u90 u91 u4 u5 u6 W' := by
  have h9 : d 9 = false := by
    cases e : d 9
    · rfl
    · rw [(h.o9 e).1] at h4; cases h4
  have h13 : d 13 = false := by
    cases e : d 13
    · rfl
    · rw [(h.o13 e).1] at h9; cases h9
  exact { h with
    b := hb
    o4 := fun _ => ⟨h0, h3⟩
    o9 := fun e => by rw [show (9 == 4 || d 9) = d 9 from rfl, h9] at e; cases e
    c0 := fun _ e => by cases e
    c4 := fun _ _ => by rw [List.nil_append] at hown; exact hown
    c8 := fun e1 e2 => by
      obtain ⟨g, e, hgl, hs, hp, _⟩ := h.c8 e1 e2
      have hne := hp h0 h4
      exact ⟨g, e, Nat.lt_of_lt_of_le hgl hg.size, hs.grew hg (fun b o e => by injection e with e; injection e with e; subst e; exact hne), (fun _ e => by cases e), (fun _ => hk g hgl hne)⟩
    c9 := fun e => by rw [show (9 == 4 || d 9) = d 9 from rfl, h9] at e; cases e
    c13 := fun e => by rw [show (13 == 4 || d 13) = d 13 from rfl, h13] at e; cases e }
theorem PtJ.step8 (h : PtJ w1 A n c k l p t d u77 u78 u79 u80 u81 u82 u83 u84 u85 u86 u87 u88 u89 u90 u91 u4 u5 u6 W) (h8 : d 8 = false) : PtJ w1 A n c k l p t (fun j => j == 8 || d j) u77 u78 u79 u80 u81 u82 u83 u84 (.slice (some ⟨W.heap.size, 0, none⟩) 1 1) u86 u87 u88 u89 u90 u91 u4 u5 u6 (W.alloc (.cells #[.int .i64 p, .string t] 44)) := by
  have h9 : d 9 = false := by
    cases e : d 9
    · rfl
    · rw [(h.o9 e).2] at h8; cases h8
  have h13 : d 13 = false := by
    cases e : d 13
    · rfl
    · rw [(h.o13 e).1] at h9; cases h9
  exact { h with
    b := h.b.alloc h.b.size _
    o9 := fun e => by rw [show (9 == 8 || d 9) = d 9 from rfl, h9] at e; cases e
    c0 := fun e1 e2 => (h.c0 e1 e2).alloc _
    c4 := fun e1 e2 => (h.c4 e1 e2).alloc _
    c8 := fun _ _ => ⟨W.heap.size, rfl, by simp, one_sl (x := (p, t)) (heap_alloc_new W _), (fun e1 e2 e => by have := ((h.c0 e1 e2).blk _ e).2; omega), (fun e1 e => by have := ((h.c4 e1 h9).blk _ e).2; omega)⟩
    c9 := fun e => by rw [show (9 == 8 || d 9) = d 9 from rfl, h9] at e; cases e
    c13 := fun e => by rw [show (13 == 8 || d 13) = d 13 from rfl, h13] at e; cases e }
theorem PtJ.step9 (h : PtJ w1 A n c k l p t d u77 u78 u79 u80 u81 u82 u83 u84 u85 u86 u87 u88 u89 u90 u91 u4 u5 u6 W) (h4 : d 4 = true) (h8 : d 8 = true) (h9 : d 9 = false) (hown : Own W' w1.heap.size 44 2 encP v' (l.take k ++ [(p, t)])) (hb : Below w1.heap.size w1 W') :
    PtJ w1 A n c k l p t (fun j => j == 9 || d j) u77 u78 u79 u80 u81 u82 u83 u84 u85 v' u87 u88 u89 u90 u91 u4 u5 u6 W' := by
  have h13 : d 13 = false := by
    cases e : d 13
    · rfl
    · rw [(h.o13 e).1] at h9; cases h9
  exact { h with
    b := hb
    o9 := fun _ => ⟨h4, h8⟩
    o13 := fun e => by rw [show (13 == 9 || d 13) = d 13 from rfl, h13] at e; cases e
    c0 := fun _ e => by rw [show (4 == 9 || d 4) = d 4 from rfl, h4] at e; cases e
    c4 := fun _ e => by cases e
    c8 := fun _ e => by cases e
    c9 := fun _ _ => hown
    c13 := fun e => by rw [show (13 == 9 || d 13) = d 13 from rfl, h13] at e; cases e }
theorem PtJ.step13 (h : PtJ w1 A n c k l p t d u77 u78 u79 u80 u81 u82 u83 u84 u85 u86 u87 u88 u89 u90 u91 u4 u5 u6 W) (h9 : d 9 = true) (h12 : d 12 = true) (h13 : d 13 = false) (hown : Own W' w1.heap.size 44 2 encP v' (l.take k ++ [(p, t)] ++ l.drop k)) (hb : Below w1.heap.size w1 W') :
    PtJ w1 A n c k l p t (fun j => j == 13 || d j) u77 u78 u79 u80 u81 u82 u83 u84 u85 u86 u87 u88 u89 v' u91 u4 u5 u6 W' := by
  have h4 := (h.o9 h9).1
  have h15 : d 15 = false := by
    cases e : d 15
    · rfl
    · rw [h.o15 e] at h13; cases h13
  exact { h with
    b := hb
    o15 := fun e => by rw [show (15 == 13 || d 15) = d 15 from rfl, h15] at e; cases e
    c15 := fun e => by rw [show (15 == 13 || d 15) = d 15 from rfl, h15] at e; cases e
    o13 := fun _ => ⟨h9, h12⟩
    c0 := fun _ e => by rw [show (4 == 13 || d 4) = d 4 from rfl, h4] at e; cases e
    c4 := fun _ e => by rw [show (9 == 13 || d 9) = d 9 from rfl, h9] at e; cases e
    c8 := fun _ e => by rw [show (9 == 13 || d 9) = d 9 from rfl, h9] at e; cases e
    c9 := fun _ e => by cases e
    c13 := fun _ => hown }
theorem Sl.dropP {w : World} {b o : Nat} {l : List Pc} {k : Nat} (h : Sl w encP 2 (some ⟨b, o, none⟩) l) (hk : k ≤ l.length) : Sl w encP 2 (some ⟨b, o + k * 2, none⟩) (l.drop k) := by
  intro hn
  obtain ⟨b', o', e, hc⟩ := h (by rw [List.length_drop] at hn; omega)
  injection e with e; injection e with e1 e2
  subst e1 e2
  refine ⟨b, o + k * 2, rfl, fun j u hu => ?_⟩
  rw [(flat_take (enc := encP) (k := 2) (fun _ => rfl) l k hk).2, List.getElem?_drop] at hu
  have := hc _ u hu
  rw [← Nat.add_assoc] at this; exact this
end
set_option maxHeartbeats 2000000 in
set_option maxRecDepth 100000 in
theorem sPutText_any (A : Option Addr) (c : Nat) (l : List Pc) (t : ByteArray) (w : World) (hs : Sl w encP 2 A l) (hcz : A = none → c = 0) (hle : l.length ≤ c) (hl : l.length ≤ 16777216) (hf : FitP l) (ht : t.size ≤ 16777216) :
    Calls Tryd.prog 33 #[.slice A l.length c, .string t] w (PutRes (putT l t) w) := by
  have HS := Lib.hid hs
  have HCZ := Lib.hid hcz
  have hsv := fun w h => sStoreValid_any A c l w h hl hf
  have hPO := fun w => sPrintOf_any t w ht
  cases hv : storeV l
  case false =>
    have E := Lib.hid (putT_bad (t := t) hv)
    rw [hv] at hsv
    have HSV := Lib.hid hsv
    clear hsv hs hcz hPO
    unfold PutRes
    go_enter Tryd.func33, Tryd.ntmps33
    go_wp2_with fail
    refine (HSV.out _ HS.out).mono ?_
    rintro e w1 ⟨rfl, hb⟩
    have HB := Lib.hid (hb.alloc hb.size (.cells #[] 44))
    have HM := Lib.hid (Own.made (enc := encP) (E := 44) (size := 2) hb.size)
    clear hb
    go_wp2
    go_ret3
    rw [E.out]
    exact ⟨_, rfl, HM.out, HB.out⟩
  case true =>
    rw [hv] at hsv
    have HSV := Lib.hid hsv
    have E0 := Lib.hid (fun h => putT_text (t := t) hv h)
    have E1 := Lib.hid (fun h h2 => putT_there (t := t) hv h h2)
    have E2 := Lib.hid (fun u h h2 => putT_clash (t := t) (u := u) hv h h2)
    have E3 := Lib.hid (fun h h2 => putT_full (t := t) hv h h2)
    have E4 := Lib.hid (fun h h2 => putT_new (t := t) hv h h2)
    have hgh := fun p => getT_here (storeV_sorted hv) (p := p)
    unfold tx at E0 E1 E2 E3 E4
    have hp0 := @prOf_bad (bs t)
    have hp1 := @prOf_pv (bs t)
    have hpb := prOf_bd (bs t)
    generalize prOf (bs t) = p at *
    generalize textV (bs t) = tv at *
    have hgh := hgh p
    have HGH := Lib.hid hgh
    have HPO := Lib.hid hPO
    have HP0 := Lib.hid hp0
    have HP1 := Lib.hid hp1
    clear hsv hs hcz hPO hv hgh hp0 hp1
    unfold PutRes
    generalize putT l t = R at *
    go_enter Tryd.func33, Tryd.ntmps33
    go_wp2_with (first
      | (go_at_call 10; refine (HSV.out _ HS.out).mono ?_; rintro e w1 ⟨rfl, hb⟩; have HB1 := Lib.hid hb; have HS1 := Lib.hid (HS.out.below hb); clear hb)
      | (go_at_call 25; refine (HPO.out _).mono ?_; rintro e w' ⟨rfl, rfl⟩))
    go_loop [8] (fun i => ∃ k : Nat, k ≤ l.length ∧ i = .int .i64 k ∧ Hid (∀ j (h : j < l.length), j < k → l[j].1 < p)) (fun i => l.length - (intOf i).toNat)
    case atStart => exact ⟨0, Nat.zero_le _, rfl, fun j h h2 => by omega⟩
    case round =>
      obtain ⟨k, hk, rfl, H1⟩ := hrel
      by_cases hlt : k < l.length
      · obtain ⟨b, o, rfl, hc0, hc1⟩ := HS1.out.getP hlt
        have hnx := fun (hx : l[k].1 < p) (j : Nat) (h : j < l.length) (hj : j < k + 1) => show l[j].1 < p by
          by_cases e : j = k
          · subst e; exact hx
          · exact H1.out j h (by omega)
        have HNX := Lib.hid hnx
        have hbe := fun (hx : ¬ l[k].1 < p) => below_of l p k hk H1.out (fun _ => hx)
        have HBE := Lib.hid hbe
        have hgd := getD_pc hlt
        have HGD := Lib.hid hgd
        clear hnx hbe hgd
        by_cases hx : l[k].1 < p
        · have HN := Lib.hid (HNX.out hx)
          clear HNX HBE HGD
          generalize l[k] = q at *
          go_wp2
          go_round
          case rel => exact ⟨k + 1, by omega, by go_num, HN.out⟩
          case measure => simp [intOf]; omega
        · have HB := Lib.hid (HBE.out hx)
          clear HNX HBE
          generalize l[k] = q at *
          obtain ⟨q0, u⟩ := q
          simp only at *
          have HH := Lib.hid (show hereP l p = decide (q0 = p) by unfold hereP; rw [HB.out, HGD.out, decide_eq_true hlt, Bool.true_and])
          cases tv
          · have hpn : p = -1 := HP0.out rfl
            subst hpn
            go_wp2_with (at_builtin; refine app_pcN (w0 := w1) (l := []) rfl rfl (Own.made (Nat.le_refl _)) ((Below.refl _ _).alloc (Nat.le_refl _) _) (by simp; omega) (HS1.out.alloc _) HCZ.out (by rfl) (by rfl) ?_; intro v5 w5 hown5 hb5 hg5; rw [List.nil_append] at hown5; have HW5 := Lib.hid hown5; have HB5 := Lib.hid hb5; clear hown5 hb5 hg5)
            go_ret3
            rw [E0.out (by simp)]
            exact ⟨_, rfl, HW5.out.mono HB1.out.size, Below_then HB1.out HB5.out (Nat.le_refl _)⟩
          · have hpp : 0 ≤ p := (pv_iff.1 (HP1.out rfl)).1
            have hpn : ¬ p < 0 := by omega
            by_cases e : q0 = p
            · subst e
              have hgt : getT l q0 = some u := by rw [HGH.out, HH.out, HB.out, HGD.out]; simp
              have HGT := Lib.hid hgt
              clear hgt
              by_cases hu : u = t
              · subst hu
                go_wp2_with (at_builtin; refine app_pcN (w0 := w1) (l := []) rfl rfl (Own.made (Nat.le_refl _)) ((Below.refl _ _).alloc (Nat.le_refl _) _) (by simp; omega) (HS1.out.alloc _) HCZ.out (by rfl) (by rfl) ?_; intro v5 w5 hown5 hb5 hg5; rw [List.nil_append] at hown5; have HW5 := Lib.hid hown5; have HB5 := Lib.hid hb5; clear hown5 hb5 hg5)
                go_ret3
                rw [E1.out (by simp) HGT.out]
                exact ⟨_, rfl, HW5.out.mono HB1.out.size, Below_then HB1.out HB5.out (Nat.le_refl _)⟩
              · have hne : (u.toList == t.toList) = false := by
                  rw [ByteArray.toList_eq, ByteArray.toList_eq]
                  rw [beq_eq_false_iff_ne]; intro e
                  apply hu
                  rw [← mk_bs u, ← mk_bs t, e]
                go_wp2_with (at_builtin; refine app_pcN (w0 := w1) (l := []) rfl rfl (Own.made (Nat.le_refl _)) ((Below.refl _ _).alloc (Nat.le_refl _) _) (by simp; omega) (HS1.out.alloc _) HCZ.out (by rfl) (by rfl) ?_; intro v5 w5 hown5 hb5 hg5; rw [List.nil_append] at hown5; have HW5 := Lib.hid hown5; have HB5 := Lib.hid hb5; clear hown5 hb5 hg5)
                go_ret3
                rw [E2.out u (by simp) HGT.out hu]
                exact ⟨_, rfl, HW5.out.mono HB1.out.size, Below_then HB1.out HB5.out (Nat.le_refl _)⟩
            · have hgt : getT l p = none := by rw [HGH.out, HH.out]; simp [e]
              have HGT := Lib.hid hgt
              have hqp : (q0 == p) = false := by simpa using e
              clear hgt
              by_cases h40 : l.length = 40
              · have h40' : ((l.length : Int) == 40) = true := by simp; omega
                have E3' := Lib.hid (E3.out (by simp) HGT.out h40)
                have H40 := Lib.hid h40
                clear h40
                go_wp2_with (at_builtin; refine app_pcN (w0 := w1) (l := []) rfl rfl (Own.made (Nat.le_refl _)) ((Below.refl _ _).alloc (Nat.le_refl _) _) (by simp; omega) (HS1.out.alloc _) HCZ.out (by rfl) (by first | rfl | (rw [H40.out]; rfl)) ?_; intro v5 w5 hown5 hb5 hg5; rw [List.nil_append] at hown5; have HW5 := Lib.hid hown5; have HB5 := Lib.hid hb5; clear hown5 hb5 hg5)
                go_ret3
                rw [E3'.out]
                exact ⟨_, rfl, HW5.out.mono HB1.out.size, Below_then HB1.out HB5.out (Nat.le_refl _)⟩
              · have h40' : ((l.length : Int) == 40) = false := by simp; omega
                clear HGH HP0 HP1 HPO
                have E4' := Lib.hid (E4.out (by simp) HGT.out h40)
                clear h40
                have hkl : k ≤ l.length := by omega
                have htl : (l.take k).length = k := by rw [List.length_take]; omega
                have HBW := Lib.hid HB.out
                go_wp2
                refine wp_region_inv (by kernel_rfl) (by kernel_rfl) (fun a0 d a W => ∃ u77 u78 u79 u80 u81 u82 u83 u84 u85 u86 u87 u88 u89 u90 u91 u4 u5 u6 : Value, a = ⟨#[Value.slice (some { block := b, off := o }) l.length c, Value.string t, undef, undef, u4, u5, u6, Value.int IntKind.i64 p, Value.int IntKind.i64 (k : Int), Value.bool false, Value.slice (some { block := b, off := o }) l.length c, Value.bool true, Value.bool false, undef, Value.string t, Value.int IntKind.i64 p, Value.int IntKind.i64 (k : Int), Value.slice (some { block := b, off := o }) l.length c, Value.int IntKind.i64 (l.length : Int), Value.bool true, Value.bool true, Value.slice (some { block := b, off := o }) l.length c, Value.int IntKind.i64 (k : Int), Value.pointer (some { block := b, off := o + k * 2 }), Value.pointer (some { block := b, off := o + k * 2 }), Value.int IntKind.i64 q0, Value.int IntKind.i64 p, Value.bool false, Value.bool false, u29, u30, Value.int IntKind.i64 (k : Int), Value.slice (some { block := b, off := o }) l.length c, Value.int IntKind.i64 (l.length : Int), Value.bool true, Value.bool true, Value.slice (some { block := b, off := o }) l.length c, Value.int IntKind.i64 (k : Int), Value.pointer (some { block := b, off := o + k * 2 }), Value.pointer (some { block := b, off := o + k * 2 }), Value.int IntKind.i64 q0, Value.int IntKind.i64 p, Value.bool false, Value.bool false, Value.bool false, Value.int IntKind.i64 p, Value.bool false, Value.bool false, Value.bool false, Value.bool false, undef, undef, undef, undef, undef, undef, undef, Value.bool false, Value.bool false, Value.bool false, Value.bool false, Value.bool true, Value.bool true, Value.slice (some { block := b, off := o }) l.length c, Value.int IntKind.i64 (l.length : Int), Value.bool false, Value.bool false, Value.bool false, undef, undef, undef, Value.bool false, Value.bool false, undef, undef, undef, undef, u77, u78, u79, u80, u81, u82, u83, u84, u85, u86, u87, u88, u89, u90, u91], []⟩ ∧ PtJ w1 (some ⟨b, o, none⟩) l.length c (k) l p t d u77 u78 u79 u80 u81 u82 u83 u84 u85 u86 u87 u88 u89 u90 u91 u4 u5 u6 W) ?_ ?_ ?_
                · exact ⟨_, _, _, _, _, _, _, _, _, _, _, _, _, _, _, _, _, _, rfl, Below_drewN (Below.refl _ _) 1, nofun, nofun, nofun, nofun, nofun, nofun, nofun, nofun, nofun, nofun, nofun, nofun, nofun, nofun, nofun, nofun, nofun, nofun, nofun, nofun, nofun, nofun⟩
                · refine ⟨?_, ?_, ?_, ?_, ?_, ?_, ?_, ?_, ?_, ?_, ?_, ?_, ?_, ?_, ?_, ?_, ?_, ?_, trivial⟩
                  all_goals
                    intro d a W K hd hdep hJ hK
                    obtain ⟨u77, u78, u79, u80, u81, u82, u83, u84, u85, u86, u87, u88, u89, u90, u91, u4, u5, u6, rfl, hj⟩ := hJ
                    have HJ := Lib.hid hj
                    have HK := Lib.hid hK
                    have HD := Lib.hid hd
                    have HDEP := Lib.hid hdep
                    clear hj hK hd hdep
                  · go_simp
                    exact HK.out _ _ ⟨_, _, _, _, _, _, _, _, _, _, _, _, _, _, _, _, _, _, rfl, HJ.out.step0 HD.out⟩
                  · go_simp
                    exact HK.out _ _ ⟨_, _, _, _, _, _, _, _, _, _, _, _, _, _, _, _, _, _, rfl, { HJ.out with c1 := fun _ => rfl }⟩
                  · go_simp
                    exact HK.out _ _ ⟨_, _, _, _, _, _, _, _, _, _, _, _, _, _, _, _, _, _, rfl, { HJ.out with c2 := fun _ => rfl }⟩
                  · obtain rfl := HJ.out.c1 (HDEP.out { on := 1, ground := Ground.data } (by simp) rfl)
                    obtain rfl := HJ.out.c2 (HDEP.out { on := 2, ground := Ground.data } (by simp) rfl)
                    have hkc3 : k ≤ c := by omega
                    go_simp
                    exact HK.out _ _ ⟨_, _, _, _, _, _, _, _, _, _, _, _, _, _, _, _, _, _, rfl, { HJ.out with o4 := fun e => ⟨(HJ.out.o4 e).1, rfl⟩, c3 := fun _ => ⟨some ⟨b, o, none⟩, c, (by rw [htl]), (by intro h; cases h), HS1.out.take _⟩ }⟩
                  · obtain ⟨A', c', rfl, hz, hsl⟩ := HJ.out.c3 (HDEP.out { on := 3, ground := Ground.data } (by simp) rfl)
                    refine step_pcK (w0 := w1) rfl rfl (HJ.out.c0 (HDEP.out { on := 0, ground := Ground.data } (by simp) rfl) HD.out) HJ.out.b (by simp; omega) (hsl.below HJ.out.b) hz rfl rfl ?_
                    intro v' W' hown hb hg hk
                    exact HK.out _ _ ⟨_, _, _, _, _, _, _, _, _, _, _, _, _, _, _, _, _, _, rfl, HJ.out.step4 (HDEP.out { on := 0, ground := Ground.data } (by simp) rfl) (HDEP.out { on := 3, ground := Ground.data } (by simp) rfl) HD.out hown hb hg hk⟩
                  · go_simp
                    exact HK.out _ _ ⟨_, _, _, _, _, _, _, _, _, _, _, _, _, _, _, _, _, _, rfl, { HJ.out with c5 := fun _ => rfl }⟩
                  · go_simp
                    exact HK.out _ _ ⟨_, _, _, _, _, _, _, _, _, _, _, _, _, _, _, _, _, _, rfl, { HJ.out with c6 := fun _ => rfl }⟩
                  · obtain rfl := HJ.out.c5 (HDEP.out { on := 5, ground := Ground.data } (by simp) rfl)
                    obtain rfl := HJ.out.c6 (HDEP.out { on := 6, ground := Ground.data } (by simp) rfl)
                    go_simp
                    exact HK.out _ _ ⟨_, _, _, _, _, _, _, _, _, _, _, _, _, _, _, _, _, _, rfl, { HJ.out with c7 := fun _ => rfl }⟩
                  · obtain rfl := HJ.out.c7 (HDEP.out { on := 7, ground := Ground.data } (by simp) rfl)
                    go_simp
                    exact HK.out _ _ ⟨_, _, _, _, _, _, _, _, _, _, _, _, _, _, _, _, _, _, rfl, HJ.out.step8 HD.out⟩
                  · obtain ⟨g, rfl, hgl, hsl, _, hap⟩ := HJ.out.c8 (HDEP.out { on := 8, ground := Ground.data } (by simp) rfl) HD.out
                    have hap := hap (HDEP.out { on := 4, ground := Ground.data } (by simp) rfl)
                    refine step_pcK (w0 := w1) (m := [(p, t)]) rfl rfl (HJ.out.c4 (HDEP.out { on := 4, ground := Ground.data } (by simp) rfl) HD.out) HJ.out.b (by simp; omega) hsl (by intro h; cases h) rfl rfl ?_
                    intro v' W' hown hb hg hk
                    exact HK.out _ _ ⟨_, _, _, _, _, _, _, _, _, _, _, _, _, _, _, _, _, _, rfl, HJ.out.step9 (HDEP.out { on := 4, ground := Ground.data } (by simp) rfl) (HDEP.out { on := 8, ground := Ground.data } (by simp) rfl) HD.out hown hb⟩
                  · go_simp
                    exact HK.out _ _ ⟨_, _, _, _, _, _, _, _, _, _, _, _, _, _, _, _, _, _, rfl, { HJ.out with c10 := fun _ => rfl }⟩
                  · go_simp
                    exact HK.out _ _ ⟨_, _, _, _, _, _, _, _, _, _, _, _, _, _, _, _, _, _, rfl, { HJ.out with c11 := fun _ => rfl }⟩
                  · obtain rfl := HJ.out.c10 (HDEP.out { on := 10, ground := Ground.data } (by simp) rfl)
                    obtain rfl := HJ.out.c11 (HDEP.out { on := 11, ground := Ground.data } (by simp) rfl)
                    have hkc : ¬ (c = k) := by omega
                    go_simp
                    exact HK.out _ _ ⟨_, _, _, _, _, _, _, _, _, _, _, _, _, _, _, _, _, _, rfl, { HJ.out with o13 := fun e => ⟨(HJ.out.o13 e).1, rfl⟩, c12 := fun _ => ⟨_, _, (by rw [List.length_drop]), (by intro h; cases h), Sl.dropP HS1.out (by omega)⟩ }⟩
                  · obtain ⟨A', c', rfl, hz, hsl⟩ := HJ.out.c12 (HDEP.out { on := 12, ground := Ground.data } (by simp) rfl)
                    refine step_pcK (w0 := w1) rfl rfl (HJ.out.c9 (HDEP.out { on := 9, ground := Ground.data } (by simp) rfl) HD.out) HJ.out.b (by simp; omega) (hsl.below HJ.out.b) hz rfl rfl ?_
                    intro v' W' hown hb hg hk
                    exact HK.out _ _ ⟨_, _, _, _, _, _, _, _, _, _, _, _, _, _, _, _, _, _, rfl, HJ.out.step13 (HDEP.out { on := 9, ground := Ground.data } (by simp) rfl) (HDEP.out { on := 12, ground := Ground.data } (by simp) rfl) HD.out hown hb⟩
                  · go_simp
                    exact HK.out _ _ ⟨_, _, _, _, _, _, _, _, _, _, _, _, _, _, _, _, _, _, rfl, { HJ.out with c14 := fun _ => rfl }⟩
                  · go_simp
                    exact HK.out _ _ ⟨_, _, _, _, _, _, _, _, _, _, _, _, _, _, _, _, _, _, rfl, { HJ.out with o15 := fun _ => (HDEP.out { on := 13, ground := Ground.data } (by simp) rfl), c15 := fun _ => rfl }⟩
                  · obtain rfl := HJ.out.c14 (HDEP.out { on := 14, ground := Ground.data } (by simp) rfl)
                    go_simp
                    exact HK.out _ _ ⟨_, _, _, _, _, _, _, _, _, _, _, _, _, _, _, _, _, _, rfl, { HJ.out with c16 := fun _ => rfl }⟩
                  · go_simp
                    exact HK.out _ _ ⟨_, _, _, _, _, _, _, _, _, _, _, _, _, _, _, _, _, _, rfl, { HJ.out with c17 := fun _ => rfl }⟩
                · intro d a W hd hJ
                  obtain ⟨u77, u78, u79, u80, u81, u82, u83, u84, u85, u86, u87, u88, u89, u90, u91, u4, u5, u6, rfl, hj⟩ := hJ
                  obtain rfl := hj.c15 (hd 15 (by decide))
                  obtain rfl := hj.c16 (hd 16 (by decide))
                  obtain rfl := hj.c17 (hd 17 (by decide))
                  have HO := Lib.hid (hj.c13 (hd 13 (by decide)))
                  have HBF := Lib.hid (Below_then HB1.out hj.b (Nat.le_refl _))
                  clear hj hd
                  go_wp2
                  go_ret3
                  rw [E4'.out, HBW.out]
                  refine ⟨_, rfl, ?_, HBF.out⟩
                  have := HO.out
                  rw [List.append_assoc] at this
                  exact this.mono HB1.out.size
      · obtain rfl : k = l.length := by omega
        have HB := Lib.hid (below_of l p l.length (Nat.le_refl _) H1.out (fun h => absurd h (by omega)))
        have HH := Lib.hid (show hereP l p = false by unfold hereP; rw [HB.out]; simp)
        have hgt : getT l p = none := by rw [HGH.out, HH.out]; simp
        have HGT := Lib.hid hgt
        clear hgt
        cases tv
        · have hpn : p = -1 := HP0.out rfl
          subst hpn
          go_wp2_with (at_builtin; refine app_pcN (w0 := w1) (l := []) rfl rfl (Own.made (Nat.le_refl _)) ((Below.refl _ _).alloc (Nat.le_refl _) _) (by simp; omega) (HS1.out.alloc _) HCZ.out (by rfl) (by rfl) ?_; intro v5 w5 hown5 hb5 hg5; rw [List.nil_append] at hown5; have HW5 := Lib.hid hown5; have HB5 := Lib.hid hb5; clear hown5 hb5 hg5)
          go_ret3
          rw [E0.out (by simp)]
          exact ⟨_, rfl, HW5.out.mono HB1.out.size, Below_then HB1.out HB5.out (Nat.le_refl _)⟩
        · have hpp : 0 ≤ p := (pv_iff.1 (HP1.out rfl)).1
          have hpn : ¬ p < 0 := by omega
          by_cases h40 : l.length = 40
          · have h40' : ((l.length : Int) == 40) = true := by simp; omega
            have E3' := Lib.hid (E3.out (by simp) HGT.out h40)
            have H40 := Lib.hid h40
            clear h40
            go_wp2_with (at_builtin; refine app_pcN (w0 := w1) (l := []) rfl rfl (Own.made (Nat.le_refl _)) ((Below.refl _ _).alloc (Nat.le_refl _) _) (by simp; omega) (HS1.out.alloc _) HCZ.out (by rfl) (by first | rfl | (rw [H40.out]; rfl)) ?_; intro v5 w5 hown5 hb5 hg5; rw [List.nil_append] at hown5; have HW5 := Lib.hid hown5; have HB5 := Lib.hid hb5; clear hown5 hb5 hg5)
            go_ret3
            rw [E3'.out]
            exact ⟨_, rfl, HW5.out.mono HB1.out.size, Below_then HB1.out HB5.out (Nat.le_refl _)⟩
          · have h40' : ((l.length : Int) == 40) = false := by simp; omega
            clear HGH HP0 HP1 HPO
            have E4' := Lib.hid (E4.out (by simp) HGT.out h40)
            clear h40
            have hkl : l.length ≤ l.length := by omega
            have htl : (l.take l.length).length = l.length := by rw [List.length_take]; omega
            have HBW := Lib.hid HB.out
            go_wp2
            refine wp_region_inv (by kernel_rfl) (by kernel_rfl) (fun a0 d a W => ∃ u77 u78 u79 u80 u81 u82 u83 u84 u85 u86 u87 u88 u89 u90 u91 u4 u5 u6 : Value, a = ⟨#[Value.slice A l.length c, Value.string t, undef, undef, u4, u5, u6, Value.int IntKind.i64 p, Value.int IntKind.i64 (l.length : Int), Value.bool false, Value.slice A l.length c, Value.bool true, Value.bool false, undef, Value.string t, Value.int IntKind.i64 p, Value.int IntKind.i64 (l.length : Int), Value.slice A l.length c, Value.int IntKind.i64 (l.length : Int), Value.bool false, Value.bool false, undef, undef, undef, undef, undef, undef, undef, Value.bool false, u29, u30, Value.int IntKind.i64 (l.length : Int), Value.slice A l.length c, Value.int IntKind.i64 (l.length : Int), Value.bool false, Value.bool false, undef, undef, undef, undef, undef, undef, undef, Value.bool false, Value.bool false, Value.int IntKind.i64 p, Value.bool false, Value.bool false, Value.bool false, Value.bool false, undef, undef, undef, undef, undef, undef, undef, Value.bool false, Value.bool false, Value.bool false, Value.bool false, Value.bool true, Value.bool true, Value.slice A l.length c, Value.int IntKind.i64 (l.length : Int), Value.bool false, Value.bool false, Value.bool false, undef, undef, undef, Value.bool false, Value.bool false, undef, undef, undef, undef, u77, u78, u79, u80, u81, u82, u83, u84, u85, u86, u87, u88, u89, u90, u91], []⟩ ∧ PtJ w1 (A) l.length c (l.length) l p t d u77 u78 u79 u80 u81 u82 u83 u84 u85 u86 u87 u88 u89 u90 u91 u4 u5 u6 W) ?_ ?_ ?_
            · exact ⟨_, _, _, _, _, _, _, _, _, _, _, _, _, _, _, _, _, _, rfl, Below_drewN (Below.refl _ _) 1, nofun, nofun, nofun, nofun, nofun, nofun, nofun, nofun, nofun, nofun, nofun, nofun, nofun, nofun, nofun, nofun, nofun, nofun, nofun, nofun, nofun, nofun⟩
            · refine ⟨?_, ?_, ?_, ?_, ?_, ?_, ?_, ?_, ?_, ?_, ?_, ?_, ?_, ?_, ?_, ?_, ?_, ?_, trivial⟩
              all_goals
                intro d a W K hd hdep hJ hK
                obtain ⟨u77, u78, u79, u80, u81, u82, u83, u84, u85, u86, u87, u88, u89, u90, u91, u4, u5, u6, rfl, hj⟩ := hJ
                have HJ := Lib.hid hj
                have HK := Lib.hid hK
                have HD := Lib.hid hd
                have HDEP := Lib.hid hdep
                clear hj hK hd hdep
              · go_simp
                exact HK.out _ _ ⟨_, _, _, _, _, _, _, _, _, _, _, _, _, _, _, _, _, _, rfl, HJ.out.step0 HD.out⟩
              · go_simp
                exact HK.out _ _ ⟨_, _, _, _, _, _, _, _, _, _, _, _, _, _, _, _, _, _, rfl, { HJ.out with c1 := fun _ => rfl }⟩
              · go_simp
                exact HK.out _ _ ⟨_, _, _, _, _, _, _, _, _, _, _, _, _, _, _, _, _, _, rfl, { HJ.out with c2 := fun _ => rfl }⟩
              · obtain rfl := HJ.out.c1 (HDEP.out { on := 1, ground := Ground.data } (by simp) rfl)
                obtain rfl := HJ.out.c2 (HDEP.out { on := 2, ground := Ground.data } (by simp) rfl)
                cases A with
                | none =>
                  go_simp
                  exact HK.out _ _ ⟨_, _, _, _, _, _, _, _, _, _, _, _, _, _, _, _, _, _, rfl, { HJ.out with o4 := fun e => ⟨(HJ.out.o4 e).1, rfl⟩, c3 := fun _ => ⟨_, _, (by rw [htl]), (by intro _; exact HCZ.out rfl), HS1.out.take _⟩ }⟩
                | some ad =>
                  go_simp
                  exact HK.out _ _ ⟨_, _, _, _, _, _, _, _, _, _, _, _, _, _, _, _, _, _, rfl, { HJ.out with o4 := fun e => ⟨(HJ.out.o4 e).1, rfl⟩, c3 := fun _ => ⟨_, _, (by rw [htl]), (by intro h; cases h), HS1.out.take _⟩ }⟩
              · obtain ⟨A', c', rfl, hz, hsl⟩ := HJ.out.c3 (HDEP.out { on := 3, ground := Ground.data } (by simp) rfl)
                refine step_pcK (w0 := w1) rfl rfl (HJ.out.c0 (HDEP.out { on := 0, ground := Ground.data } (by simp) rfl) HD.out) HJ.out.b (by simp; omega) (hsl.below HJ.out.b) hz rfl rfl ?_
                intro v' W' hown hb hg hk
                exact HK.out _ _ ⟨_, _, _, _, _, _, _, _, _, _, _, _, _, _, _, _, _, _, rfl, HJ.out.step4 (HDEP.out { on := 0, ground := Ground.data } (by simp) rfl) (HDEP.out { on := 3, ground := Ground.data } (by simp) rfl) HD.out hown hb hg hk⟩
              · go_simp
                exact HK.out _ _ ⟨_, _, _, _, _, _, _, _, _, _, _, _, _, _, _, _, _, _, rfl, { HJ.out with c5 := fun _ => rfl }⟩
              · go_simp
                exact HK.out _ _ ⟨_, _, _, _, _, _, _, _, _, _, _, _, _, _, _, _, _, _, rfl, { HJ.out with c6 := fun _ => rfl }⟩
              · obtain rfl := HJ.out.c5 (HDEP.out { on := 5, ground := Ground.data } (by simp) rfl)
                obtain rfl := HJ.out.c6 (HDEP.out { on := 6, ground := Ground.data } (by simp) rfl)
                go_simp
                exact HK.out _ _ ⟨_, _, _, _, _, _, _, _, _, _, _, _, _, _, _, _, _, _, rfl, { HJ.out with c7 := fun _ => rfl }⟩
              · obtain rfl := HJ.out.c7 (HDEP.out { on := 7, ground := Ground.data } (by simp) rfl)
                go_simp
                exact HK.out _ _ ⟨_, _, _, _, _, _, _, _, _, _, _, _, _, _, _, _, _, _, rfl, HJ.out.step8 HD.out⟩
              · obtain ⟨g, rfl, hgl, hsl, _, hap⟩ := HJ.out.c8 (HDEP.out { on := 8, ground := Ground.data } (by simp) rfl) HD.out
                have hap := hap (HDEP.out { on := 4, ground := Ground.data } (by simp) rfl)
                refine step_pcK (w0 := w1) (m := [(p, t)]) rfl rfl (HJ.out.c4 (HDEP.out { on := 4, ground := Ground.data } (by simp) rfl) HD.out) HJ.out.b (by simp; omega) hsl (by intro h; cases h) rfl rfl ?_
                intro v' W' hown hb hg hk
                exact HK.out _ _ ⟨_, _, _, _, _, _, _, _, _, _, _, _, _, _, _, _, _, _, rfl, HJ.out.step9 (HDEP.out { on := 4, ground := Ground.data } (by simp) rfl) (HDEP.out { on := 8, ground := Ground.data } (by simp) rfl) HD.out hown hb⟩
              · go_simp
                exact HK.out _ _ ⟨_, _, _, _, _, _, _, _, _, _, _, _, _, _, _, _, _, _, rfl, { HJ.out with c10 := fun _ => rfl }⟩
              · go_simp
                exact HK.out _ _ ⟨_, _, _, _, _, _, _, _, _, _, _, _, _, _, _, _, _, _, rfl, { HJ.out with c11 := fun _ => rfl }⟩
              · obtain rfl := HJ.out.c10 (HDEP.out { on := 10, ground := Ground.data } (by simp) rfl)
                obtain rfl := HJ.out.c11 (HDEP.out { on := 11, ground := Ground.data } (by simp) rfl)
                have hdl : (l.drop l.length) = [] := List.drop_length
                cases A with
                | none =>
                  go_simp
                  exact HK.out _ _ ⟨_, _, _, _, _, _, _, _, _, _, _, _, _, _, _, _, _, _, rfl, { HJ.out with o13 := fun e => ⟨(HJ.out.o13 e).1, rfl⟩, c12 := fun _ => ⟨_, _, (by rw [hdl]; rfl), (by intro _; first | rfl | (have := HCZ.out rfl; omega)), by rw [hdl]; intro h; simp at h⟩ }⟩
                | some ad =>
                  go_simp
                  all_goals exact HK.out _ _ ⟨_, _, _, _, _, _, _, _, _, _, _, _, _, _, _, _, _, _, rfl, { HJ.out with o13 := fun e => ⟨(HJ.out.o13 e).1, rfl⟩, c12 := fun _ => ⟨_, _, (by rw [hdl]; rfl), (by intro h; exfalso; revert h; split <;> simp), by rw [hdl]; intro h; simp at h⟩ }⟩
              · obtain ⟨A', c', rfl, hz, hsl⟩ := HJ.out.c12 (HDEP.out { on := 12, ground := Ground.data } (by simp) rfl)
                refine step_pcK (w0 := w1) rfl rfl (HJ.out.c9 (HDEP.out { on := 9, ground := Ground.data } (by simp) rfl) HD.out) HJ.out.b (by simp; omega) (hsl.below HJ.out.b) hz rfl rfl ?_
                intro v' W' hown hb hg hk
                exact HK.out _ _ ⟨_, _, _, _, _, _, _, _, _, _, _, _, _, _, _, _, _, _, rfl, HJ.out.step13 (HDEP.out { on := 9, ground := Ground.data } (by simp) rfl) (HDEP.out { on := 12, ground := Ground.data } (by simp) rfl) HD.out hown hb⟩
              · go_simp
                exact HK.out _ _ ⟨_, _, _, _, _, _, _, _, _, _, _, _, _, _, _, _, _, _, rfl, { HJ.out with c14 := fun _ => rfl }⟩
              · go_simp
                exact HK.out _ _ ⟨_, _, _, _, _, _, _, _, _, _, _, _, _, _, _, _, _, _, rfl, { HJ.out with o15 := fun _ => (HDEP.out { on := 13, ground := Ground.data } (by simp) rfl), c15 := fun _ => rfl }⟩
              · obtain rfl := HJ.out.c14 (HDEP.out { on := 14, ground := Ground.data } (by simp) rfl)
                go_simp
                exact HK.out _ _ ⟨_, _, _, _, _, _, _, _, _, _, _, _, _, _, _, _, _, _, rfl, { HJ.out with c16 := fun _ => rfl }⟩
              · go_simp
                exact HK.out _ _ ⟨_, _, _, _, _, _, _, _, _, _, _, _, _, _, _, _, _, _, rfl, { HJ.out with c17 := fun _ => rfl }⟩
            · intro d a W hd hJ
              obtain ⟨u77, u78, u79, u80, u81, u82, u83, u84, u85, u86, u87, u88, u89, u90, u91, u4, u5, u6, rfl, hj⟩ := hJ
              obtain rfl := hj.c15 (hd 15 (by decide))
              obtain rfl := hj.c16 (hd 16 (by decide))
              obtain rfl := hj.c17 (hd 17 (by decide))
              have HO := Lib.hid (hj.c13 (hd 13 (by decide)))
              have HBF := Lib.hid (Below_then HB1.out hj.b (Nat.le_refl _))
              clear hj hd
              go_wp2
              go_ret3
              rw [E4'.out, HBW.out]
              refine ⟨_, rfl, ?_, HBF.out⟩
              have := HO.out
              rw [List.append_assoc] at this
              exact this.mono HB1.out.size
end Go.Proofs.YtaghiefokmapmaaDoor

/- RightPieces, walked. Written by gen_rp.py. -/
set_option linter.unusedVariables false
namespace Go.Proofs.YtaghiefokmapmaaDoor
open Go.RowKit

theorem rightF_append : ∀ (a b s : List Pc), rightF s (a ++ b) = (rightF s a).bind fun s' => rightF s' b
  | [], b, s => rfl
  | p :: r, b, s => by
    rw [List.cons_append, rightF, rightF]
    split
    · split
      · exact rightF_append r b _
      · rfl
    · exact rightF_append r b s
theorem rightF_step {l s : List Pc} {k : Nat} (h : k < l.length) (hs : rightF [] (l.take k) = some s) : rightF [] (l.take (k + 1)) = if pieceOk l[k] then (if (putT s l[k].2).2.2 then some (putT s l[k].2).1 else none) else some s := by
  rw [List.take_succ_eq_append_getElem h, rightF_append, hs]
  show rightF s [l[k]] = _
  rw [rightF]; rfl
theorem rightF_dead {l s : List Pc} {k : Nat} (h : k < l.length) (hs : rightF [] (l.take k) = some s) (hp : pieceOk l[k] = true) (hn : (putT s l[k].2).2.2 = false) : rightP l = ([], false) := by
  have h1 := rightF_step h hs
  rw [hp, hn] at h1
  have h2 : rightF [] l = none := by
    rw [← List.take_append_drop (k + 1) l, rightF_append, h1]; rfl
  unfold rightP; rw [h2]
theorem rightF_facts {l s : List Pc} {k : Nat} (hf : FitP l) (hs : rightF [] (l.take k) = some s) : s.length ≤ 40 ∧ FitP s := by
  obtain ⟨h1, h2, h3⟩ := rightF_ok _ _ _ storeV_nil hs
  refine ⟨storeV_len h1, fun p hp => ?_⟩
  rcases (h2 p).1 hp with h | ⟨h, _⟩
  · cases h
  · exact hf p (List.mem_of_mem_take h)
theorem rightP_len (l : List Pc) : (rightP l).1.length ≤ 40 := by
  unfold rightP
  cases h : rightF [] l with
  | none => simp
  | some s => exact storeV_len (rightF_ok _ _ _ storeV_nil h).1
def RpRes (r : List Pc × Bool) (w : World) (e : Ending) (w' : World) : Prop := ∃ v, e = .returned (.tuple #[v, .bool r.2]) ∧ Own w' w.heap.size 44 2 encP v r.1 ∧ Below w.heap.size w w'
end Go.Proofs.YtaghiefokmapmaaDoor

/- ReadBundle, walked. -/
set_option linter.unusedVariables false
namespace Go.Proofs.YtaghiefokmapmaaDoor
open Go.RowKit
def takeL (st : List Pc) (s : Bs) : List Pc × Bool := match cutC 32 s with
  | none => (st, false)
  | some x => if pieceOk (readH x.1, mk x.2) then (if (putT st (mk x.2)).2.2 then ((putT st (mk x.2)).1, true) else (st, false)) else (st, false)
def lineB (x : List Pc × Nat) (l : ByteArray) : List Pc × Nat := ((takeL x.1 (bs l)).1, if (takeL x.1 (bs l)).2 then x.2 else x.2 + 1)
def bundR (ls : List ByteArray) : List Pc × Nat := ls.foldl lineB ([], 0)
theorem bundR_step {ls : List ByteArray} {k : Nat} {st : List Pc} {bad : Nat} (h : k < ls.length) (hr : bundR (ls.take k) = (st, bad)) : bundR (ls.take (k + 1)) = lineB (st, bad) ls[k] := by
  unfold bundR at hr ⊢
  rw [List.take_succ_eq_append_getElem h, List.foldl_append, hr]; rfl
theorem takeL_valid {st : List Pc} (h : storeV st = true) (s : Bs) : storeV (takeL st s).1 = true := by
  unfold takeL
  split
  · exact h
  · split
    · split
      · rename_i hok; exact (putT_ok hok).2.1.valid
      · exact h
    · exact h
theorem foldB_ok : ∀ (ls : List ByteArray) (x : List Pc × Nat), storeV x.1 = true → storeV (ls.foldl lineB x).1 = true ∧ (ls.foldl lineB x).2 ≤ x.2 + ls.length
  | [], x, h => ⟨h, Nat.le_refl _⟩
  | l :: r, x, h => by
    have ih := foldB_ok r (lineB x l) (takeL_valid h _)
    rw [List.foldl_cons]
    refine ⟨ih.1, Nat.le_trans ih.2 ?_⟩
    unfold lineB
    simp only
    rw [List.length_cons]
    split <;> omega
theorem bundR_ok (ls : List ByteArray) : storeV (bundR ls).1 = true ∧ (bundR ls).2 ≤ ls.length := by
  have := foldB_ok ls ([], 0) storeV_nil
  refine ⟨this.1, ?_⟩
  have h2 := this.2
  unfold bundR
  simpa using h2
theorem fit_store {st : List Pc} (h : storeV st = true) : FitP st := fun p hp => by
  have := textV_size (pieceOk_iff.1 (storeV_piece h hp)).1; omega
theorem lineB_none {st : List Pc} {bad : Nat} {s : ByteArray} (h : cutC 32 (bs s) = none) : lineB (st, bad) s = (st, bad + 1) := by
  unfold lineB takeL; rw [h]; rfl
theorem lineB_wrong {st : List Pc} {bad : Nat} {s : ByteArray} {x : Bs × Bs} (h : cutC 32 (bs s) = some x) (hp : pieceOk (readH x.1, mk x.2) = false) : lineB (st, bad) s = (st, bad + 1) := by
  unfold lineB takeL; rw [h]; simp [hp]
theorem lineB_full {st : List Pc} {bad : Nat} {s : ByteArray} {x : Bs × Bs} (h : cutC 32 (bs s) = some x) (hp : pieceOk (readH x.1, mk x.2) = true) (hok : (putT st (mk x.2)).2.2 = false) : lineB (st, bad) s = (st, bad + 1) := by
  unfold lineB takeL; rw [h]; simp [hp, hok]
theorem lineB_put {st : List Pc} {bad : Nat} {s : ByteArray} {x : Bs × Bs} (h : cutC 32 (bs s) = some x) (hp : pieceOk (readH x.1, mk x.2) = true) (hok : (putT st (mk x.2)).2.2 = true) : lineB (st, bad) s = ((putT st (mk x.2)).1, bad) := by
  unfold lineB takeL; rw [h]; simp [hp, hok]
def RbRes (r : List Pc × Nat) (w : World) (e : Ending) (w' : World) : Prop := ∃ v, e = .returned (.tuple #[v, .int .i64 (r.2 : Int)]) ∧ Own w' w.heap.size 44 2 encP v r.1 ∧ Below w.heap.size w w'
set_option maxHeartbeats 400000 in
set_option maxRecDepth 100000 in
theorem iReadBundle_any (A : Option Addr) (c : Nat) (l : List ByteArray) (w : World) (hs : Sl w encS 1 A l) (hl : l.length ≤ 16777216) (hf : ∀ s ∈ l, s.size ≤ 16777216) (ht : TzL w) (hm : MaxL w) :
    Calls Tryd.prog 12 #[.slice A l.length c] w (RbRes (bundR l) w) := by
  have HS := Lib.hid hs
  have HF := Lib.hid hf
  have HT := Lib.hid ht
  have HM := Lib.hid hm
  clear hs hf ht hm
  unfold RbRes
  generalize hrp : bundR l = R at *
  have HRP := Lib.hid hrp
  clear hrp
  go_enter Tryd.func12, Tryd.ntmps12
  go_wp2_with fail
  go_loopw [4, 5, 16] (fun v z i wr => ∃ (k bad : Nat) (st : List Pc), k ≤ l.length ∧ i = .int .i64 k ∧ z = .int .i64 bad ∧ bad ≤ k ∧ Hid (bundR (l.take k) = (st, bad)) ∧ Own wr w.heap.size 44 2 encP v st ∧ Below w.heap.size w wr) (fun _ _ i _ => l.length - (intOf i).toNat)
  case atStart => exact ⟨0, 0, [], Nat.zero_le _, rfl, rfl, Nat.le_refl _, rfl, Own.nil, Below.refl _ _⟩
  case round =>
    obtain ⟨k, bad, st, hk, rfl, rfl, hbk, hR, hown, hb⟩ := hrel
    obtain ⟨X, d, rfl, hle, hsX, _⟩ := hown.sl
    have HW := Lib.hid hown
    have HSX := Lib.hid hsX
    have HB := Lib.hid hb
    have HCZ := Lib.hid hown.cz
    have hok := bundR_ok (l.take k)
    rw [hR.out] at hok
    have HFS := Lib.hid (show FitP st from fit_store hok.1)
    have hs40 : st.length ≤ 40 := storeV_len hok.1
    by_cases hlt : k < l.length
    · obtain ⟨b, o, rfl, hc⟩ := (HS.out.below hb).getS hlt
      have hfk : l[k].size ≤ 16777216 := HF.out _ (by simp)
      have hst := bundR_step hlt hR.out
      clear hown hsX hb hok hR
      generalize l[k] = s at *
      have hct := fun w h => Cut_any s 32 w hfk h
      unfold cutV at hct
      have HN := Lib.hid (fun h => hst.trans (lineB_none h))
      have HWR := Lib.hid (fun x h hp => hst.trans (lineB_wrong (x := x) h hp))
      have HFU := Lib.hid (fun x h hp hok => hst.trans (lineB_full (x := x) h hp hok))
      have HPU := Lib.hid (fun x h hp hok => hst.trans (lineB_put (x := x) h hp hok))
      clear hst
      cases hcu : cutC 32 (bs s) with
      | none =>
        simp only [hcu] at hct
        have HC := Lib.hid hct
        have HE := Lib.hid (HN.out hcu)
        clear hct hcu HN HWR HFU HPU
        go_wp2_with fail
        refine (HC.out _ (HM.out.below HB.out)).mono ?_
        rintro e w2 ⟨rfl, hb2⟩
        have HW2 := Lib.hid (HW.out.below hb2)
        have HB2 := Lib.hid (Below_then HB.out hb2 (Nat.le_refl _))
        clear hb2 hc
        go_wp2
        go_roundw
        case rel => exact ⟨k + 1, bad + 1, st, by omega, by go_num, by go_num, by omega, HE.out, HW2.out, HB2.out⟩
        case measure => simp [intOf]; omega
      | some x =>
        obtain ⟨dg, tt⟩ := x
        have hlen := cutC_len hcu
        have hd1 : (mk dg).size ≤ 16777216 := by rw [mk_size]; omega
        have hd2 : (mk tt).size ≤ 16777216 := by rw [mk_size]; omega
        simp only [hcu] at hct
        have HC := Lib.hid hct
        have HRH := Lib.hid (fun w h => (iReadHex_any (mk dg) w hd1 h))
        have hPR := fun w => iPieceRight_any (readH dg) (mk tt) w hd2
        rw [show pieceR (readH dg, mk tt) = pieceOk (readH dg, mk tt) from rfl] at hPR
        rw [show bs (mk dg) = dg from rfl] at HRH
        have hWR := HWR.out _ hcu
        have hFU := HFU.out _ hcu
        have hPU := HPU.out _ hcu
        simp only at hWR hFU hPU
        clear hct hcu HN HWR HFU HPU hlen
        generalize readH dg = hx at *
        generalize mk dg = DG at *
        generalize mk tt = TT at *
        cases hp : pieceOk (hx, TT)
        · rw [hp] at hPR
          have HPR := Lib.hid hPR
          have HE := Lib.hid (hWR hp)
          clear hPR hp hWR hFU hPU
          go_wp2_with fail
          refine (HC.out _ (HM.out.below HB.out)).mono ?_
          rintro e w2 ⟨rfl, hb2⟩
          have HW2 := Lib.hid (HW.out.below hb2)
          have HB2 := Lib.hid (Below_then HB.out hb2 (Nat.le_refl _))
          clear hb2 hc
          go_wp2_with fail
          refine (HRH.out _ (HT.out.below HB2.out)).mono ?_
          rintro e w3 ⟨rfl, hb3⟩
          have HW3 := Lib.hid (HW2.out.below hb3)
          have HB3 := Lib.hid (Below_then HB2.out hb3 (Nat.le_refl _))
          clear hb3
          go_wp2_with fail
          refine (HPR.out _).mono ?_
          rintro e w4 ⟨rfl, hb4⟩
          have HW4 := Lib.hid (HW3.out.below hb4)
          have HB4 := Lib.hid (Below_then HB3.out hb4 (Nat.le_refl _))
          clear hb4
          go_wp2
          go_roundw
          case rel => exact ⟨k + 1, bad + 1, st, by omega, by go_num, by go_num, by omega, HE.out, HW4.out, HB4.out⟩
          case measure => simp [intOf]; omega
        · rw [hp] at hPR
          have HPR := Lib.hid hPR
          have hFU' := hFU hp
          have hPU' := hPU hp
          clear hPR hWR hFU hPU hp
          have hpt := fun w h => iPutText_any X d st TT w h HCZ.out (by omega) HFS.out hd2
          unfold PutRes at hpt
          cases hok : (putT st TT).2.2
          all_goals
            rw [hok] at hpt
            first
              | have HE := Lib.hid (hFU' hok)
              | have HE := Lib.hid (hPU' hok)
            have HPT := Lib.hid hpt
            clear hpt hok hFU' hPU'
            generalize putT st TT = r at *
            go_wp2_with fail
            refine (HC.out _ (HM.out.below HB.out)).mono ?_
            rintro e w2 ⟨rfl, hb2⟩
            have HW2 := Lib.hid (HW.out.below hb2)
            have HX2 := Lib.hid (HSX.out.below hb2)
            have HB2 := Lib.hid (Below_then HB.out hb2 (Nat.le_refl _))
            clear hb2 hc
            go_wp2_with fail
            refine (HRH.out _ (HT.out.below HB2.out)).mono ?_
            rintro e w3 ⟨rfl, hb3⟩
            have HW3 := Lib.hid (HW2.out.below hb3)
            have HX3 := Lib.hid (HX2.out.below hb3)
            have HB3 := Lib.hid (Below_then HB2.out hb3 (Nat.le_refl _))
            clear hb3
            go_wp2_with fail
            refine (HPR.out _).mono ?_
            rintro e w4 ⟨rfl, hb4⟩
            have HW4 := Lib.hid (HW3.out.below hb4)
            have HX4 := Lib.hid (HX3.out.below hb4)
            have HB4 := Lib.hid (Below_then HB3.out hb4 (Nat.le_refl _))
            clear hb4
            go_wp2_with fail
            refine (HPT.out _ HX4.out).mono ?_
            rintro e w5 ⟨v5, rfl, hown5, hb5⟩
            have HW5 := Lib.hid (hown5.mono HB4.out.size)
            have HW5b := Lib.hid (HW4.out.below hb5)
            have HB5 := Lib.hid (Below_then HB4.out hb5 (Nat.le_refl _))
            clear hown5 hb5
            go_wp2
            go_roundw
            case rel => first | exact ⟨k + 1, bad + 1, st, by omega, by go_num, by go_num, by omega, HE.out, HW5b.out, HB5.out⟩ | exact ⟨k + 1, bad, r.1, by omega, by go_num, rfl, by omega, HE.out, HW5.out, HB5.out⟩
            case measure => simp [intOf]; omega
    · have HE := Lib.hid (show R = (st, bad) by rw [← HRP.out]; have := hR.out; rwa [List.take_of_length_le (by omega)] at this)
      clear hown hsX hb hok
      go_wp2
      go_ret2
      rw [HE.out]
      exact ⟨_, rfl, HW.out, HB.out⟩
end Go.Proofs.YtaghiefokmapmaaDoor

/- Entries: the type's facts, slices.Clone, append of one. -/
set_option linter.unusedVariables false
namespace Go.Proofs.YtaghiefokmapmaaDoor
open Go.RowKit
theorem en_info : (Tryd.prog.info? 100).map (fun i => (i.zero, i.size, i.bytes)) = some (some (.agg #[.string ⟨#[]⟩, .int .i64 0]), 2, 24) := by kernel_rfl
theorem oneE : ∀ y, ∀ u ∈ encE y, u.oneCell' = true := by intro y u hu; simp [encE] at hu; rcases hu with rfl | rfl <;> rfl
section
variable {ops : Array Oper} {rest : List Oper} {o : Oper} {a : Act} {Q : Exit → Act → World → Prop} {w0 wr : World} {v : Value}
theorem app_enN {l m : List En} {A : Option Addr} {c : Nat} {s x : Operand} (hgd : o.guard = none) (ho : o.op = .call { callee := .builtin .append, args := #[s, x], argTypes := #[56, 56] })
    (hown : Own wr w0.heap.size 100 2 encE v l) (hb : Below w0.heap.size w0 wr) (hn : l.length + m.length ≤ 33554432) (hsl : Sl wr encE 2 A m) (hcz : A = none → c = 0)
    (hs : a.eval s = v) (hx : a.eval x = .slice A m.length c)
    (h : ∀ v' w', Own w' w0.heap.size 100 2 encE v' (l ++ m) → Below w0.heap.size w0 w' → Grew v wr w' → wpList Tryd.prog ops Q rest (a.put o.dst v') w') : wpList Tryd.prog ops Q (o :: rest) a wr := by
  obtain ⟨i0, hi0, hz0, hz1, hz2⟩ := info_parts en_info
  exact wpList_appN Tryd.underlying56 hi0 hz0 hz1 hz2 rfl (by decide) (by decide) hgd s x ho hown hb (Nat.le_refl _) hb.size hn hsl hcz (fun _ => rfl) oneE hs hx h
theorem app_en {base : Nat} {l : List En} {y : En} {s x : Operand} (hgd : o.guard = none) (ho : o.op = .call { callee := .builtin .append, args := #[s, x], argTypes := #[56, 56] })
    (hs : a.eval s = v) (hx : a.eval x = .slice (some ⟨wr.heap.size, 0, none⟩) 1 1)
    (hown : Own wr base 100 2 encE v l) (hb : Below w0.heap.size w0 wr) (hB : w0.heap.size ≤ base) (hbase : base ≤ wr.heap.size) (hn : l.length ≤ 16777216)
    (h : ∀ v' w', Own w' base 100 2 encE v' (l ++ [y]) → Below w0.heap.size w0 w' → wpList Tryd.prog ops Q rest (a.put o.dst v') w') : wpList Tryd.prog ops Q (o :: rest) a (wr.alloc (.cells #[.string y.1, .int .i64 y.2] 100)) := by
  obtain ⟨i0, hi0, hz0, hz1, hz2⟩ := info_parts en_info
  exact wpList_app1 Tryd.underlying56 hi0 hz0 hz1 hz2 rfl (by decide) (by decide) hgd s x ho hs hx hown hb hB hbase hn y _ rfl rfl (oneE y) h
end
end Go.Proofs.YtaghiefokmapmaaDoor

/- Where a name stands: cmp.Compare of texts, slices.BinarySearchFunc, findEntry, printNamed, walked. -/
set_option linter.unusedVariables false
namespace Go.Proofs.YtaghiefokmapmaaDoor
open Go.RowKit

def FitE (l : List En) : Prop := ∀ p ∈ l, p.1.size ≤ 16777216
def cmpS (a b : ByteArray) : Int := if lessB (tx a) (tx b) then -1 else if lessB (tx b) (tx a) then 1 else 0
theorem less_tl (a b : ByteArray) : Op.bytesLess a.toList b.toList = lessB (tx a) (tx b) := by rw [ByteArray.toList_eq, ByteArray.toList_eq]
theorem eq_tl (a b : ByteArray) : (a.toList == b.toList) = (tx a == tx b) := by rw [ByteArray.toList_eq, ByteArray.toList_eq]
theorem less_ne {a b : ByteArray} (h : lessB (tx a) (tx b) = true) : (tx a == tx b) = false := by
  rw [beq_eq_false_iff_ne]; intro e; rw [e, lessB_irrefl] at h; cases h
def PnRes (l : List En) (x : ByteArray) (w : World) (e : Ending) (w' : World) : Prop := e = .returned (.tuple #[.int .i64 ((getE l (tx x)).getD (-1)), .bool (getE l (tx x)).isSome]) ∧ Below w.heap.size w w'
end Go.Proofs.YtaghiefokmapmaaDoor

/- Appends of entries in regions that draw their order. -/
set_option linter.unusedVariables false
namespace Go.Proofs.YtaghiefokmapmaaDoor
open Go.RowKit
section
variable {ops : Array Oper} {o : Oper} {a : Act} {K : Act → World → Prop} {Q : Exit → Act → World → Prop} {E' : Prop} {w0 wr : World} {v : Value}
set_option maxRecDepth 100000 in
theorem step_enK {l m : List En} {A : Option Addr} {c n : Nat} {s x : Operand} (hw : Region.wanted o (yielded ops a.tmps) = true) (ho : o.op = .call { callee := .builtin .append, args := #[s, x], argTypes := #[56, 56] })
    (hown : Own wr w0.heap.size 100 2 encE v l) (hb : Below w0.heap.size w0 wr) (hn : l.length + m.length ≤ 33554432) (hsl : Sl wr encE 2 A m) (hcz : A = none → c = 0)
    (hs : a.eval s = v) (hmn : m.length = n) (hx : a.eval x = .slice A n c)
    (h : ∀ v' w', Own w' w0.heap.size 100 2 encE v' (l ++ m) → Below w0.heap.size w0 w' → Grew v wr w' → Kin v wr v' → K (a.put o.dst v') w') : if Region.wanted o (yielded ops a.tmps) = true then Oper.wp Tryd.prog o a wr K Q else E' := by
  subst hmn
  obtain ⟨i0, hi0, hz0, hz1, hz2⟩ := info_parts en_info
  rw [if_pos hw]
  cases A with
  | none =>
    have hm : m = [] := by
      cases m with
      | nil => rfl
      | cons y r => obtain ⟨b, o, e, _⟩ := hsl (by simp); cases e
    subst hm
    rw [hcz rfl] at hx
    have hrun := run_append_owned_none (P := Tryd.prog) (w := wr) w0.heap.size 56 o.type 100 i0 2 Tryd.underlying56 hi0 v l.length (flat encE l) hown
    have hK := h v wr (by rw [List.append_nil]; exact hown) hb (Grew.refl _ _) (fun b _ h => h)
    simp at hx
    unfold Oper.wp
    simp [execOp, ho, resolve, invoke, builtin, hs, hx, hrun, Result.andThen]
    exact hK
  | some ad =>
    obtain ⟨v', w', hr, h2, h3, h4, h5⟩ := run_append_own_at (P := Tryd.prog) wr w0.heap.size 56 o.type 100 i0 _ 2 24 Tryd.underlying56 hi0 hz0 hz1 hz2 rfl (by decide) v l.length (flat encE l) hown ad m.length c (flat encE m) (flat_length (enc := encE) (size := 2) (fun _ => rfl) m) (by
        intro j u hu
        have hpos : 0 < m.length := by
          have hlt := (List.getElem?_eq_some_iff.1 hu).1
          rw [flat_length (enc := encE) (size := 2) (fun _ => rfl)] at hlt
          cases m with
          | nil => simp at hlt
          | cons y r => simp
        obtain ⟨b, o', e, hc⟩ := hsl hpos
        injection e with e
        subst e
        have hadd : (⟨b, o', none⟩ : Addr).add j = ⟨b, o' + j, none⟩ := by unfold Addr.add; split <;> simp_all
        rw [hadd]; exact hc j u hu) (by
        intro u hu
        unfold flat at hu
        obtain ⟨y, _, hy⟩ := List.mem_flatMap.1 hu
        exact oneE y u hy) (by unfold maxLen; omega) (by omega) hb.size
    unfold Oper.wp execOp
    simp only [ho, resolve, invoke, builtin, Sem.run_bind, Sem.run_pure, Result.andThen_ok, List.map_toArray, List.map_cons, List.map_nil, hs, hx, hr]
    refine h v' w' ?_ (hb.grown h3 hb.size (fun k hk => (World.ownsRow.lt hown k hk).1)) h3 ?_
    · show w'.ownsRow _ _ _ v' (l ++ m).length (flat encE (l ++ m))
      rw [flat_append, List.length_append]; exact h2
    · intro b hb2 hne hv'
      rcases h5 with h5 | h5
      · exact hne (h5 ▸ hv')
      · rw [h5] at hv'; injection hv' with e; omega
end
theorem some_ne {a : Addr} {c : Nat} : (some a : Option Addr) = none → c = 0 := fun h => by cases h
abbrev rowEn (y : En) : Obj := .cells #[.string y.1, .int .i64 y.2] 100
abbrev madeEn : Obj := .cells #[] 100
theorem slEn_new (w : World) (y : En) : Sl (w.alloc (rowEn y)) encE 2 (some ⟨w.heap.size, 0, none⟩) [y] := by
  intro _
  refine ⟨w.heap.size, 0, rfl, fun j u hu => ?_⟩
  rw [cell_of_row _ _ _ _ 100 (0, 0) (heap_alloc_new w _)]
  rw [Nat.zero_add]
  simpa [flat, encE] using hu
theorem size_one (w : World) (o : Obj) : (w.alloc o).drew.heap.size = w.heap.size + 1 := by
  show (w.alloc o).heap.size = _
  simp
theorem slEn_one (w : World) (y : En) : Sl ((w.alloc madeEn).drew.alloc (rowEn y)) encE 2 (some ⟨w.heap.size + 1, 0, none⟩) [y] := by
  have h := slEn_new (w.alloc madeEn).drew y
  rw [size_one] at h; exact h
theorem ownEn_one (w : World) (y : En) : Own ((w.alloc (rowEn y)).drew.alloc madeEn) w.heap.size 100 2 encE (.slice (some ⟨w.heap.size + 1, 0, none⟩) 0 0) [] := by
  have h := Own.made (w := (w.alloc (rowEn y)).drew) (base := w.heap.size) (enc := encE) (E := 100) (size := 2) (by rw [size_one]; omega)
  rw [size_one] at h; exact h
theorem Sl.takeE {w : World} {A : Option Addr} {l : List En} {n : Nat} (h : Sl w encE 2 A l) : Sl w encE 2 A (l.take n) := by
  intro hn
  have hlt : 0 < l.length := by rw [List.length_take] at hn; omega
  obtain ⟨b, o, e, hc⟩ := h hlt
  refine ⟨b, o, e, fun j u hu => hc j u ?_⟩
  have e2 : flat encE l = flat encE (l.take n) ++ flat encE (l.drop n) := by rw [← flat_append, List.take_append_drop]
  rw [e2, List.getElem?_append_left (List.getElem?_eq_some_iff.1 hu).1]; exact hu
theorem Sl.dropE {w : World} {b o : Nat} {l : List En} {n : Nat} (h : Sl w encE 2 (some ⟨b, o, none⟩) l) (hn : n ≤ l.length) : Sl w encE 2 (some ⟨b, o + n * 2, none⟩) (l.drop n) := by
  intro hd
  have hlt : 0 < l.length := by rw [List.length_drop] at hd; omega
  obtain ⟨b2, o2, e, hc⟩ := h hlt
  injection e with e; injection e with e1 e2
  subst e1 e2
  refine ⟨b, o + n * 2, rfl, fun j u hu => ?_⟩
  have e2 : flat encE l = flat encE (l.take n) ++ flat encE (l.drop n) := by rw [← flat_append, List.take_append_drop]
  have hlen : (flat encE (l.take n)).length = n * 2 := by rw [flat_length (enc := encE) (size := 2) (fun _ => rfl), List.length_take]; congr 1; omega
  have := hc (n * 2 + j) u (by rw [e2, List.getElem?_append_right (by omega), hlen]; simpa using hu)
  rwa [← Nat.add_assoc] at this
def BoxE (w : World) (g : Nat) (y : En) : Prop := w.cell? ⟨g, 0, none⟩ = some (.string y.1) ∧ w.cell? ⟨g, 1, none⟩ = some (.int .i64 y.2)
theorem BoxE.new (w : World) (y : En) : BoxE (w.alloc (rowEn y)) w.heap.size y := ⟨new_cell rfl, new_cell rfl⟩
theorem BoxE.below {w w' : World} {g : Nat} {y : En} (h : BoxE w g y) (hb : Below w.heap.size w w') : BoxE w' g y := ⟨Below_cells hb _ _ _ h.1, Below_cells hb _ _ _ h.2⟩
theorem fitE_valid {l : List En} (h : entsV l = true) : FitE l := fun e he => by
  have := (entOk_iff.1 (entsV_ok h he)).1
  unfold wordV at this
  rw [Bool.and_eq_true, Bool.and_eq_true, decide_eq_true_eq] at this
  have h2 : (tx e.1).length = e.1.size := by simp
  omega
theorem fitE_ins {l : List En} (h : entsV l = true) {e : En} (he : e.1.size ≤ 16777216) : FitE (insE l e) := fun x hx => by
  rcases (mem_insE (entsV_sorted h) e x).1 hx with rfl | ⟨hx, _⟩
  · exact he
  · exact fitE_valid h x hx
end Go.Proofs.YtaghiefokmapmaaDoor

/- Children by name as the reference looks for them; what a change of a store answers. Plain but for one shape of answers. -/
set_option linter.unusedVariables false
namespace Go.Proofs.YtaghiefokmapmaaDoor
open Go.RowKit
def chE (l : List En) (n : Bs) (k : Nat) : Int := (l.take k).foldl (fun c e => if tx e.1 = n then e.2 else c) (-1)
theorem chE_zero (l : List En) (n : Bs) : chE l n 0 = -1 := rfl
theorem chE_yes {l : List En} {n : Bs} {k : Nat} (hk : k < l.length) (h : tx l[k].1 = n) : chE l n (k + 1) = l[k].2 := by
  unfold chE
  rw [List.take_succ_eq_append_getElem hk, List.foldl_append, List.foldl_cons, List.foldl_nil, if_pos h]
theorem chE_no {l : List En} {n : Bs} {k : Nat} (hk : k < l.length) (h : tx l[k].1 ≠ n) : chE l n (k + 1) = chE l n k := by
  unfold chE
  rw [List.take_succ_eq_append_getElem hk, List.foldl_append, List.foldl_cons, List.foldl_nil, if_neg h]
theorem chE_fold {n : Bs} : ∀ (l : List En), SortE l → ∀ c : Int, l.foldl (fun c e => if tx e.1 = n then e.2 else c) c = (getE l n).getD c
  | [], _, c => rfl
  | x :: r, hs, c => by
    have h1 := List.pairwise_cons.1 hs
    rw [List.foldl_cons]
    by_cases hx : tx x.1 = n
    · have hn : getE r n = none := getE_none_iff.2 fun y hy e => by
        have h2 := h1.1 y hy
        rw [hx, e, lessB_irrefl] at h2; cases h2
      have hg : getE (x :: r) n = some x.2 := by unfold getE; rw [List.find?_cons_of_pos (by simpa using hx)]; rfl
      rw [if_pos hx, chE_fold r h1.2, hn, hg]; rfl
    · have hg : getE (x :: r) n = getE r n := by unfold getE; rw [List.find?_cons_of_neg (by simpa using hx)]
      rw [if_neg hx, chE_fold r h1.2, hg]
theorem chE_all {l : List En} {n : Bs} (hs : SortE l) {k : Nat} (hk : l.length ≤ k) : chE l n k = (getE l n).getD (-1) := by
  unfold chE
  rw [List.take_of_length_le hk, chE_fold l hs]
theorem getE_pos {l : List En} {n : Bs} {q : Int} (hv : entsV l = true) (h : getE l n = some q) : 0 ≤ q := pv_nonneg (entOk_iff.1 (entsV_ok hv (getE_some h))).2
theorem setP_valid {s : List Pc} {a : Option Int} {ps : List Bs} {leaf : Int} {x : List Pc × Int} (hs : storeV s = true) (h : setP s a ps leaf = some x) : storeV x.1 = true := by
  unfold setP at h
  obtain ⟨fs, _, h⟩ := Option.bind_eq_some_iff.1 h
  obtain ⟨y, _, h⟩ := Option.bind_eq_some_iff.1 h
  obtain ⟨s', hp, h⟩ := Option.map_eq_some_iff.1 h
  subst h
  exact (putAll_ok _ _ _ hs hp).1
theorem dropS_valid {s : List Pc} {fs : List (List En)} {ps : List Bs} {x : List Pc × Int} (hs : storeV s = true) (h : dropS s fs ps = some x) : storeV x.1 = true := by
  unfold dropS at h
  obtain ⟨s', hp, h⟩ := Option.map_eq_some_iff.1 h
  subst h
  exact (putAll_ok _ _ _ hs hp).1
theorem listAt_valid {s : List Pc} {a : Option Int} {l : List En} (h : listAt s a = some l) : entsV l = true := by
  cases a with
  | none => have h : some [] = some l := h; injection h with h; subst h; rfl
  | some p => exact folder_valid h
/-- A store and a print, and whether it was possible: the store may be the one that came in. -/
def SetRes (r : Option (List Pc × Int)) (w : World) (e : Ending) (w' : World) : Prop :=
  ∃ (v : Value) (m : Int), e = .returned (.tuple #[v, .int .i64 m, .bool r.isSome]) ∧ Below w.heap.size w w' ∧ ∀ x, r = some x → m = x.2 ∧ ∃ A c, v = .slice A x.1.length c ∧ Sl w' encP 2 A x.1 ∧ (A = none → c = 0) ∧ x.1.length ≤ c
theorem SetRes.no {r : Option (List Pc × Int)} {w w' : World} {v : Value} {m : Int} (h : r = none) (hb : Below w.heap.size w w') : SetRes r w (.returned (.tuple #[v, .int .i64 m, .bool false])) w' := by
  subst h; exact ⟨v, m, rfl, hb, fun x h => by cases h⟩
theorem SetRes.yes {r : Option (List Pc × Int)} {w w' : World} {A : Option Addr} {c : Nat} {l : List Pc} {m : Int} (h : r = some (l, m)) (hb : Below w.heap.size w w') (hs : Sl w' encP 2 A l) (hcz : A = none → c = 0) (hle : l.length ≤ c) : SetRes r w (.returned (.tuple #[.slice A l.length c, .int .i64 m, .bool true])) w' := by
  subst h; exact ⟨_, m, rfl, hb, fun x h => by injection h with h; subst h; exact ⟨rfl, A, c, rfl, hs, hcz, hle⟩⟩
/-- What the text put last answers is the answer. -/
theorem SetRes.put {r : Option (List Pc × Int)} {l : List Pc} {t : ByteArray} {w w1 w2 : World} {v : Value} (h : r = if (putT l t).2.2 then some ((putT l t).1, prOf (tx t)) else none) (hown : Own w2 w1.heap.size 44 2 encP v (putT l t).1) (hb1 : Below w.heap.size w w1) (hb : Below w1.heap.size w1 w2) :
    SetRes r w (.returned (.tuple #[v, .int .i64 (putT l t).2.1, .bool (putT l t).2.2])) w2 := by
  have hbb := Below_then hb1 hb (Nat.le_refl _)
  cases hok : (putT l t).2.2
  · rw [hok, if_neg (by simp)] at h
    exact SetRes.no h hbb
  · rw [hok, if_pos rfl] at h
    obtain ⟨A, c, rfl, hle, hs, _⟩ := hown.sl
    have hcz := hown.cz
    rw [(putT_ok hok).2.2]
    exact SetRes.yes h hbb hs hcz hle
theorem Sl.dropS {w : World} {b o : Nat} {l : List ByteArray} (h : Sl w encS 1 (some ⟨b, o, none⟩) l) : Sl w encS 1 (some ⟨b, o + 1, none⟩) (l.drop 1) := by
  intro hd
  have hlt : 0 < l.length := by rw [List.length_drop] at hd; omega
  obtain ⟨b2, o2, e, hc⟩ := h hlt
  injection e with e; injection e with e1 e2
  subst e1 e2
  refine ⟨b, o + 1, rfl, fun j u hu => ?_⟩
  have e2 : flat encS l = flat encS (l.take 1) ++ flat encS (l.drop 1) := by rw [← flat_append, List.take_append_drop]
  have hlen : (flat encS (l.take 1)).length = 1 := by rw [flat_length (enc := encS) (size := 1) (fun _ => rfl), List.length_take]; omega
  have := hc (1 + j) u (by rw [e2, List.getElem?_append_right (by omega), hlen]; simpa using hu)
  rwa [← Nat.add_assoc] at this
theorem Sl.gone {α : Type} {w : World} {enc : α → List Value} {size : Nat} {A : Option Addr} {l : List α} (h : l.length = 0) : Sl w enc size A l := fun hd => by omega
end Go.Proofs.YtaghiefokmapmaaDoor

/- '==' and '!=' of structs. -/
set_option linter.unusedVariables false
namespace Go.Proofs.YtaghiefokmapmaaDoor
open Go.RowKit

theorem pc_under : Tryd.prog.underlying 44 = some (.struct (Tryd.prog.fieldsOf 44)) := by kernel_rfl
theorem pc_held : Tryd.prog.stoodInHeld 44 = false := by kernel_rfl
theorem pc_guard : Tryd.prog.eqGuardType Tryd.prog.depth 44 = false := by kernel_rfl
theorem eq_pc (w : World) (a0 b0 : Int) (a1 b1 : ByteArray) : (Op.equalIn 10000 44 (.agg #[.int .i64 a0, .string a1]) (.agg #[.int .i64 b0, .string b1])).run Tryd.prog w = .ok ((a0 == b0) && (a1.toList == b1.toList)) w := by
  rw [run_equalIn_agg w 9999 _ _ _ pc_under pc_held]
  unfold Program.fieldsOf
  simp [Tryd.underlying44, Op.eqFields, go_sem]
  by_cases h0 : a0 = b0 <;> by_cases h1 : a1.toList = b1.toList <;> simp [h0, h1]
theorem vr_under : Tryd.prog.underlying 60 = some (.struct (Tryd.prog.fieldsOf 60)) := by kernel_rfl
theorem vr_held : Tryd.prog.stoodInHeld 60 = false := by kernel_rfl
theorem vr_guard : Tryd.prog.eqGuardType Tryd.prog.depth 60 = false := by kernel_rfl
theorem eq_vr (w : World) (a0 b0 : Int) (a1 b1 : Int) (a2 b2 : ByteArray) : (Op.equalIn 10000 60 (.agg #[.int .i64 a0, .int .i64 a1, .string a2]) (.agg #[.int .i64 b0, .int .i64 b1, .string b2])).run Tryd.prog w = .ok ((a0 == b0) && ((a1 == b1) && (a2.toList == b2.toList))) w := by
  rw [run_equalIn_agg w 9999 _ _ _ vr_under vr_held]
  unfold Program.fieldsOf
  simp [Tryd.underlying60, Op.eqFields, go_sem]
  by_cases h0 : a0 = b0 <;> by_cases h1 : a1 = b1 <;> by_cases h2 : a2.toList = b2.toList <;> simp [h0, h1, h2]
end Go.Proofs.YtaghiefokmapmaaDoor

/- Versions and tags, walked. -/
set_option linter.unusedVariables false
namespace Go.Proofs.YtaghiefokmapmaaDoor
open Go.RowKit

def FitV (l : List Vr) : Prop := ∀ v ∈ l, v.2.2.size ≤ 16777216
theorem FitV.at {l : List Vr} (h : FitV l) {k : Nat} (hk : k < l.length) : l[k].2.2.size ≤ 16777216 := h _ (by simp)
theorem verAt_no {k : Nat} {v : Vr} (h : pv v.1 = false ∨ v.2.1 < -1 ∨ (k : Int) ≤ v.2.1 ∨ wordV (bs v.2.2) = false) : verAt k v = false := by
  cases hv : verAt k v
  · rfl
  · obtain ⟨h1, h2, h3, h4⟩ := verAt_iff.1 hv
    rcases h with h | h | h | h
    · rw [h] at h1; cases h1
    · omega
    · omega
    · rw [h] at h4; cases h4
theorem versV_bad {l : List Vr} {k : Nat} (hk : k < l.length) (h : verAt k l[k] = false) : versV l = false := by
  unfold versV; rw [versFrom_bad hk h, Bool.and_false]
theorem versV_long {l : List Vr} (h : ¬ l.length ≤ 12) : versV l = false := by unfold versV; rw [decide_eq_false h]; rfl
theorem versV_good {l : List Vr} {k : Nat} (hk : ¬ k < l.length) (h : versFrom 0 (l.take k) = true) (hl : l.length ≤ 12) : versV l = true := by
  unfold versV; rw [versFrom_all hk h, decide_eq_true hl]; rfl

set_option maxHeartbeats 4000000 in
set_option maxRecDepth 100000 in
theorem iVersionsValid_any (A : Option Addr) (c : Nat) (l : List Vr) (w : World) (hs : Sl w encV 3 A l) (hl : l.length ≤ 16777216) (hf : FitV l) :
    Calls Tryd.prog 37 #[.slice A l.length c] w fun e w' => e = .returned (.bool (versV l)) ∧ Below w.heap.size w w' := by
  have HS := Lib.hid hs
  have HF := Lib.hid hf
  clear hs hf
  by_cases h12 : l.length ≤ 12
  case neg =>
    rw [versV_long h12]
    go_enter Tryd.func37, Tryd.ntmps37
    go_wp2
    go_ret
    exact ⟨rfl, Below.refl _ _⟩
  go_enter Tryd.func37, Tryd.ntmps37
  go_wp2
  go_loopw [10] (fun i wr => ∃ (k : Nat), k ≤ l.length ∧ i = .int .i64 k ∧ Hid (versFrom 0 (l.take k) = true) ∧ Hid (Below w.heap.size w wr)) (fun i _ => l.length - (intOf i).toNat)
  case atStart => exact ⟨0, Nat.zero_le _, rfl, rfl, Below.refl _ _⟩
  case round =>
    obtain ⟨k, hk, rfl, hh, HB⟩ := hrel
    by_cases hlt : k < l.length
    · obtain ⟨b, o, rfl, hc0, hc1, hc2⟩ := (HS.out.below HB.out).getV hlt
      have hfk := HF.out.at hlt
      have HBAD := Lib.hid (@versV_bad l k hlt)
      have hnx := versFrom_take hlt
      rw [hh.out, Bool.true_and] at hnx
      have HNX := Lib.hid hnx
      clear hnx
      have HB2 := Lib.hid (HB.out.alloc HB.out.size (.cells #[.int .i64 l[k].1, .int .i64 l[k].2.1, .string l[k].2.2] 60))
      generalize l[k] = v at *
      cases h1 : pv v.1
      · have HE := Lib.hid (HBAD.out (verAt_no (.inl h1)))
        go_wp2_with (go_at_call 45; refine (iprintValid_any _ _).mono ?_; rintro e w' ⟨rfl, rfl⟩)
        go_ret
        exact ⟨ret_bool HE.out.symm, HB2.out⟩
      · by_cases h2 : v.2.1 < -1
        · have HE := Lib.hid (HBAD.out (verAt_no (.inr (.inl h2))))
          go_wp2_with (go_at_call 45; refine (iprintValid_any _ _).mono ?_; rintro e w' ⟨rfl, rfl⟩)
          go_ret
          exact ⟨ret_bool HE.out.symm, HB2.out⟩
        · by_cases h3 : (k : Int) ≤ v.2.1
          · have HE := Lib.hid (HBAD.out (verAt_no (.inr (.inr (.inl h3)))))
            go_wp2_with (go_at_call 45; refine (iprintValid_any _ _).mono ?_; rintro e w' ⟨rfl, rfl⟩)
            go_ret
            exact ⟨ret_bool HE.out.symm, HB2.out⟩
          · cases h4 : wordV (bs v.2.2)
            · have HE := Lib.hid (HBAD.out (verAt_no (.inr (.inr (.inr h4)))))
              go_wp2_with (first | (go_at_call 45; refine (iprintValid_any _ _).mono ?_; rintro e w' ⟨rfl, rfl⟩) | (go_at_call 26; refine (iWordValid_any _ _ hfk).mono ?_; rintro e w' ⟨rfl, rfl⟩))
              go_ret
              exact ⟨ret_bool HE.out.symm, HB2.out⟩
            · have HE := Lib.hid (HNX.out.trans (verAt_iff.2 ⟨h1, by omega, by omega, h4⟩))
              go_wp2_with (first | (go_at_call 45; refine (iprintValid_any _ _).mono ?_; rintro e w' ⟨rfl, rfl⟩) | (go_at_call 26; refine (iWordValid_any _ _ hfk).mono ?_; rintro e w' ⟨rfl, rfl⟩))
              go_roundw
              case rel => exact ⟨k + 1, by omega, by go_num, HE.out, HB2.out⟩
              case measure => simp [intOf]; omega
    · have HE := Lib.hid (versV_good hlt hh.out h12)
      go_wp2
      go_ret
      exact ⟨ret_bool HE.out.symm, HB.out⟩
set_option maxHeartbeats 4000000 in
set_option maxRecDepth 100000 in
theorem sVersionsValid_any (A : Option Addr) (c : Nat) (l : List Vr) (w : World) (hs : Sl w encV 3 A l) (hl : l.length ≤ 16777216) (hf : FitV l) :
    Calls Tryd.prog 39 #[.slice A l.length c] w fun e w' => e = .returned (.bool (versV l)) ∧ w = w' := by
  have HS := Lib.hid hs
  have HF := Lib.hid hf
  clear hs hf
  go_enter Tryd.func39, Tryd.ntmps39
  go_wp2
  go_loop [3] (fun i => ∃ (k : Nat), k ≤ l.length ∧ i = .int .i64 k ∧ Hid (versFrom 0 (l.take k) = true)) (fun i => l.length - (intOf i).toNat)
  case atStart => exact ⟨0, Nat.zero_le _, rfl, rfl⟩
  case round =>
    obtain ⟨k, hk, rfl, hh⟩ := hrel
    by_cases hlt : k < l.length
    · obtain ⟨b, o, rfl, hc0, hc1, hc2⟩ := HS.out.getV hlt
      have hfk := HF.out.at hlt
      have HBAD := Lib.hid (@versV_bad l k hlt)
      have hnx := versFrom_take hlt
      rw [hh.out, Bool.true_and] at hnx
      have HNX := Lib.hid hnx
      clear hnx
      generalize l[k] = v at *
      cases h1 : inI v.1 0 16777212
      · have HE := Lib.hid (HBAD.out (verAt_no (.inl h1)))
        go_wp2_with (go_at_call 47; refine (sl1In_any _ _ _ _).mono ?_; rintro e w' ⟨rfl, rfl⟩)
        go_ret
        exact ⟨ret_bool HE.out.symm, rfl⟩
      · cases h2 : inI v.2.1 (-1) ((k : Int) - 1)
        · have HE := Lib.hid (HBAD.out (verAt_no (by simp only [inI, decide_eq_false_iff_not] at h2; by_cases h : v.2.1 < -1; exact .inr (.inl h); exact .inr (.inr (.inl (by omega))))))
          go_wp2_with (go_at_call 47; refine (sl1In_any _ _ _ _).mono ?_; rintro e w' ⟨rfl, rfl⟩)
          go_ret
          exact ⟨ret_bool HE.out.symm, rfl⟩
        · cases h4 : wordV (bs v.2.2)
          · have HE := Lib.hid (HBAD.out (verAt_no (.inr (.inr (.inr h4)))))
            go_wp2_with (first | (go_at_call 47; refine (sl1In_any _ _ _ _).mono ?_; rintro e w' ⟨rfl, rfl⟩) | (go_at_call 59; refine (sWordValid_any _ _ hfk).mono ?_; rintro e w' ⟨rfl, rfl⟩))
            go_ret
            exact ⟨ret_bool HE.out.symm, rfl⟩
          · have h22 : -1 ≤ v.2.1 ∧ v.2.1 ≤ (k : Int) - 1 := by simpa [inI] using h2
            have HE := Lib.hid (HNX.out.trans (verAt_iff.2 ⟨h1, by omega, by omega, h4⟩))
            clear h22
            go_wp2_with (first | (go_at_call 47; refine (sl1In_any _ _ _ _).mono ?_; rintro e w' ⟨rfl, rfl⟩) | (go_at_call 59; refine (sWordValid_any _ _ hfk).mono ?_; rintro e w' ⟨rfl, rfl⟩))
            go_round
            case rel => exact ⟨k + 1, by omega, by go_num, HE.out⟩
            case measure => simp [intOf]; omega
    · by_cases h12 : l.length ≤ 12
      · have HE := Lib.hid (versV_good hlt hh.out h12)
        go_wp2
        go_ret
        exact ⟨ret_bool (by rw [HE.out]; simp; omega), rfl⟩
      · have HE := Lib.hid (versV_long h12)
        go_wp2
        go_ret
        exact ⟨ret_bool (by rw [HE.out]; simp; omega), rfl⟩

/-! ### prints of lists -/
def prFold (l : List Int) (k : Nat) : Int := (l.take k).foldl prPair 5
theorem prFold_succ {l : List Int} {k : Nat} (h : k < l.length) : prFold l (k + 1) = prPair (prFold l k) l[k] := by
  unfold prFold; rw [List.take_succ_eq_append_getElem h, List.foldl_append]; rfl
theorem prFold_pv {l : List Int} (h : l.all pv = true) : ∀ k, k ≤ l.length → pv (prFold l k) = true
  | 0, _ => (by show pv 5 = true; decide)
  | k + 1, hk => by rw [prFold_succ (by omega)]; exact prPair_pv (prFold_pv h k (by omega)) (List.all_eq_true.1 h _ (by simp))
theorem prList_ok {l : List Int} (hl : l.length ≤ 20) (h : l.all pv = true) {k : Nat} (hk : ¬ k < l.length) : prList l = prFold l k := by
  unfold prList prFold; rw [if_pos ⟨hl, h⟩, List.take_of_length_le (by omega)]
theorem prList_bad {l : List Int} (h : ¬ l.length ≤ 20 ∨ l.all pv = false) : prList l = -1 := by
  unfold prList; rw [if_neg]; rintro ⟨h1, h2⟩; rcases h with h | h
  · exact h h1
  · rw [h] at h2; cases h2
/-! ### tags -/
def zeroT : Tg := (⟨#[]⟩, 0, 0, 0)
def mkT (l : List Vr) (name : ByteArray) (n : Int) : Tg := (makeTag l name n).getD zeroT
def mkOk (l : List Vr) (name : ByteArray) (n : Int) : Bool := (makeTag l name n).isSome
abbrev tgV (t : Tg) : Value := .agg #[.string t.1, .int .i64 t.2.1, .int .i64 t.2.2.1, .int .i64 t.2.2.2]
def MkR (l : List Vr) (name : ByteArray) (n : Int) (w : World) (e : Ending) (w' : World) : Prop :=
  e = .returned (.tuple #[tgV (mkT l name n), .bool (mkOk l name n)]) ∧ Below w.heap.size w w'
theorem MkR.no {l : List Vr} {name : ByteArray} {n : Int} (h : wordV (bs name) = false ∨ versV l = false ∨ n < 0 ∨ (l.length : Int) ≤ n) {w w' : World} (hb : Below w.heap.size w w') : MkR l name n w (.returned (.tuple #[.agg #[.string ⟨#[]⟩, .int .i64 0, .int .i64 0, .int .i64 0], .bool false])) w' := by
  have e := makeTag_none h
  exact ⟨by unfold mkT mkOk; rw [e]; rfl, hb⟩
theorem MkR.yes {l : List Vr} {name : ByteArray} {k : Nat} (hw : wordV (bs name) = true) (hv : versV l = true) (hk : k < l.length) {w w' : World} (hb : Below w.heap.size w w') : MkR l name k w (.returned (.tuple #[.agg #[.string name, .int .i64 (k : Int), .int .i64 l[k].1, .int .i64 (prList [prOf (bs name), (k : Int), l[k].1])], .bool true])) w' := by
  have e := makeTag_ok hw hv hk
  exact ⟨by unfold mkT mkOk; rw [e]; rfl, hb⟩
/-- The variable of a result that is a tag. -/
theorem tag_var {w w1 : World} {cs : Array Value} {E : TypeId} (hb : Below (w.alloc (.cells cs E)).heap.size (w.alloc (.cells cs E)) w1) : w1.heap[w.heap.size]? = some (.cells cs E (0, 0)) :=
  (hb.block _ (by simp)).trans (heap_alloc_new w _)

theorem Sl.new3 {w : World} {a b c : Int} {E : TypeId} : Sl (w.alloc (.cells #[.int .i64 a, .int .i64 b, .int .i64 c] E)) encI 1 (some ⟨w.heap.size, 0, none⟩) [a, b, c] := by
  intro _
  refine ⟨w.heap.size, 0, rfl, fun j u hu => ?_⟩
  rw [cell_of_row _ _ _ _ E (0, 0) (heap_alloc_new w _)]
  simpa [flat, encI] using hu
end Go.Proofs.YtaghiefokmapmaaDoor

/- Tags: copies, sizes, comparisons and marks of their slices, as laws make them. Written by structgen.py. -/
set_option linter.unusedVariables false
namespace Go.Proofs.YtaghiefokmapmaaDoor
open Go.RowKit

def markTagL (k n : Nat) : List Tg := (List.range n).map fun j => (mk (markT (k + 4 * j + 0)), ((k + 4 * j + 1 : Nat) : Int), ((k + 4 * j + 2 : Nat) : Int), ((k + 4 * j + 3 : Nat) : Int))
theorem markTagL_len (k n : Nat) : (markTagL k n).length = n := by simp [markTagL]
theorem markTagL_succ (k n : Nat) : markTagL k (n + 1) = markTagL k n ++ [(mk (markT (k + 4 * n + 0)), ((k + 4 * n + 1 : Nat) : Int), ((k + 4 * n + 2 : Nat) : Int), ((k + 4 * n + 3 : Nat) : Int))] := by simp [markTagL, List.range_succ]
theorem markTagL_at {k n j : Nat} (h : j < n) : (markTagL k n)[j]'(by rw [markTagL_len]; exact h) = (mk (markT (k + 4 * j + 0)), ((k + 4 * j + 1 : Nat) : Int), ((k + 4 * j + 2 : Nat) : Int), ((k + 4 * j + 3 : Nat) : Int)) := by simp [markTagL]
/-- What is told of a slice of such structs that came in. -/
def TagsIn (w : World) (A : Option Addr) (n c : Nat) : Prop := ∃ l : List Tg, l.length = n ∧ n ≤ c ∧ c ≤ maxLen ∧ Sl w encT 4 A l ∧ ∀ p ∈ l, p.1.size ≤ maxLen
end Go.Proofs.YtaghiefokmapmaaDoor

/- Tags, walked: right ones. -/
set_option linter.unusedVariables false
namespace Go.Proofs.YtaghiefokmapmaaDoor
open Go.RowKit

theorem bytes_ext {a b : ByteArray} (h : (a.toList == b.toList) = true) : a = b := by
  have h2 := beq_iff_eq.1 h
  rw [ByteArray.toList_eq, ByteArray.toList_eq] at h2
  obtain ⟨⟨x⟩⟩ := a
  obtain ⟨⟨y⟩⟩ := b
  simp at h2; subst h2; rfl
def eqT (a b : Tg) : Bool := (a.1.toList == b.1.toList) && ((a.2.1 == b.2.1) && ((a.2.2.1 == b.2.2.1) && (a.2.2.2 == b.2.2.2)))
theorem eqT_iff {a b : Tg} : eqT a b = true ↔ a = b := by
  unfold eqT
  constructor
  · intro h
    simp only [Bool.and_eq_true, beq_iff_eq] at h
    obtain ⟨h1, h2, h3, h4⟩ := h
    obtain ⟨a1, a2, a3, a4⟩ := a
    obtain ⟨b1, b2, b3, b4⟩ := b
    simp only at h1 h2 h3 h4
    have := bytes_ext (beq_iff_eq.2 h1)
    subst this h2 h3 h4; rfl
  · rintro rfl; simp
theorem tagR_ok {l : List Vr} {t : Tg} (h : mkOk l t.1 t.2.1 = true) : tagR l t = eqT (mkT l t.1 t.2.1) t := by
  unfold mkOk at h
  cases hm : makeTag l t.1 t.2.1 with
  | none => rw [hm] at h; cases h
  | some m =>
    have e : mkT l t.1 t.2.1 = m := by unfold mkT; rw [hm]; rfl
    rw [e, Bool.eq_iff_iff, eqT_iff, tagR_iff, hm]
    exact ⟨fun h => Option.some.inj h, fun h => congrArg some h⟩
theorem tagR_no {l : List Vr} {t : Tg} (h : mkOk l t.1 t.2.1 = false) : tagR l t = false := by
  unfold mkOk at h
  cases hm : makeTag l t.1 t.2.1 with
  | none =>
    cases ht : tagR l t
    · rfl
    · rw [tagR_iff.1 ht] at hm; cases hm
  | some m => rw [hm] at h; cases h
theorem rightTags_take_yes {l : List Vr} {ts : List Tg} {k : Nat} (h : k < ts.length) (hp : tagR l ts[k] = true) : rightTags l (ts.take (k + 1)) = rightTags l (ts.take k) ++ [ts[k]] := filter_take_yes h hp
theorem rightTags_take_no {l : List Vr} {ts : List Tg} {k : Nat} (h : k < ts.length) (hp : tagR l ts[k] = false) : rightTags l (ts.take (k + 1)) = rightTags l (ts.take k) := filter_take_no h hp
def FitT (l : List Tg) : Prop := ∀ t ∈ l, t.1.size ≤ 16777216
theorem FitT.at {l : List Tg} (h : FitT l) {k : Nat} (hk : k < l.length) : l[k].1.size ≤ 16777216 := h _ (by simp)
section
variable {ops : Array Oper} {rest : List Oper} {o : Oper} {a : Act} {Q : Exit → Act → World → Prop} {w0 wr : World} {v : Value}
end
theorem rightTags_len (l : List Vr) (ts : List Tg) : (rightTags l ts).length ≤ ts.length := List.length_filter_le _ _
end Go.Proofs.YtaghiefokmapmaaDoor

/- Versions: copies, sizes, comparisons and marks of their slices, as laws make them. Written by structgen.py. -/
set_option linter.unusedVariables false
namespace Go.Proofs.YtaghiefokmapmaaDoor
open Go.RowKit

theorem encV_info : (Tryd.prog.info? 60).map (fun i => (i.zero, i.size, i.bytes)) = some (some (.agg #[.int .i64 0, .int .i64 0, .string ⟨#[]⟩]), 3, 32) := by kernel_rfl
def markVersionL (k n : Nat) : List Vr := (List.range n).map fun j => (((k + 3 * j + 0 : Nat) : Int), ((k + 3 * j + 1 : Nat) : Int), mk (markT (k + 3 * j + 2)))
theorem markVersionL_len (k n : Nat) : (markVersionL k n).length = n := by simp [markVersionL]
theorem markVersionL_succ (k n : Nat) : markVersionL k (n + 1) = markVersionL k n ++ [(((k + 3 * n + 0 : Nat) : Int), ((k + 3 * n + 1 : Nat) : Int), mk (markT (k + 3 * n + 2)))] := by simp [markVersionL, List.range_succ]
theorem markVersionL_at {k n j : Nat} (h : j < n) : (markVersionL k n)[j]'(by rw [markVersionL_len]; exact h) = (((k + 3 * j + 0 : Nat) : Int), ((k + 3 * j + 1 : Nat) : Int), mk (markT (k + 3 * j + 2))) := by simp [markVersionL]
/-- What is told of a slice of such structs that came in. -/
def VersionsIn (w : World) (A : Option Addr) (n c : Nat) : Prop := ∃ l : List Vr, l.length = n ∧ n ≤ c ∧ c ≤ maxLen ∧ Sl w encV 3 A l ∧ ∀ p ∈ l, p.2.2.size ≤ maxLen
end Go.Proofs.YtaghiefokmapmaaDoor

/- Versions: append, a copy, one more. -/
set_option linter.unusedVariables false
namespace Go.Proofs.YtaghiefokmapmaaDoor
open Go.RowKit

theorem step_appN {P : Program} {α : Type} {enc : α → List Value} {ops : Array Oper} {o : Oper} {a : Act} {K : Act → World → Prop} {Q : Exit → Act → World → Prop} {E' : Prop} {w0 wr : World} {B base size bytes : Nat} {t E : TypeId} {i : TypeInfo} {z : Value} {v : Value} {l m : List α} {A : Option Addr} {c : Nat}
    (ht : P.underlying t = some (.slice E)) (hi : P.info? E = some i) (hz : i.zero = some z) (hsize : i.size = size) (hby : i.bytes = bytes) (hzs : z.cells.size = size) (hsz : 0 < size) (hb200 : bytes ≤ 256)
    (hgd : o.guard = none) (s x : Operand) (ho : o.op = .call { callee := .builtin .append, args := #[s, x], argTypes := #[t, t] })
    (hown : Own wr base E size enc v l) (hb : Below B w0 wr) (hB : B ≤ base) (hbase : base ≤ wr.heap.size) (hn : l.length + m.length ≤ 33554432)
    (hsl : Sl wr enc size A m) (hcz : A = none → c = 0) (hce : ∀ y, (enc y).length = size) (h1 : ∀ y, ∀ u ∈ enc y, u.oneCell' = true)
    (hs : a.eval s = v) (hx : a.eval x = .slice A m.length c)
    (h : ∀ v' w', Own w' base E size enc v' (l ++ m) → Below B w0 w' → Grew v wr w' → K (a.put o.dst v') w') :
    if Region.wanted o (yielded ops a.tmps) = true then Oper.wp P o a wr K Q else E' := by
  have hw : Region.wanted o (yielded ops a.tmps) = true := by simp [Region.wanted, hgd]
  rw [if_pos hw]
  cases A with
  | none =>
    have hm : m = [] := by
      cases m with
      | nil => rfl
      | cons y r => obtain ⟨b, o, e, _⟩ := hsl (by simp); cases e
    subst hm
    rw [hcz rfl] at hx
    have hrun := run_append_owned_none (P := P) (w := wr) base t o.type E i size ht hi v l.length (flat enc l) hown
    have hK := h v wr (by rw [List.append_nil]; exact hown) hb (Grew.refl _ _)
    simp at hx
    unfold Oper.wp
    simp [execOp, ho, resolve, invoke, builtin, hs, hx, hrun, Result.andThen]
    exact hK
  | some ad =>
    refine wp_append_own wr s x t ho base E i z size bytes ht hi hz hsize hby hzs hsz v l.length (flat enc l) hs hown ad m.length c (flat enc m) hx (flat_length hce m) ?_ ?_ ?_ ?_ hbase ?_
    · intro j u hu
      have hpos : 0 < m.length := by
        have hlt := (List.getElem?_eq_some_iff.1 hu).1
        rw [flat_length hce] at hlt
        cases m with
        | nil => simp at hlt
        | cons y r => simp
      obtain ⟨b, o', e, hc⟩ := hsl hpos
      injection e with e
      subst e
      have hadd : (⟨b, o', none⟩ : Addr).add j = ⟨b, o' + j, none⟩ := by unfold Addr.add; split <;> simp_all
      rw [hadd]; exact hc j u hu
    · intro u hu
      unfold flat at hu
      obtain ⟨y, _, hy⟩ := List.mem_flatMap.1 hu
      exact h1 y u hy
    · unfold maxLen; omega
    · have := Nat.mul_le_mul_left (l.length + m.length) hb200; omega
    · intro v' w' hown' hg _
      refine h v' w' ?_ (hb.grown hg (Nat.le_trans hB hbase) (fun k hk => Nat.le_trans hB (World.ownsRow.lt hown k hk).1)) hg
      show w'.ownsRow base E size v' (l ++ m).length (flat enc (l ++ m))
      rw [flat_append, List.length_append]; exact hown'
theorem Grew.cell {v u : Value} {w w' : World} (h : Grew v w w') {b o : Nat} (hv : v.ownBlock ≠ some b) (hc : w.cell? ⟨b, o, none⟩ = some u) : w'.cell? ⟨b, o, none⟩ = some u := by
  rw [World.cell?_of_block (w := w) (h.block b (World.block_lt_of_cell? w _ hc) (fun e => hv e.symm))]; exact hc
theorem cell_alloc {u : Value} {w : World} {x : Obj} {a : Addr} (hc : w.cell? a = some u) : (w.alloc x).cell? a = some u :=
  (World.cell?_alloc_lt w x a (World.block_lt_of_cell? w _ hc)).trans hc
theorem keep3 {w w' : World} {x : Nat} {v0 v1 v2 : Value} (hb : Below w.heap.size w w') (h : w.cell? ⟨x, 0, none⟩ = some v0 ∧ w.cell? ⟨x, 1, none⟩ = some v1 ∧ w.cell? ⟨x, 2, none⟩ = some v2) :
    w'.cell? ⟨x, 0, none⟩ = some v0 ∧ w'.cell? ⟨x, 1, none⟩ = some v1 ∧ w'.cell? ⟨x, 2, none⟩ = some v2 :=
  ⟨Below_cells hb _ _ _ h.1, Below_cells hb _ _ _ h.2.1, Below_cells hb _ _ _ h.2.2⟩
section
variable {ops : Array Oper} {rest : List Oper} {o : Oper} {a : Act} {K : Act → World → Prop} {Q : Exit → Act → World → Prop} {E' : Prop} {w0 wr : World} {v : Value}
theorem app_vrN {l m : List Vr} {A : Option Addr} {c : Nat} {s x : Operand} (hgd : o.guard = none) (ho : o.op = .call { callee := .builtin .append, args := #[s, x], argTypes := #[35, 35] })
    (hown : Own wr w0.heap.size 60 3 encV v l) (hb : Below w0.heap.size w0 wr) (hn : l.length + m.length ≤ 33554432) (hsl : Sl wr encV 3 A m) (hcz : A = none → c = 0)
    (hs : a.eval s = v) (hx : a.eval x = .slice A m.length c)
    (h : ∀ v' w', Own w' w0.heap.size 60 3 encV v' (l ++ m) → Below w0.heap.size w0 w' → Grew v wr w' → wpList Tryd.prog ops Q rest (a.put o.dst v') w') : wpList Tryd.prog ops Q (o :: rest) a wr := by
  obtain ⟨i0, hi0, hz0, hz1, hz2⟩ := info_parts encV_info
  exact wpList_appN Tryd.underlying35 hi0 hz0 hz1 hz2 rfl (by decide) (by decide) hgd s x ho hown hb (Nat.le_refl _) hb.size hn hsl hcz (fun _ => rfl) oneV hs hx h
theorem step_vrN {l m : List Vr} {A : Option Addr} {c : Nat} {s x : Operand} (hgd : o.guard = none) (ho : o.op = .call { callee := .builtin .append, args := #[s, x], argTypes := #[35, 35] })
    (hown : Own wr w0.heap.size 60 3 encV v l) (hb : Below w0.heap.size w0 wr) (hn : l.length + m.length ≤ 33554432) (hsl : Sl wr encV 3 A m) (hcz : A = none → c = 0)
    (hs : a.eval s = v) (hx : a.eval x = .slice A m.length c)
    (h : ∀ v' w', Own w' w0.heap.size 60 3 encV v' (l ++ m) → Below w0.heap.size w0 w' → Grew v wr w' → K (a.put o.dst v') w') : if Region.wanted o (yielded ops a.tmps) = true then Oper.wp Tryd.prog o a wr K Q else E' := by
  obtain ⟨i0, hi0, hz0, hz1, hz2⟩ := info_parts encV_info
  exact step_appN Tryd.underlying35 hi0 hz0 hz1 hz2 rfl (by decide) (by decide) hgd s x ho hown hb (Nat.le_refl _) hb.size hn hsl hcz (fun _ => rfl) oneV hs hx h
theorem step_vr {l : List Vr} {y : Vr} {g : Nat} {s x : Operand} (hgd : o.guard = none) (ho : o.op = .call { callee := .builtin .append, args := #[s, x], argTypes := #[35, 35] })
    (hown : Own wr w0.heap.size 60 3 encV v l) (hb : Below w0.heap.size w0 wr) (hn : l.length ≤ 16777216)
    (c0 : wr.cell? ⟨g, 0, none⟩ = some (.int .i64 y.1)) (c1 : wr.cell? ⟨g, 1, none⟩ = some (.int .i64 y.2.1)) (c2 : wr.cell? ⟨g, 2, none⟩ = some (.string y.2.2))
    (hs : a.eval s = v) (hx : a.eval x = .slice (some ⟨g, 0, none⟩) 1 1)
    (h : ∀ v' w', Own w' w0.heap.size 60 3 encV v' (l ++ [y]) → Below w0.heap.size w0 w' → K (a.put o.dst v') w') : if Region.wanted o (yielded ops a.tmps) = true then Oper.wp Tryd.prog o a wr K Q else E' := by
  obtain ⟨i0, hi0, hz0, hz1, hz2⟩ := info_parts encV_info
  exact step_app1 Tryd.underlying35 hi0 hz0 hz1 hz2 rfl (by decide) (by decide) hgd s x ho hs hx hown hb (Nat.le_refl _) hb.size hn y (by
    intro j u hu
    have hj : j < 3 := by have := (List.getElem?_eq_some_iff.1 hu).1; simp [encV] at this; omega
    match j, hj with
    | 0, _ => simp [encV] at hu; rw [← hu]; exact c0
    | 1, _ => simp [encV] at hu; rw [← hu]; exact c1
    | 2, _ => simp [encV] at hu; rw [← hu]; exact c2) rfl (oneV y) h
end
/-! ### 'append(append([]Version{}, l...), y)' in whatever order -/
abbrev rowV (y : Vr) : Obj := .cells #[.int .i64 y.1, .int .i64 y.2.1, .string y.2.2] 60
abbrev madeV : Obj := .cells #[] 60
def RowAt (w : World) (g : Nat) (y : Vr) : Prop := w.cell? ⟨g, 0, none⟩ = some (.int .i64 y.1) ∧ w.cell? ⟨g, 1, none⟩ = some (.int .i64 y.2.1) ∧ w.cell? ⟨g, 2, none⟩ = some (.string y.2.2)
theorem RowAt.new (w : World) (y : Vr) : RowAt (w.alloc (rowV y)) w.heap.size y := ⟨new_cell rfl, new_cell rfl, new_cell rfl⟩
theorem RowAt.alloc {w : World} {g : Nat} {y : Vr} (h : RowAt w g y) (x : Obj) : RowAt (w.alloc x) g y := ⟨cell_alloc h.1, cell_alloc h.2.1, cell_alloc h.2.2⟩
theorem RowAt.grew {w w' : World} {g : Nat} {y : Vr} {v : Value} (h : RowAt w g y) (hg : Grew v w w') (hv : v.ownBlock ≠ some g) : RowAt w' g y := ⟨hg.cell hv h.1, hg.cell hv h.2.1, hg.cell hv h.2.2⟩
section
variable {ops : Array Oper} {o : Oper} {a : Act} {K : Act → World → Prop} {Q : Exit → Act → World → Prop} {E' : Prop} {w1 : World} {l : List Vr} {A : Option Addr} {c : Nat} {y : Vr} {s x : Operand}
theorem step_vr_a (hsl : Sl w1 encV 3 A l) (hcz : A = none → c = 0) (hl : l.length ≤ 16777216) (hgd : o.guard = none) (ho : o.op = .call { callee := .builtin .append, args := #[s, x], argTypes := #[35, 35] })
    (hs : a.eval s = .slice (some ⟨w1.heap.size, 0, none⟩) 0 0) (hx : a.eval x = .slice A l.length c)
    (h : ∀ v' w', Own w' w1.heap.size 60 3 encV v' l → Below w1.heap.size w1 w' → K (a.put o.dst v') w') : if Region.wanted o (yielded ops a.tmps) = true then Oper.wp Tryd.prog o a (w1.alloc madeV).drew K Q else E' :=
  step_vrN (w0 := w1) (l := []) hgd ho ((Own.made (w := w1) (Nat.le_refl _)).drew) (((Below.refl _ _).alloc (Nat.le_refl _) _).drew) (by simp; omega) ((hsl.alloc _).drew) hcz hs hx fun v' w' h1 h2 _ => h v' w' h1 h2
theorem step_vr_b (hsl : Sl w1 encV 3 A l) (hcz : A = none → c = 0) (hl : l.length ≤ 16777216) (hgd : o.guard = none) (ho : o.op = .call { callee := .builtin .append, args := #[s, x], argTypes := #[35, 35] })
    (hs : a.eval s = .slice (some ⟨w1.heap.size, 0, none⟩) 0 0) (hx : a.eval x = .slice A l.length c)
    (h : ∀ v' w', Own w' w1.heap.size 60 3 encV v' l → Below w1.heap.size w1 w' → RowAt w' (w1.heap.size + 1) y → K (a.put o.dst v') w') : if Region.wanted o (yielded ops a.tmps) = true then Oper.wp Tryd.prog o a ((w1.alloc madeV).alloc (rowV y)).drew K Q else E' := by
  have hz : w1.heap.size ≤ (w1.alloc madeV).heap.size := by simp
  have hr := RowAt.new (w1.alloc madeV) y
  have hzz : (w1.alloc madeV).heap.size = w1.heap.size + 1 := by simp
  rw [hzz] at hr
  exact step_vrN (w0 := w1) (l := []) hgd ho (((Own.made (w := w1) (Nat.le_refl _)).alloc _).drew) ((((Below.refl _ _).alloc (Nat.le_refl _) _).alloc hz _).drew) (by simp; omega) (((hsl.alloc _).alloc _).drew) hcz hs hx fun v' w' h1 h2 h3 => h v' w' h1 h2 (RowAt.grew (w := ((w1.alloc madeV).alloc (rowV y)).drew) hr h3 (by simp [Value.ownBlock]))
theorem step_vr_c (hsl : Sl w1 encV 3 A l) (hcz : A = none → c = 0) (hl : l.length ≤ 16777216) (hgd : o.guard = none) (ho : o.op = .call { callee := .builtin .append, args := #[s, x], argTypes := #[35, 35] })
    (hs : a.eval s = .slice (some ⟨w1.heap.size + 1, 0, none⟩) 0 0) (hx : a.eval x = .slice A l.length c)
    (h : ∀ v' w', Own w' w1.heap.size 60 3 encV v' l → Below w1.heap.size w1 w' → RowAt w' w1.heap.size y → K (a.put o.dst v') w') : if Region.wanted o (yielded ops a.tmps) = true then Oper.wp Tryd.prog o a ((w1.alloc (rowV y)).alloc madeV).drew K Q else E' := by
  have hz : w1.heap.size ≤ (w1.alloc (rowV y)).heap.size := by simp
  have hr := (RowAt.new w1 y).alloc madeV
  have hm := (Own.made (enc := encV) (E := 60) (size := 3) (w := w1.alloc (rowV y)) hz).drew
  have hzz : (w1.alloc (rowV y)).heap.size = w1.heap.size + 1 := by simp
  rw [hzz] at hm
  exact step_vrN (w0 := w1) (l := []) hgd ho hm ((((Below.refl _ _).alloc (Nat.le_refl _) _).alloc hz _).drew) (by simp; omega) (((hsl.alloc _).alloc _).drew) hcz hs hx fun v' w' h1 h2 h3 => h v' w' h1 h2 (RowAt.grew (w := ((w1.alloc (rowV y)).alloc madeV).drew) hr h3 (by simp [Value.ownBlock]))
theorem step_vr_d {w0 W : World} {v : Value} {g : Nat} (hown : Own W w0.heap.size 60 3 encV v l) (hb : Below w0.heap.size w0 W) (hr : RowAt W g y) (hl : l.length ≤ 16777216) (hgd : o.guard = none) (ho : o.op = .call { callee := .builtin .append, args := #[s, x], argTypes := #[35, 35] })
    (hs : a.eval s = v) (hx : a.eval x = .slice (some ⟨g, 0, none⟩) 1 1)
    (h : ∀ v' w', Own w' w0.heap.size 60 3 encV v' (l ++ [y]) → Below w0.heap.size w0 w' → K (a.put o.dst v') w') : if Region.wanted o (yielded ops a.tmps) = true then Oper.wp Tryd.prog o a W K Q else E' :=
  step_vr hgd ho hown hb hl hr.1 hr.2.1 hr.2.2 hs hx h
end
/-! ### slices.Clone -/
/-! ### one more version -/
def AddR (l : List Vr) (y : Vr) (w : World) (e : Ending) (w' : World) : Prop :=
  ∃ (v : Value) (l' : List Vr) (ok : Bool), e = .returned (.tuple #[v, .bool ok]) ∧ Own w' w.heap.size 60 3 encV v l' ∧ (l' = [] ∨ l' = l ∨ l' = l ++ [y]) ∧ (ok = true → l' = l ++ [y] ∧ versV (l ++ [y]) = true) ∧ Below w.heap.size w w'
set_option maxHeartbeats 4000000 in
set_option maxRecDepth 100000 in
theorem sAddVersion_any (A : Option Addr) (c : Nat) (l : List Vr) (y : Vr) (w : World) (hs : Sl w encV 3 A l) (hcz : A = none → c = 0) (hl : l.length ≤ 16777215) (hf : FitV l) (hy : y.2.2.size ≤ 16777216) :
    Calls Tryd.prog 76 #[.slice A l.length c, .agg #[.int .i64 y.1, .int .i64 y.2.1, .string y.2.2]] w (AddR l y w) := by
  have HS := Lib.hid hs
  have HF := Lib.hid hf
  have HC := Lib.hid hcz
  have HL := Lib.hid (show l.length ≤ 16777216 by omega)
  have HLEN := Lib.hid (show (l ++ [y]).length = l.length + 1 by simp)
  clear hs hf hcz
  have hV : ∀ w, Sl w encV 3 A l → Calls Tryd.prog 39 #[.slice A l.length c] w fun e w' => e = .returned (.bool (versV l)) ∧ Below w.heap.size w w' := fun w h => by
    first
      | exact sVersionsValid_any A c l w h (by omega) HF.out
      | exact (sVersionsValid_any A c l w h (by omega) HF.out).mono fun _ _ ⟨h1, h2⟩ => ⟨h1, h2 ▸ Below.refl _ _⟩
  have hf2 : FitV (l ++ [y]) := fun p hp => by
    rw [List.mem_append, List.mem_singleton] at hp
    rcases hp with hp | rfl
    · exact HF.out p hp
    · exact hy
  have hV2 : ∀ A c w, Sl w encV 3 A (l ++ [y]) → Calls Tryd.prog 39 #[.slice A (l ++ [y]).length c] w fun e w' => e = .returned (.bool (versV (l ++ [y]))) ∧ Below w.heap.size w w' := fun A c w h => by
    first
      | exact sVersionsValid_any A c (l ++ [y]) w h (by simp; omega) hf2
      | exact (sVersionsValid_any A c (l ++ [y]) w h (by simp; omega) hf2).mono fun _ _ ⟨h1, h2⟩ => ⟨h1, h2 ▸ Below.refl _ _⟩
  rw [HLEN.out] at hV2
  cases hv : versV l
  · rw [hv] at hV
    have HV := Lib.hid hV
    clear hV hv hV2 hf2
    go_enter Tryd.func76, Tryd.ntmps76
    go_wp2_with fail
    refine (HV.out _ (HS.out.alloc _)).mono ?_
    rintro e w1 ⟨rfl, hb1⟩
    have HB1 := Lib.hid (Below_of_alloc hb1)
    clear hb1
    go_wp2
    go_ret2
    exact ⟨_, [], false, rfl, Own.made HB1.out.size, .inl rfl, (by intro h; cases h), HB1.out.alloc HB1.out.size _⟩
  · rw [hv] at hV
    have HV := Lib.hid hV
    cases hv2 : versV (l ++ [y])
    all_goals
      rw [hv2] at hV2
      have HV2 := Lib.hid hV2
      have HVV := Lib.hid hv2
      clear hV hv hV2 hv2 hf2
      go_enter Tryd.func76, Tryd.ntmps76
      go_wp2_with fail
      refine (HV.out _ (HS.out.alloc _)).mono ?_
      rintro e w1 ⟨rfl, hb1⟩
      have hz1 : w.heap.size < w1.heap.size := by have := hb1.size; simp at this; omega
      have HK := Lib.hid (show w1.cell? ⟨w.heap.size, 0, none⟩ = some (.int .i64 y.1) ∧ w1.cell? ⟨w.heap.size, 1, none⟩ = some (.int .i64 y.2.1) ∧ w1.cell? ⟨w.heap.size, 2, none⟩ = some (.string y.2.2) from ⟨box_cell hb1 0 rfl, box_cell hb1 1 rfl, box_cell hb1 2 rfl⟩)
      have HB1 := Lib.hid (Below_of_alloc hb1)
      have HS1 := Lib.hid (HS.out.below HB1.out)
      have HS2 := Lib.hid (HS1.out.below ((Below.refl _ _).drew))
      have HD := Lib.hid (Below.refl w1.heap.size w1).drew
      have HD1 := Lib.hid ((Below.refl w1.heap.size w1).alloc (Nat.le_refl _) (.cells #[] 60)).drew
      have HZ := Lib.hid (show w1.heap.size < (w1.alloc (.cells #[] 60)).heap.size by simp)
      have HZ2 := Lib.hid (show w1.heap.size < (w1.alloc (.cells #[.int .i64 y.1, .int .i64 y.2.1, .string y.2.2] 60)).heap.size by simp)
      clear hb1
      go_wp2_with fail
      go_region_held3 (fun w' => w'.cell? ⟨w.heap.size, 0, none⟩ = some (.int .i64 y.1) ∧ w'.cell? ⟨w.heap.size, 1, none⟩ = some (.int .i64 y.2.1) ∧ w'.cell? ⟨w.heap.size, 2, none⟩ = some (.string y.2.2))
        (first | assumption | exact HK.out | exact keep3 HD.out HK.out | exact keep3 HD1.out HK.out | exact keep3 HB3.out HK.out | exact keep3 HB2.out HK.out | exact keep3 (HB2.out.alloc HB2.out.size _) HK.out | exact keep3 ((Below.refl _ _).alloc (Nat.le_refl _) _).drew HK.out | exact keep3 (((Below.refl _ _).alloc (Nat.le_refl _) _).alloc (Nat.le_of_lt HZ.out) _).drew HK.out | exact keep3 (((Below.refl _ _).alloc (Nat.le_refl _) _).alloc (Nat.le_of_lt HZ2.out) _).drew HK.out)
        ((first
          | (refine step_vr_a HS1.out HC.out HL.out rfl rfl (by rfl) (by rfl) ?_; intro v2 w2 hown2 hb2; have HW2 := Lib.hid (hown2.alloc (rowV y)); have HB2 := Lib.hid hb2; have HBR := Lib.hid (hb2.alloc hb2.size (rowV y)); have HR := Lib.hid (RowAt.new w2 y); clear hown2 hb2)
          | (refine step_vr_b (y := y) HS1.out HC.out HL.out rfl rfl (by rfl) (by rfl) ?_; intro v2 w2 hown2 hb2 hr2; have HW2 := Lib.hid hown2; have HB2 := Lib.hid hb2; have HBR := HB2; have HR := Lib.hid hr2; clear hown2 hb2 hr2)
          | (refine step_vr_c (y := y) HS1.out HC.out HL.out rfl rfl (by rfl) (by rfl) ?_; intro v2 w2 hown2 hb2 hr2; have HW2 := Lib.hid hown2; have HB2 := Lib.hid hb2; have HBR := HB2; have HR := Lib.hid hr2; clear hown2 hb2 hr2)
          | (refine step_vr_d HW2.out HBR.out HR.out HL.out rfl rfl (by rfl) (by rfl) ?_; intro v3 w3 hown3 hb3; have HW3 := Lib.hid hown3; have HB3 := Lib.hid hb3; clear hown3 hb3)))
      all_goals
        obtain ⟨X, d, ev, _, _, _⟩ := HW3.out.sl
        rw [HLEN.out] at ev
        subst ev
        have HBB := Lib.hid (Below_then HB1.out HB3.out (Nat.le_refl _))
        go_wp2_with fail
        refine (HV2.out _ _ _ HW3.out.sl').mono ?_
        rintro e w4 ⟨rfl, hb4⟩
        have HW4 := Lib.hid (HW3.out.below hb4)
        have HB4 := Lib.hid (Below_then HBB.out hb4 (Nat.le_refl _))
        have HS4 := Lib.hid (HS.out.below HB4.out)
        clear hb4
        go_wp2_with (at_builtin; refine app_vrN (w0 := w4) (l := []) rfl rfl (Own.made (Nat.le_refl _)) ((Below.refl _ _).alloc (Nat.le_refl _) _) (by simp; omega) (HS4.out.alloc _) HC.out (by rfl) (by rfl) ?_; intro v5 w5 hown5 hb5 hg5; have HW5 := Lib.hid hown5; have HB5 := Lib.hid hb5; clear hown5 hb5 hg5)
        go_ret2
        first
          | exact ⟨_, l, false, rfl, HW5.out.mono HB4.out.size, .inr (.inl rfl), (by intro h; cases h), Below_then HB4.out HB5.out (Nat.le_refl _)⟩
          | exact ⟨_, l ++ [y], true, rfl, HW4.out.mono HB1.out.size, .inr (.inr rfl), (fun _ => ⟨rfl, HVV.out⟩), HB4.out⟩
end Go.Proofs.YtaghiefokmapmaaDoor

/- A block of three cells that may be written. -/
set_option linter.unusedVariables false
namespace Go.Proofs.YtaghiefokmapmaaDoor
open Go.RowKit
def Row3 (w : World) (b : Nat) (v0 v1 v2 : Value) : Prop :=
  (w.cell? ⟨b, 0, none⟩ = some v0 ∧ w.cell? ⟨b, 1, none⟩ = some v1 ∧ w.cell? ⟨b, 2, none⟩ = some v2) ∧ (∀ o, w.frozen? ⟨b, o, none⟩ = false) ∧ b < w.heap.size
theorem Row3.new {w : World} {v0 v1 v2 : Value} {E : TypeId} : Row3 (w.alloc (.cells #[v0, v1, v2] E)) w.heap.size v0 v1 v2 :=
  ⟨⟨new_cell rfl, new_cell rfl, new_cell rfl⟩, fun o => new_free o, by simp⟩
theorem Row3.only {w w' : World} {g b : Nat} {v0 v1 v2 : Value} (h : Row3 w b v0 v1 v2) (ho : Only g w w') (hb : b ≠ g) : Row3 w' b v0 v1 v2 :=
  ⟨⟨ho.cell hb h.1.1, ho.cell hb h.1.2.1, ho.cell hb h.1.2.2⟩, fun o => (ho.frozen hb h.2.2).trans (h.2.1 o), Nat.lt_of_lt_of_le h.2.2 ho.size⟩
theorem Row3.below {w w' : World} {b : Nat} {v0 v1 v2 : Value} (h : Row3 w b v0 v1 v2) (hb : Below w.heap.size w w') : Row3 w' b v0 v1 v2 :=
  ⟨⟨Below_cells hb _ _ _ h.1.1, Below_cells hb _ _ _ h.1.2.1, Below_cells hb _ _ _ h.1.2.2⟩, fun o => (World.frozen?_of_block (w := w) (hb.block b h.2.2)).trans (h.2.1 o), Nat.lt_of_lt_of_le h.2.2 hb.size⟩
theorem setCell_size (w : World) (p : Addr) (u : Value) : (w.setCell p u).heap.size = w.heap.size := by simp [World.setCell]
theorem Row3.set0 {w : World} {b : Nat} {v0 v1 v2 : Value} (h : Row3 w b v0 v1 v2) (u : Value) : Row3 (w.setCell ⟨b, 0, none⟩ u) b u v1 v2 :=
  ⟨⟨World.cell?_setCell_same _ _ _ h.1.1, (World.cell?_setCell_other _ _ _ _ (by simp)).trans h.1.2.1, (World.cell?_setCell_other _ _ _ _ (by simp)).trans h.1.2.2⟩, fun o => (World.frozen?_setCell _ _ _ _).trans (h.2.1 o), by rw [setCell_size]; exact h.2.2⟩
theorem Row3.set1 {w : World} {b : Nat} {v0 v1 v2 : Value} (h : Row3 w b v0 v1 v2) (u : Value) : Row3 (w.setCell ⟨b, 1, none⟩ u) b v0 u v2 :=
  ⟨⟨(World.cell?_setCell_other _ _ _ _ (by simp)).trans h.1.1, World.cell?_setCell_same _ _ _ h.1.2.1, (World.cell?_setCell_other _ _ _ _ (by simp)).trans h.1.2.2⟩, fun o => (World.frozen?_setCell _ _ _ _).trans (h.2.1 o), by rw [setCell_size]; exact h.2.2⟩
theorem Row3.set2 {w : World} {b : Nat} {v0 v1 v2 : Value} (h : Row3 w b v0 v1 v2) (u : Value) : Row3 (w.setCell ⟨b, 2, none⟩ u) b v0 v1 u :=
  ⟨⟨(World.cell?_setCell_other _ _ _ _ (by simp)).trans h.1.1, (World.cell?_setCell_other _ _ _ _ (by simp)).trans h.1.2.1, World.cell?_setCell_same _ _ _ h.1.2.2⟩, fun o => (World.frozen?_setCell _ _ _ _).trans (h.2.1 o), by rw [setCell_size]; exact h.2.2⟩
theorem Row3.other {w : World} {b : Nat} {v0 v1 v2 : Value} (h : Row3 w b v0 v1 v2) {p : Addr} (hp : p.block ≠ b) (u : Value) : Row3 (w.setCell p u) b v0 v1 v2 :=
  ⟨⟨(World.cell?_setCell_other _ _ _ _ (by rintro rfl; exact hp rfl)).trans h.1.1, (World.cell?_setCell_other _ _ _ _ (by rintro rfl; exact hp rfl)).trans h.1.2.1, (World.cell?_setCell_other _ _ _ _ (by rintro rfl; exact hp rfl)).trans h.1.2.2⟩, fun o => (World.frozen?_setCell _ _ _ _).trans (h.2.1 o), by rw [setCell_size]; exact h.2.2⟩
theorem Own.setBelow {α : Type} {enc : α → List Value} {w : World} {base size : Nat} {E : TypeId} {v : Value} {l : List α} (h : Own w base E size enc v l) {p : Addr} (hp : p.block < base) (u : Value) : Own (w.setCell p u) base E size enc v l :=
  h.only (g := p.block) ⟨rfl, rfl, rfl, by simp [World.setCell], fun k hk hne => Below.heap_setCell _ _ _ _ (by rintro rfl; exact hne rfl)⟩ hp
theorem Own.ne {α : Type} {w : World} {base size : Nat} {E : TypeId} {enc : α → List Value} {v : Value} {l : List α} (h : Own w base E size enc v l) : v.ownBlock ≠ some w.heap.size := fun e => Nat.lt_irrefl _ (World.ownsRow.lt h _ e).2
end Go.Proofs.YtaghiefokmapmaaDoor

/- 'append' of strings in regions that draw their order. -/
set_option linter.unusedVariables false
namespace Go.Proofs.YtaghiefokmapmaaDoor
open Go.RowKit

theorem sl_take {w : World} {A : Option Addr} {l : List ByteArray} (h : Sl w encS 1 A l) (m : Nat) : Sl w encS 1 A (l.take m) := by
  intro hn
  obtain ⟨b, o, e, hc⟩ := h (by simp at hn; omega)
  refine ⟨b, o, e, fun j u hu => hc j u ?_⟩
  rw [← List.take_append_drop m l, flat_append, List.getElem?_append_left (List.getElem?_eq_some_iff.1 hu).1]
  exact hu
theorem step_appW {P : Program} {α : Type} {enc : α → List Value} {ops : Array Oper} {o : Oper} {a : Act} {K : Act → World → Prop} {Q : Exit → Act → World → Prop} {E' : Prop} {w0 wr : World} {B base size bytes : Nat} {t E : TypeId} {i : TypeInfo} {z : Value} {v : Value} {l m : List α} {A : Option Addr} {c : Nat}
    (ht : P.underlying t = some (.slice E)) (hi : P.info? E = some i) (hz : i.zero = some z) (hsize : i.size = size) (hby : i.bytes = bytes) (hzs : z.cells.size = size) (hsz : 0 < size) (hb200 : bytes ≤ 256)
    (hw : Region.wanted o (yielded ops a.tmps) = true) (s x : Operand) (ho : o.op = .call { callee := .builtin .append, args := #[s, x], argTypes := #[t, t] })
    (hown : Own wr base E size enc v l) (hb : Below B w0 wr) (hB : B ≤ base) (hbase : base ≤ wr.heap.size) (hn : l.length + m.length ≤ 33554432)
    (hsl : Sl wr enc size A m) (hcz : A = none → c = 0) (hce : ∀ y, (enc y).length = size) (h1 : ∀ y, ∀ u ∈ enc y, u.oneCell' = true)
    (hs : a.eval s = v) (hx : a.eval x = .slice A m.length c)
    (h : ∀ v' w', Own w' base E size enc v' (l ++ m) → Below B w0 w' → Grew v wr w' → K (a.put o.dst v') w') :
    if Region.wanted o (yielded ops a.tmps) = true then Oper.wp P o a wr K Q else E' := by
  rw [if_pos hw]
  cases A with
  | none =>
    have hm : m = [] := by
      cases m with
      | nil => rfl
      | cons y r => obtain ⟨b, o, e, _⟩ := hsl (by simp); cases e
    subst hm
    rw [hcz rfl] at hx
    have hrun := run_append_owned_none (P := P) (w := wr) base t o.type E i size ht hi v l.length (flat enc l) hown
    have hK := h v wr (by rw [List.append_nil]; exact hown) hb (Grew.refl _ _)
    simp at hx
    unfold Oper.wp
    simp [execOp, ho, resolve, invoke, builtin, hs, hx, hrun, Result.andThen]
    exact hK
  | some ad =>
    refine wp_append_own wr s x t ho base E i z size bytes ht hi hz hsize hby hzs hsz v l.length (flat enc l) hs hown ad m.length c (flat enc m) hx (flat_length hce m) ?_ ?_ ?_ ?_ hbase ?_
    · intro j u hu
      have hpos : 0 < m.length := by
        have hlt := (List.getElem?_eq_some_iff.1 hu).1
        rw [flat_length hce] at hlt
        cases m with
        | nil => simp at hlt
        | cons y r => simp
      obtain ⟨b, o', e, hc⟩ := hsl hpos
      injection e with e
      subst e
      have hadd : (⟨b, o', none⟩ : Addr).add j = ⟨b, o' + j, none⟩ := by unfold Addr.add; split <;> simp_all
      rw [hadd]; exact hc j u hu
    · intro u hu
      unfold flat at hu
      obtain ⟨y, _, hy⟩ := List.mem_flatMap.1 hu
      exact h1 y u hy
    · unfold maxLen; omega
    · have := Nat.mul_le_mul_left (l.length + m.length) hb200; omega
    · intro v' w' hown' hg _
      refine h v' w' ?_ (hb.grown hg (Nat.le_trans hB hbase) (fun k hk => Nat.le_trans hB (World.ownsRow.lt hown k hk).1)) hg
      show w'.ownsRow base E size v' (l ++ m).length (flat enc (l ++ m))
      rw [flat_append, List.length_append]; exact hown'
abbrev rowS (y : ByteArray) : Obj := .cells #[.string y] 9
abbrev madeS : Obj := .cells #[] 9
section
variable {ops : Array Oper} {o : Oper} {a : Act} {K : Act → World → Prop} {Q : Exit → Act → World → Prop} {E' : Prop} {w1 : World} {l : List ByteArray} {A : Option Addr} {c : Nat} {y : ByteArray} {s x : Operand}
theorem step_strN {l m : List ByteArray} {w0 wr : World} {v : Value} {A : Option Addr} {c : Nat} {s x : Operand} (hw : Region.wanted o (yielded ops a.tmps) = true) (ho : o.op = .call { callee := .builtin .append, args := #[s, x], argTypes := #[25, 25] })
    (hown : Own wr w0.heap.size 9 1 encS v l) (hb : Below w0.heap.size w0 wr) (hn : l.length + m.length ≤ 33554432) (hsl : Sl wr encS 1 A m) (hcz : A = none → c = 0)
    (hs : a.eval s = v) (hx : a.eval x = .slice A m.length c)
    (h : ∀ v' w', Own w' w0.heap.size 9 1 encS v' (l ++ m) → Below w0.heap.size w0 w' → Grew v wr w' → K (a.put o.dst v') w') : if Region.wanted o (yielded ops a.tmps) = true then Oper.wp Tryd.prog o a wr K Q else E' := by
  obtain ⟨i0, hi0, hz0, hz1, hz2⟩ := info_parts str_info
  exact step_appW Tryd.underlying25 hi0 hz0 hz1 hz2 rfl (by decide) (by decide) hw s x ho hown hb (Nat.le_refl _) hb.size hn hsl hcz (fun _ => rfl) oneS hs hx h
def StrAt (w : World) (g : Nat) (y : ByteArray) : Prop := w.cell? ⟨g, 0, none⟩ = some (.string y)
theorem StrAt.new (w : World) (y : ByteArray) : StrAt (w.alloc (rowS y)) w.heap.size y := new_cell rfl
theorem StrAt.sl {w : World} {g : Nat} {y : ByteArray} (h : StrAt w g y) : Sl w encS 1 (some ⟨g, 0, none⟩) [y] := by
  intro _
  refine ⟨g, 0, rfl, fun j u hu => ?_⟩
  have hj : j = 0 := by have := (List.getElem?_eq_some_iff.1 hu).1; simp [flat, encS] at this; omega
  subst hj; simp [flat, encS] at hu; rw [← hu]; exact h
theorem step_str_a (hsl : Sl w1 encS 1 A l) (hcz : A = none → c = 0) (hl : l.length ≤ 16777216) (hw : Region.wanted o (yielded ops a.tmps) = true) (ho : o.op = .call { callee := .builtin .append, args := #[s, x], argTypes := #[25, 25] })
    (hs : a.eval s = .slice (some ⟨w1.heap.size, 0, none⟩) 0 0) (hx : a.eval x = .slice A l.length c)
    (h : ∀ v' w', Own w' w1.heap.size 9 1 encS v' l → Below w1.heap.size w1 w' → K (a.put o.dst v') w') : if Region.wanted o (yielded ops a.tmps) = true then Oper.wp Tryd.prog o a (w1.alloc madeS).drew K Q else E' :=
  step_strN (w0 := w1) (l := []) hw ho ((Own.made (w := w1) (Nat.le_refl _)).drew) (((Below.refl _ _).alloc (Nat.le_refl _) _).drew) (by simp; omega) ((hsl.alloc _).drew) hcz hs hx fun v' w' h1 h2 _ => h v' w' h1 h2
theorem step_str_b (hsl : Sl w1 encS 1 A l) (hcz : A = none → c = 0) (hl : l.length ≤ 16777216) (hw : Region.wanted o (yielded ops a.tmps) = true) (ho : o.op = .call { callee := .builtin .append, args := #[s, x], argTypes := #[25, 25] })
    (hs : a.eval s = .slice (some ⟨w1.heap.size, 0, none⟩) 0 0) (hx : a.eval x = .slice A l.length c)
    (h : ∀ v' w', Own w' w1.heap.size 9 1 encS v' l → Below w1.heap.size w1 w' → StrAt w' (w1.heap.size + 1) y → K (a.put o.dst v') w') : if Region.wanted o (yielded ops a.tmps) = true then Oper.wp Tryd.prog o a ((w1.alloc madeS).alloc (rowS y)).drew K Q else E' := by
  have hz : w1.heap.size ≤ (w1.alloc madeS).heap.size := by simp
  have hr := StrAt.new (w1.alloc madeS) y
  have hzz : (w1.alloc madeS).heap.size = w1.heap.size + 1 := by simp
  rw [hzz] at hr
  exact step_strN (w0 := w1) (l := []) hw ho (((Own.made (w := w1) (Nat.le_refl _)).alloc _).drew) ((((Below.refl _ _).alloc (Nat.le_refl _) _).alloc hz _).drew) (by simp; omega) (((hsl.alloc _).alloc _).drew) hcz hs hx fun v' w' h1 h2 h3 => h v' w' h1 h2 (Grew.cell (w := ((w1.alloc madeS).alloc (rowS y)).drew) h3 (by simp [Value.ownBlock]) hr)
theorem step_str_c (hsl : Sl w1 encS 1 A l) (hcz : A = none → c = 0) (hl : l.length ≤ 16777216) (hw : Region.wanted o (yielded ops a.tmps) = true) (ho : o.op = .call { callee := .builtin .append, args := #[s, x], argTypes := #[25, 25] })
    (hs : a.eval s = .slice (some ⟨w1.heap.size + 1, 0, none⟩) 0 0) (hx : a.eval x = .slice A l.length c)
    (h : ∀ v' w', Own w' w1.heap.size 9 1 encS v' l → Below w1.heap.size w1 w' → StrAt w' w1.heap.size y → K (a.put o.dst v') w') : if Region.wanted o (yielded ops a.tmps) = true then Oper.wp Tryd.prog o a ((w1.alloc (rowS y)).alloc madeS).drew K Q else E' := by
  have hz : w1.heap.size ≤ (w1.alloc (rowS y)).heap.size := by simp
  have hr : StrAt ((w1.alloc (rowS y)).alloc madeS) w1.heap.size y := cell_alloc (StrAt.new w1 y)
  have hm := (Own.made (enc := encS) (E := 9) (size := 1) (w := w1.alloc (rowS y)) hz).drew
  have hzz : (w1.alloc (rowS y)).heap.size = w1.heap.size + 1 := by simp
  rw [hzz] at hm
  exact step_strN (w0 := w1) (l := []) hw ho hm ((((Below.refl _ _).alloc (Nat.le_refl _) _).alloc hz _).drew) (by simp; omega) (((hsl.alloc _).alloc _).drew) hcz hs hx fun v' w' h1 h2 h3 => h v' w' h1 h2 (Grew.cell (w := ((w1.alloc (rowS y)).alloc madeS).drew) h3 (by simp [Value.ownBlock]) hr)
theorem step_str_d {w0 W : World} {v : Value} {g : Nat} (hown : Own W w0.heap.size 9 1 encS v l) (hb : Below w0.heap.size w0 W) (hr : StrAt W g y) (hl : l.length ≤ 16777216) (hw : Region.wanted o (yielded ops a.tmps) = true) (ho : o.op = .call { callee := .builtin .append, args := #[s, x], argTypes := #[25, 25] })
    (hs : a.eval s = v) (hx : a.eval x = .slice (some ⟨g, 0, none⟩) 1 1)
    (h : ∀ v' w', Own w' w0.heap.size 9 1 encS v' (l ++ [y]) → Below w0.heap.size w0 w' → K (a.put o.dst v') w') : if Region.wanted o (yielded ops a.tmps) = true then Oper.wp Tryd.prog o a W K Q else E' :=
  step_strN (l := l) (m := [y]) hw ho hown hb (by simp; omega) hr.sl (by intro h; cases h) hs hx fun v' w' h1 h2 _ => h v' w' h1 h2
end
section
variable {ops : Array Oper} {o : Oper} {a : Act} {K : Act → World → Prop} {Q : Exit → Act → World → Prop} {E' : Prop} {l : List ByteArray} {s x : Operand}
theorem step_str_e {w0 W : World} {v : Value} {y : ByteArray} (hown : Own W w0.heap.size 9 1 encS v l) (hb : Below w0.heap.size w0 W) (hl : l.length ≤ 16777216) (hw : Region.wanted o (yielded ops a.tmps) = true) (ho : o.op = .call { callee := .builtin .append, args := #[s, x], argTypes := #[25, 25] })
    (hs : a.eval s = v) (hx : a.eval x = .slice (some ⟨W.heap.size, 0, none⟩) 1 1)
    (h : ∀ v' w', Own w' w0.heap.size 9 1 encS v' (l ++ [y]) → Below w0.heap.size w0 w' → Grew v (W.alloc (rowS y)) w' → K (a.put o.dst v') w') : if Region.wanted o (yielded ops a.tmps) = true then Oper.wp Tryd.prog o a (W.alloc (rowS y)) K Q else E' :=
  step_strN (l := l) (m := [y]) hw ho (hown.alloc _) (hb.alloc hb.size _) (by simp; omega) (StrAt.new W y).sl (by intro h; cases h) hs hx h
end
theorem keepA {w w' : World} {b o b' o' : Nat} {u v : Value} (hb : Below w.heap.size w w') (h : w.cell? ⟨b, o, none⟩ = some u ∧ w.cell? ⟨b', o', none⟩ = some v) : w'.cell? ⟨b, o, none⟩ = some u ∧ w'.cell? ⟨b', o', none⟩ = some v := ⟨Below_cells hb _ _ _ h.1, Below_cells hb _ _ _ h.2⟩
section
variable {ops : Array Oper} {o : Oper} {a : Act} {K : Act → World → Prop} {Q : Exit → Act → World → Prop} {E' : Prop} {l : List ByteArray} {s x : Operand}
theorem step_str_g {w0 W : World} {v : Value} {y : ByteArray} (hown : Own W w0.heap.size 9 1 encS v l) (hb : Below w0.heap.size w0 W) (hl : l.length ≤ 16777216) (hw : Region.wanted o (yielded ops a.tmps) = true) (ho : o.op = .call { callee := .builtin .append, args := #[s, x], argTypes := #[25, 25] })
    (hs : a.eval s = v) (hx : a.eval x = .slice (some ⟨W.heap.size, 0, none⟩) 1 1)
    (h : ∀ v' w', Own w' w0.heap.size 9 1 encS v' (l ++ [y]) → Below w0.heap.size w0 w' → Grew v (W.drew.alloc (rowS y)) w' → K (a.put o.dst v') w') : if Region.wanted o (yielded ops a.tmps) = true then Oper.wp Tryd.prog o a (W.drew.alloc (rowS y)) K Q else E' :=
  step_str_e (w0 := w0) (W := W.drew) hown.drew hb.drew hl hw ho hs hx h
end
theorem str_add {x y : ByteArray} (hx : x.size ≤ 1073741824) (hy : y.size ≤ 1073741824) : Op.stringOp .add x y = pure (.string (x ++ y)) := by
  have h : ¬ (((x.size + y.size : Nat) : Int) > IntKind.i64.max) := by
    have e : IntKind.i64.max = 9223372036854775807 := by decide
    rw [e]; omega
  unfold Op.stringOp
  simp only [h, if_false]
theorem keep2 {w w' : World} {g : Nat} {u v : Value} (hb : Below w.heap.size w w') (h : w.cell? ⟨g, 0, none⟩ = some u ∧ w.cell? ⟨g, 1, none⟩ = some v) : w'.cell? ⟨g, 0, none⟩ = some u ∧ w'.cell? ⟨g, 1, none⟩ = some v := ⟨Below_cells hb _ _ _ h.1, Below_cells hb _ _ _ h.2⟩
theorem keep2G {w w' : World} {g : Nat} {u v z : Value} (hg : Grew z w w') (hne : z.ownBlock ≠ some g) (h : w.cell? ⟨g, 0, none⟩ = some u ∧ w.cell? ⟨g, 1, none⟩ = some v) : w'.cell? ⟨g, 0, none⟩ = some u ∧ w'.cell? ⟨g, 1, none⟩ = some v := ⟨Grew.cell hg hne h.1, Grew.cell hg hne h.2⟩
end Go.Proofs.YtaghiefokmapmaaDoor

/- EntriesValid and FolderText, walked. -/
set_option linter.unusedVariables false
namespace Go.Proofs.YtaghiefokmapmaaDoor
open Go.RowKit
theorem entAt_eq {l : List En} {k : Nat} (hk : k < l.length) : entAt l k = ((wordV (bs l[k].1) && pv l[k].2) && (k == 0 || lessB (bs (l.getD (k - 1) en0).1) (bs l[k].1))) := by
  unfold entAt entOk; rw [getD_en hk]
theorem entAt_word {l : List En} {k : Nat} (hk : k < l.length) (h : wordV (bs l[k].1) = false) : entAt l k = false := by rw [entAt_eq hk, h]; rfl
theorem entAt_pv {l : List En} {k : Nat} (hk : k < l.length) (h : pv l[k].2 = false) : entAt l k = false := by rw [entAt_eq hk, h, Bool.and_false]; rfl
theorem entAt_asc {l : List En} {k : Nat} (hk : k < l.length) (h0 : k ≠ 0) (h : lessB (bs (l.getD (k - 1) en0).1) (bs l[k].1) = false) : entAt l k = false := by
  rw [entAt_eq hk, h, beq_eq_false_iff_ne.2 h0, Bool.or_false, Bool.and_false]
theorem entAt_ok {l : List En} {k : Nat} (hk : k < l.length) (h1 : wordV (bs l[k].1) = true) (h2 : pv l[k].2 = true) (h3 : k = 0 ∨ lessB (bs (l.getD (k - 1) en0).1) (bs l[k].1) = true) : entAt l k = true := by
  rw [entAt_eq hk, h1, h2]
  rcases h3 with h3 | h3
  · subst h3; rfl
  · rw [h3, Bool.or_true]; rfl
theorem FitE.at {l : List En} (h : FitE l) {k : Nat} (hk : k < l.length) : l[k].1.size ≤ 16777216 := h _ (by simp)
theorem prev_cellE {w : World} {b o : Nat} {l : List En} {k : Nat} (h : Sl w encE 2 (some ⟨b, o, none⟩) l) (hk : k < l.length) (h0 : k ≠ 0) : w.cell? ⟨b, o + (k - 1) * 2, none⟩ = some (.string (l.getD (k - 1) en0).1) := by
  obtain ⟨b', o', e, h', _⟩ := h.getE (k := k - 1) (by omega)
  injection e with e; injection e with e1 e2
  rw [e1, e2, getD_en (by omega)]; exact h'
theorem less_t {a b : ByteArray} {x : Bool} (h : lessB (bs a) (bs b) = x) : Op.bytesLess a.toList b.toList = x := by rw [less_tl]; exact h
set_option maxHeartbeats 4000000 in
set_option maxRecDepth 100000 in
theorem iEntriesValid_any (A : Option Addr) (c : Nat) (l : List En) (w : World) (hs : Sl w encE 2 A l) (hl : l.length ≤ 16777216) (hf : FitE l) :
    Calls Tryd.prog 103 #[.slice A l.length c] w fun e w' => e = .returned (.bool (entsV l)) ∧ Below w.heap.size w w' := by
  have HS := Lib.hid hs
  have HF := Lib.hid hf
  clear hs hf
  by_cases h40 : l.length ≤ 3
  case neg =>
    have E := Lib.hid (entsV_long h40)
    go_enter Tryd.func103, Tryd.ntmps103
    go_wp2
    go_ret
    exact ⟨ret_bool E.out.symm, Below.refl _ _⟩
  go_enter Tryd.func103, Tryd.ntmps103
  go_wp2
  go_loopw [10] (fun i wr => ∃ (k : Nat), k ≤ l.length ∧ i = .int .i64 k ∧ Hid (EntUpto l k) ∧ Hid (Below w.heap.size w wr)) (fun i _ => l.length - (intOf i).toNat)
  case atStart => exact ⟨0, Nat.zero_le _, rfl, EntUpto.zero l, Below.refl _ _⟩
  case round =>
    obtain ⟨k, hk, rfl, hh, HB⟩ := hrel
    by_cases hlt : k < l.length
    · have hsk := HS.out.below HB.out
      obtain ⟨b, o, rfl, hc0, hc1⟩ := hsk.getE hlt
      have hfk := HF.out.at hlt
      have hpv := @prev_cellE _ _ _ _ k hsk hlt
      have H1 := Lib.hid (fun h => entsV_bad hlt (entAt_word hlt h))
      have H2 := Lib.hid (fun h => entsV_bad hlt (entAt_pv hlt h))
      have H3 := Lib.hid (fun h0 h => entsV_bad hlt (entAt_asc hlt h0 h))
      have H4 := Lib.hid (fun h1 h2 h3 => hh.out.succ (entAt_ok hlt h1 h2 h3))
      have HB2 := Lib.hid (HB.out.alloc HB.out.size (.cells #[.string l[k].1, .int .i64 l[k].2] 100))
      have hx0 := new_cell (w := wr) (cs := #[.string l[k].1, .int .i64 l[k].2]) (E := 100) (k := 0) rfl
      have hx1 := new_cell (w := wr) (cs := #[.string l[k].1, .int .i64 l[k].2]) (E := 100) (k := 1) rfl
      clear hsk
      generalize (l.getD (k - 1) en0).1 = z at *
      generalize l[k] = p at *
      obtain ⟨t, a⟩ := p
      simp only at *
      have hTV := fun w => iWordValid_any t w hfk
      have hPV := fun w => iprintValid_any a w
      cases h1 : wordV (bs t)
      · have HE := Lib.hid (H1.out h1)
        rw [h1] at hTV
        have HTV := Lib.hid hTV
        clear hTV hPV h1 H1 H2 H3 H4 hpv hx0 hx1
        go_wp2_with (go_at_call 26; refine (HTV.out _).mono ?_; rintro e w' ⟨rfl, rfl⟩)
        go_ret
        exact ⟨ret_bool HE.out.symm, HB2.out⟩
      · rw [h1] at hTV
        have HTV := Lib.hid hTV
        clear hTV
        cases h2 : pv a
        · have HE := Lib.hid (H2.out h2)
          rw [h2] at hPV
          have HPV := Lib.hid hPV
          clear hPV h1 h2 H1 H2 H3 H4 hpv hx0 hx1
          go_wp2_with (first | (go_at_call 26; refine (HTV.out _).mono ?_; rintro e w' ⟨rfl, rfl⟩) | (go_at_call 45; refine (HPV.out _).mono ?_; rintro e w' ⟨rfl, rfl⟩))
          go_ret
          exact ⟨ret_bool HE.out.symm, HB2.out⟩
        · rw [h2] at hPV
          have HPV := Lib.hid hPV
          clear hPV
          replace hx0 := far_cell hx0
          by_cases h0 : k = 0
          · have HN := Lib.hid (H4.out h1 h2 (.inl h0))
            clear h1 h2 H1 H2 H3 H4 hpv hx1
            have hk0 : decide (0 < k) = false := decide_eq_false (by omega)
            clear h0
            go_wp2_with (first | (go_at_call 26; refine (HTV.out _).mono ?_; rintro e w' ⟨rfl, rfl⟩) | (go_at_call 45; refine (HPV.out _).mono ?_; rintro e w' ⟨rfl, rfl⟩))
            refine wp_region_far (by kernel_rfl) (by kernel_rfl) ?_
            repeat (go_big_quiet_step (fail))
            refine wpQuiet_nil ?_
            intro _ hwF
            obtain ⟨pF, hwF⟩ := hwF
            subst hwF
            have HB6 := Lib.hid (Below_then HB2.out (far_below _ pF) (Nat.le_refl _))
            generalize far _ pF = wG at *
            go_wp2
            go_roundw
            case rel => exact ⟨k + 1, by omega, by go_num, HN.out, HB6.out⟩
            case measure => simp [intOf]; omega
          · have hp1 := far_cell (cell_allocP (x := (.cells #[.string t, .int .i64 a] 100)) (hpv h0))
            have hk1 : 0 < k := by omega
            have hk2 : IntKind.i64.wrap ((k : Int) - 1) = (k : Int) - 1 := IntWalk.i64_in _ (by omega)
            have hk3 : (0 : Int) ≤ (k : Int) - 1 := by omega
            have hk4 : (k : Int) - 1 < (l.length : Int) := by omega
            have hk5 : ((k : Int) - 1).toNat = k - 1 := by omega
            cases h3 : lessB (bs z) (bs t)
            · have HE := Lib.hid (H3.out h0 h3)
              have h3' := less_t h3
              clear h1 h2 h3 H1 H2 H3 H4 hpv hx1
              go_wp2_with (first | (go_at_call 26; refine (HTV.out _).mono ?_; rintro e w' ⟨rfl, rfl⟩) | (go_at_call 45; refine (HPV.out _).mono ?_; rintro e w' ⟨rfl, rfl⟩))
              refine wp_region_far (by kernel_rfl) (by kernel_rfl) ?_
              repeat (go_big_quiet_step (fail))
              refine wpQuiet_nil ?_
              intro _ hwF
              obtain ⟨pF, hwF⟩ := hwF
              subst hwF
              have HB6 := Lib.hid (Below_then HB2.out (far_below _ pF) (Nat.le_refl _))
              clear hx0 hp1
              generalize far _ pF = wG at *
              go_wp2
              go_ret
              exact ⟨ret_bool HE.out.symm, HB6.out⟩
            · have HN := Lib.hid (H4.out h1 h2 (.inr h3))
              have h3' := less_t h3
              clear h1 h2 h3 H1 H2 H3 H4 hpv hx1
              go_wp2_with (first | (go_at_call 26; refine (HTV.out _).mono ?_; rintro e w' ⟨rfl, rfl⟩) | (go_at_call 45; refine (HPV.out _).mono ?_; rintro e w' ⟨rfl, rfl⟩))
              refine wp_region_far (by kernel_rfl) (by kernel_rfl) ?_
              repeat (go_big_quiet_step (fail))
              refine wpQuiet_nil ?_
              intro _ hwF
              obtain ⟨pF, hwF⟩ := hwF
              subst hwF
              have HB6 := Lib.hid (Below_then HB2.out (far_below _ pF) (Nat.le_refl _))
              clear hx0 hp1
              generalize far _ pF = wG at *
              go_wp2
              go_roundw
              case rel => exact ⟨k + 1, by omega, by go_num, HN.out, HB6.out⟩
              case measure => simp [intOf]; omega
    · have HE := Lib.hid (hh.out.done hlt h40)
      go_wp2
      go_ret
      exact ⟨ret_bool HE.out.symm, HB.out⟩
set_option maxHeartbeats 8000000 in
set_option maxRecDepth 100000 in
theorem sEntriesValid_any (A : Option Addr) (c : Nat) (l : List En) (w : World) (hs : Sl w encE 2 A l) (hl : l.length ≤ 16777216) (hf : FitE l) :
    Calls Tryd.prog 83 #[.slice A l.length c] w fun e w' => e = .returned (.bool (entsV l)) ∧ Below w.heap.size w w' := by
  have HS := Lib.hid hs
  have HF := Lib.hid hf
  clear hs hf
  go_enter Tryd.func83, Tryd.ntmps83
  go_wp2
  go_loopw [3] (fun i wr => ∃ (k : Nat), k ≤ l.length ∧ i = .int .i64 k ∧ Hid (EntUpto l k) ∧ Hid (Below w.heap.size w wr)) (fun i _ => l.length - (intOf i).toNat)
  case atStart => exact ⟨0, Nat.zero_le _, rfl, EntUpto.zero l, Below.refl _ _⟩
  case round =>
    obtain ⟨k, hk, rfl, hh, HB⟩ := hrel
    by_cases hlt : k < l.length
    · have hsk := HS.out.below HB.out
      obtain ⟨b, o, rfl, hc0, hc1⟩ := hsk.getE hlt
      have hfk := HF.out.at hlt
      have hpv := @prev_cellE _ _ _ _ k hsk hlt
      have H1 := Lib.hid (fun h => entsV_bad hlt (entAt_word hlt h))
      have H2 := Lib.hid (fun h => entsV_bad hlt (entAt_pv hlt h))
      have H3 := Lib.hid (fun h0 h => entsV_bad hlt (entAt_asc hlt h0 h))
      have H4 := Lib.hid (fun h1 h2 h3 => hh.out.succ (entAt_ok hlt h1 h2 h3))
      have hx0 := far_cell hc0
      have hx1 := far_cell hc1
      clear hsk hc0 hc1
      generalize (l.getD (k - 1) en0).1 = z at *
      generalize l[k] = p at *
      obtain ⟨t, a⟩ := p
      simp only at *
      have hTV := fun w => sWordValid_any t w hfk
      have hPV : ∀ w, Calls Tryd.prog 47 #[.int .i64 a, .int .i64 0, .int .i64 16777212] w fun e w' => e = .returned (.bool (pv a)) ∧ w = w' := fun w => sl1In_any a 0 16777212 w
      cases h1 : wordV (bs t)
      · have HE := Lib.hid (H1.out h1)
        rw [h1] at hTV
        have HTV := Lib.hid hTV
        clear hTV hPV h1 H1 H2 H3 H4 hpv
        go_wp2
        refine wp_region_far (by kernel_rfl) (by kernel_rfl) ?_
        repeat (go_big_quiet_step ((go_at_call 59; exact far_same (HTV.out _))))
        refine wpQuiet_nil ?_
        intro _ hwF
        obtain ⟨pF, hwF⟩ := hwF
        subst hwF
        have HB5 := Lib.hid (Below_then HB.out (far_below _ pF) (Nat.le_refl _))
        generalize far _ pF = wF at *
        go_wp2
        go_ret
        exact ⟨ret_bool HE.out.symm, HB5.out⟩
      · rw [h1] at hTV
        have HTV := Lib.hid hTV
        clear hTV
        cases h2 : pv a
        · have HE := Lib.hid (H2.out h2)
          rw [h2] at hPV
          have HPV := Lib.hid hPV
          clear hPV h1 h2 H1 H2 H3 H4 hpv
          go_wp2
          refine wp_region_far (by kernel_rfl) (by kernel_rfl) ?_
          repeat (go_big_quiet_step ((first | (go_at_call 59; exact far_same (HTV.out _)) | (go_at_call 47; exact far_same (HPV.out _)))))
          refine wpQuiet_nil ?_
          intro _ hwF
          obtain ⟨pF, hwF⟩ := hwF
          subst hwF
          have HB5 := Lib.hid (Below_then HB.out (far_below _ pF) (Nat.le_refl _))
          generalize far _ pF = wF at *
          go_wp2
          go_ret
          exact ⟨ret_bool HE.out.symm, HB5.out⟩
        · rw [h2] at hPV
          have HPV := Lib.hid hPV
          clear hPV
          by_cases h0 : k = 0
          · have HN := Lib.hid (H4.out h1 h2 (.inl h0))
            clear h1 h2 H1 H2 H3 H4 hpv
            have hk0 : decide (0 < k) = false := decide_eq_false (by omega)
            clear h0
            go_wp2
            refine wp_region_far (by kernel_rfl) (by kernel_rfl) ?_
            repeat (go_big_quiet_step ((first | (go_at_call 59; exact far_same (HTV.out _)) | (go_at_call 47; exact far_same (HPV.out _)))))
            refine wpQuiet_nil ?_
            intro _ hwF
            obtain ⟨pF, hwF⟩ := hwF
            subst hwF
            have HB5 := Lib.hid (Below_then HB.out (far_below _ pF) (Nat.le_refl _))
            generalize far _ pF = wF at *
            go_wp2
            go_roundw
            case rel => exact ⟨k + 1, by omega, by go_num, HN.out, HB5.out⟩
            case measure => simp [intOf]; omega
          · have hp1 := far_cell (hpv h0)
            have hk1 : 0 < k := by omega
            have hk2 : IntKind.i64.wrap ((k : Int) - 1) = (k : Int) - 1 := IntWalk.i64_in _ (by omega)
            have hk3 : (0 : Int) ≤ (k : Int) - 1 := by omega
            have hk4 : (k : Int) - 1 < (l.length : Int) := by omega
            have hk5 : ((k : Int) - 1).toNat = k - 1 := by omega
            cases h3 : lessB (bs z) (bs t)
            · have HE := Lib.hid (H3.out h0 h3)
              cases h4 : lessB (bs t) (bs z)
              · have e4 := less_t h4
                have e5 : (t.toList == z.toList) = true := by rw [eq_tl]; exact beq_iff_eq.2 (lessB_tri h4 h3)
                clear h1 h2 h3 h4 H1 H2 H3 H4 hpv
                go_wp2
                refine wp_region_far (by kernel_rfl) (by kernel_rfl) ?_
                repeat (go_big_quiet_step ((first | (go_at_call 59; exact far_same (HTV.out _)) | (go_at_call 47; exact far_same (HPV.out _)))))
                refine wpQuiet_nil ?_
                intro _ hwF
                obtain ⟨pF, hwF⟩ := hwF
                subst hwF
                have HB5 := Lib.hid (Below_then HB.out (far_below _ pF) (Nat.le_refl _))
                clear hx0 hx1 hp1
                generalize far _ pF = wF at *
                go_wp2
                go_ret
                exact ⟨ret_bool HE.out.symm, HB5.out⟩
              · have e4 := less_t h4
                clear h1 h2 h3 h4 H1 H2 H3 H4 hpv
                go_wp2
                refine wp_region_far (by kernel_rfl) (by kernel_rfl) ?_
                repeat (go_big_quiet_step ((first | (go_at_call 59; exact far_same (HTV.out _)) | (go_at_call 47; exact far_same (HPV.out _)))))
                refine wpQuiet_nil ?_
                intro _ hwF
                obtain ⟨pF, hwF⟩ := hwF
                subst hwF
                have HB5 := Lib.hid (Below_then HB.out (far_below _ pF) (Nat.le_refl _))
                clear hx0 hx1 hp1
                generalize far _ pF = wF at *
                go_wp2
                go_ret
                exact ⟨ret_bool HE.out.symm, HB5.out⟩
            · have HN := Lib.hid (H4.out h1 h2 (.inr h3))
              have e4 := less_t (lessB_asymm h3)
              have e5 : (t.toList == z.toList) = false := by rw [eq_tl, beq_eq_false_iff_ne]; intro e; have h3' : lessB (tx z) (tx t) = true := h3; rw [e, lessB_irrefl] at h3'; cases h3'
              clear h1 h2 h3 H1 H2 H3 H4 hpv
              go_wp2
              refine wp_region_far (by kernel_rfl) (by kernel_rfl) ?_
              repeat (go_big_quiet_step ((first | (go_at_call 59; exact far_same (HTV.out _)) | (go_at_call 47; exact far_same (HPV.out _)))))
              refine wpQuiet_nil ?_
              intro _ hwF
              obtain ⟨pF, hwF⟩ := hwF
              subst hwF
              have HB5 := Lib.hid (Below_then HB.out (far_below _ pF) (Nat.le_refl _))
              clear hx0 hx1 hp1
              generalize far _ pF = wF at *
              go_wp2
              go_roundw
              case rel => exact ⟨k + 1, by omega, by go_num, HN.out, HB5.out⟩
              case measure => simp [intOf]; omega
    · have HD := Lib.hid (fun h40 => hh.out.done hlt h40)
      have HL := Lib.hid (@entsV_long l)
      by_cases h40 : l.length ≤ 3
      · have HE := Lib.hid (HD.out h40)
        go_wp2
        go_ret
        exact ⟨ret_bool (by rw [HE.out]; simp; omega), HB.out⟩
      · have HE := Lib.hid (HL.out h40)
        go_wp2
        go_ret
        exact ⟨ret_bool (by rw [HE.out]; simp; omega), HB.out⟩
end Go.Proofs.YtaghiefokmapmaaDoor

/- DropEntry of the reference. -/
set_option linter.unusedVariables false
namespace Go.Proofs.YtaghiefokmapmaaDoor
open Go.RowKit
/-- A list of entries and whether it was possible. -/
def EnRes (r : List En × Bool) (w : World) (e : Ending) (w' : World) : Prop :=
  ∃ v, e = .returned (.tuple #[v, .bool r.2]) ∧ Own w' w.heap.size 100 2 encE v r.1 ∧ Below w.heap.size w w'
def dropQ (n : Bs) (l : List En) : List En := l.filter fun x => !(tx x.1 == n)
theorem dropQ_next {n : Bs} {l : List En} {k : Nat} (h : k < l.length) : dropQ n (l.take (k + 1)) = dropQ n (l.take k) ++ if (tx l[k].1 == n) then [] else [l[k]] := by
  unfold dropQ
  rw [List.take_succ_eq_append_getElem h, List.filter_append]
  cases hp : (tx l[k].1 == n) <;> simp [hp]
theorem dropQ_len (n : Bs) (l : List En) : (dropQ n l).length ≤ l.length := List.length_filter_le _ _
set_option maxHeartbeats 4000000 in
set_option maxRecDepth 100000 in
theorem sDropEntry_any (A : Option Addr) (c : Nat) (l : List En) (n : ByteArray) (w : World) (hs : Sl w encE 2 A l) (hv : entsV l = true) :
    Calls Tryd.prog 105 #[.slice A l.length c, .string n] w (EnRes (dropE l (bs n)) w) := by
  have HS := Lib.hid hs
  have HB := Lib.hid ((Below.refl w.heap.size w).alloc (Nat.le_refl _) madeEn)
  have HW := Lib.hid (Own.made (enc := encE) (E := 100) (size := 2) (Nat.le_refl w.heap.size))
  have hl3 := entsV_len hv
  have hEV := fun w h => sEntriesValid_any A c l w h (by omega) (fitE_valid hv)
  rw [hv] at hEV
  have HEV := Lib.hid hEV
  have E1 : Hid ((dropE l (bs n)).1 = dropQ (bs n) l) := dropE_filter hv (bs n)
  have E2 := Lib.hid (show decide ((dropQ (bs n) l).length < l.length) = (dropE l (bs n)).2 by
    rw [dropE_ok hv, ← dropE_lt hv (bs n), show (dropE l (bs n)).1 = dropQ (bs n) l from dropE_filter hv (bs n)])
  have HLQ := Lib.hid (fun k => dropQ_len (bs n) (l.take k))
  clear hEV hs
  generalize dropE l (bs n) = R at *
  unfold EnRes
  go_enter Tryd.func105, Tryd.ntmps105
  go_wp2_with fail
  go_loopw [6, 7] (fun v i wr => ∃ (k : Nat), k ≤ l.length ∧ i = .int .i64 k ∧ Own wr w.heap.size 100 2 encE v (dropQ (bs n) (l.take k)) ∧ Hid (Below w.heap.size w wr)) (fun _ i _ => l.length - (intOf i).toNat)
  case atStart => exact ⟨0, Nat.zero_le _, rfl, HW.out, HB.out⟩
  case round =>
    obtain ⟨k, hk, rfl, hown, HBW⟩ := hrel
    have HWW := Lib.hid hown
    clear hown
    by_cases hlt : k < l.length
    · have hlt' : (k : Int) < (l.length : Int) := by omega
      obtain ⟨b, o, hA, _, _⟩ := (HS.out.below HBW.out).getE hlt
      subst hA
      have HN := Lib.hid (dropQ_next (n := bs n) hlt)
      have hla := HLQ.out k
      have hla2 : (dropQ (bs n) (l.take k)).length ≤ 16777216 := by rw [List.length_take] at hla; omega
      go_wp2_with fail
      refine (HEV.out _ (HS.out.below HBW.out)).mono ?_
      rintro e w3 ⟨rfl, hb⟩
      replace HBW := Lib.hid (Below_then HBW.out hb (Nat.le_refl _))
      replace HWW := Lib.hid (HWW.out.below hb)
      clear hb
      obtain ⟨b2, o2, e2, hc0, hc1⟩ := (HS.out.below HBW.out).getE hlt
      injection e2 with e2; injection e2 with e3 e4
      subst e3 e4
      generalize l[k] = y at *
      obtain ⟨t, a⟩ := y
      simp only at hc0 hc1
      cases hq : (t.toList == n.toList)
      · have hne : (tx t == bs n) = false := by rw [eq_tlx] at hq; exact hq
        have HN2 := Lib.hid (show dropQ (bs n) (l.take (k + 1)) = dropQ (bs n) (l.take k) ++ [(t, a)] by rw [HN.out]; show _ ++ (if (tx t == bs n) = true then _ else _) = _; rw [hne]; rfl)
        clear hne HN
        go_wp2_with (at_builtin; refine app_en (w0 := w) (base := w.heap.size) (y := (t, a)) rfl rfl rfl rfl HWW.out HBW.out (Nat.le_refl _) HBW.out.size hla2 ?_; intro v1 w6 hown6 hb6; have HW6 := Lib.hid hown6; have HB6 := Lib.hid hb6; clear hown6 hb6)
        go_roundw
        case rel => exact ⟨k + 1, by omega, by go_num, by rw [HN2.out]; exact HW6.out, HB6.out⟩
        case measure => simp [intOf]; omega
      · have hne : (tx t == bs n) = true := by rw [eq_tlx] at hq; exact hq
        have HN2 := Lib.hid (show dropQ (bs n) (l.take (k + 1)) = dropQ (bs n) (l.take k) by rw [HN.out]; show _ ++ (if (tx t == bs n) = true then _ else _) = _; rw [hne]; simp)
        clear hne HN
        go_wp2
        go_roundw
        case rel => exact ⟨k + 1, by omega, by go_num, by rw [HN2.out]; exact HWW.out, HBW.out⟩
        case measure => simp [intOf]; omega
    · have hlt' : ¬ (k : Int) < (l.length : Int) := by omega
      have HE := Lib.hid (show l.take k = l from List.take_of_length_le (by omega))
      rw [HE.out] at HWW
      obtain ⟨X, d, e6, hle6, hs6, _⟩ := HWW.out.sl
      subst e6
      go_wp2_with fail
      refine (HEV.out _ (HS.out.below HBW.out)).mono ?_
      rintro e w3 ⟨rfl, hb⟩
      replace HBW := Lib.hid (Below_then HBW.out hb (Nat.le_refl _))
      replace HWW := Lib.hid (HWW.out.below hb)
      clear hb hs6
      by_cases hlq : (dropQ (bs n) l).length < l.length
      · have hlq' : ((dropQ (bs n) l).length : Int) < (l.length : Int) := by omega
        have HR2 := Lib.hid (show R.2 = true by rw [← E2.out]; exact decide_eq_true hlq)
        go_wp2
        go_ret2
        rw [HR2.out, E1.out]
        exact ⟨_, rfl, HWW.out, HBW.out⟩
      · have hlq' : ¬ ((dropQ (bs n) l).length : Int) < (l.length : Int) := by omega
        have HR2 := Lib.hid (show R.2 = false by rw [← E2.out]; exact decide_eq_false hlq)
        go_wp2
        go_ret2
        rw [HR2.out, E1.out]
        exact ⟨_, rfl, HWW.out, HBW.out⟩
end Go.Proofs.YtaghiefokmapmaaDoor
