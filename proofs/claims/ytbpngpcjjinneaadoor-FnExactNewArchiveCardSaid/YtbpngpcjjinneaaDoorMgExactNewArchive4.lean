/- Written by merge.py: Ps, Ft, Fw, Fa, Em, Ar, Na, L8a, Ki, L1, ENewArchive, Door, Tz. -/
import Derived.Maps.AppendAt
import Derived.Test.YtbpngpcjjinneaaDoorRows
import Derived.Handed
import Derived.HandedShaped
import Derived.Lay
import Derived.LaidMore
import Derived.SevenTiedAt
import Derived.Stop.Joined
import Derived.Shelf.Vars
import Derived.LaidSub
import Derived.OpenShut
import Derived.Test.YtbpngpcjjinneaaDoorMgExactNewArchive3
/- PutText of the reference, walked. Written by gen_ps.py. -/
set_option linter.unusedVariables false
namespace Go.Proofs.YtbpngpcjjinneaaDoor
open Go.RowKit
attribute [local go_sem] mk_toList

section
variable {ops : Array Oper} {o : Oper} {a : Act} {K : Act → World → Prop} {Q : Exit → Act → World → Prop} {E' : Prop} {w0 wr : World} {v : Value}
set_option maxRecDepth 100000 in
theorem step_pcK {l m : List Pc} {A : Option Addr} {c : Nat} {s x : Operand} (hgd : o.guard = none) (ho : o.op = .call { callee := .builtin .append, args := #[s, x], argTypes := #[37, 37] })
    (hown : Own wr w0.heap.size 79 2 encP v l) (hb : Below w0.heap.size w0 wr) (hn : l.length + m.length ≤ 33554432) (hsl : Sl wr encP 2 A m) (hcz : A = none → c = 0)
    (hs : a.eval s = v) (hx : a.eval x = .slice A m.length c)
    (h : ∀ v' w', Own w' w0.heap.size 79 2 encP v' (l ++ m) → Below w0.heap.size w0 w' → Grew v wr w' → Kin v wr v' → K (a.put o.dst v') w') : if Region.wanted o (yielded ops a.tmps) = true then Oper.wp Tryd.prog o a wr K Q else E' := by
  obtain ⟨i0, hi0, hz0, hz1, hz2⟩ := info_parts pc_info
  have hw : Region.wanted o (yielded ops a.tmps) = true := by simp [Region.wanted, hgd]
  rw [if_pos hw]
  cases A with
  | none =>
    have hm : m = [] := by
      cases m with
      | nil => rfl
      | cons y r => obtain ⟨b, o, e, _⟩ := hsl (by simp); cases e
    subst hm
    rw [hcz rfl] at hx
    have hrun := run_append_owned_none (P := Tryd.prog) (w := wr) w0.heap.size 37 o.type 79 i0 2 Tryd.underlying37 hi0 v l.length (flat encP l) hown
    have hK := h v wr (by rw [List.append_nil]; exact hown) hb (Grew.refl _ _) (fun b _ h => h)
    simp at hx
    unfold Oper.wp
    simp [execOp, ho, resolve, invoke, builtin, hs, hx, hrun, Result.andThen]
    exact hK
  | some ad =>
    obtain ⟨v', w', hr, h2, h3, h4, h5⟩ := run_append_own_at (P := Tryd.prog) wr w0.heap.size 37 o.type 79 i0 _ 2 24 Tryd.underlying37 hi0 hz0 hz1 hz2 rfl (by decide) v l.length (flat encP l) hown ad m.length c (flat encP m) (flat_length (enc := encP) (size := 2) (fun _ => rfl) m) (by
        intro j u hu
        have hpos : 0 < m.length := by
          have hlt := (List.getElem?_eq_some_iff.1 hu).1
          rw [flat_length (enc := encP) (size := 2) (fun _ => rfl)] at hlt
          cases m with
          | nil => simp at hlt
          | cons y r => simp
        obtain ⟨b, o', e, hc⟩ := hsl hpos
        injection e with e
        subst e
        have hadd : (⟨b, o', none⟩ : Addr).add j = ⟨b, o' + j, none⟩ := by unfold Addr.add; split <;> simp_all
        rw [hadd]; exact hc j u hu) (by
        intro u hu
        unfold flat at hu
        obtain ⟨y, _, hy⟩ := List.mem_flatMap.1 hu
        exact oneP y u hy) (by unfold maxLen; omega) (by omega) hb.size
    unfold Oper.wp execOp
    simp only [ho, resolve, invoke, builtin, Sem.run_bind, Sem.run_pure, Result.andThen_ok, List.map_toArray, List.map_cons, List.map_nil, hs, hx, hr]
    refine h v' w' ?_ (hb.grown h3 hb.size (fun k hk => (World.ownsRow.lt hown k hk).1)) h3 ?_
    · show w'.ownsRow _ _ _ v' (l ++ m).length (flat encP (l ++ m))
      rw [flat_append, List.length_append]; exact h2
    · intro b hb2 hne hv'
      rcases h5 with h5 | h5
      · exact hne (h5 ▸ hv')
      · rw [h5] at hv'; injection hv' with e; omega
end
theorem own_sh {w : World} {base : Nat} {v : Value} {l : List Pc} (h : Own w base 79 2 encP v l) : ∃ A c, v = .slice A l.length c := let ⟨A, c, e, _⟩ := h.sl; ⟨A, c, e⟩
/-- What is known of the region's slots, as far as they are set. -/
structure PtJ (w1 : World) (A : Option Addr) (n c k : Nat) (l : List Pc) (p : Int) (t : ByteArray) (d : Nat → Bool) (u77 u78 u79 u80 u81 u82 u83 u84 u85 u86 u87 u88 u89 u90 u91 u4 u5 u6 : Value) (W : World) : Prop where
  b : Below w1.heap.size w1 W
  o4 : d 4 = true → d 0 = true ∧ d 3 = true
  o9 : d 9 = true → d 4 = true ∧ d 8 = true
  o13 : d 13 = true → d 9 = true ∧ d 12 = true
  o15 : d 15 = true → d 13 = true
  c0 : d 0 = true → d 4 = false → Own W w1.heap.size 79 2 encP u77 []
  c1 : d 1 = true → u78 = .slice A n c
  c2 : d 2 = true → u79 = .int .i64 (k : Int)
  c3 : d 3 = true → ∃ A' c', u80 = .slice A' (l.take k).length c' ∧ (A' = none → c' = 0) ∧ Sl w1 encP 2 A' (l.take k)
  c4 : d 4 = true → d 9 = false → Own W w1.heap.size 79 2 encP u81 (l.take k)
  c5 : d 5 = true → u82 = .int .i64 p
  c6 : d 6 = true → u83 = .string t
  c7 : d 7 = true → u84 = .agg #[.int .i64 p, .string t]
  c8 : d 8 = true → d 9 = false → ∃ g, u85 = .slice (some ⟨g, 0, none⟩) 1 1 ∧ g < W.heap.size ∧ Sl W encP 2 (some ⟨g, 0, none⟩) [(p, t)] ∧ (d 0 = true → d 4 = false → u77.ownBlock ≠ some g) ∧ (d 4 = true → u81.ownBlock ≠ some g)
  c9 : d 9 = true → d 13 = false → Own W w1.heap.size 79 2 encP u86 (l.take k ++ [(p, t)])
  c10 : d 10 = true → u87 = .slice A n c
  c11 : d 11 = true → u88 = .int .i64 (k : Int)
  c12 : d 12 = true → ∃ A' c', u89 = .slice A' (l.drop k).length c' ∧ (A' = none → c' = 0) ∧ Sl w1 encP 2 A' (l.drop k)
  c13 : d 13 = true → Own W w1.heap.size 79 2 encP u90 (l.take k ++ [(p, t)] ++ l.drop k)
  c14 : d 14 = true → u91 = .int .i64 p
  c15 : d 15 = true → u4 = u90
  c16 : d 16 = true → u5 = .int .i64 p
  c17 : d 17 = true → u6 = .bool true

section
variable {w1 : World} {A : Option Addr} {n c k : Nat} {l : List Pc} {p : Int} {t : ByteArray} {d : Nat → Bool} {u77 u78 u79 u80 u81 u82 u83 u84 u85 u86 u87 u88 u89 u90 u91 u4 u5 u6 : Value} {W W' : World} {v' : Value}
theorem PtJ.step0 (h : PtJ w1 A n c k l p t d u77 u78 u79 u80 u81 u82 u83 u84 u85 u86 u87 u88 u89 u90 u91 u4 u5 u6 W) (h0 : d 0 = false) : PtJ w1 A n c k l p t (fun j => j == 0 || d j) (.slice (some ⟨W.heap.size, 0, none⟩) 0 0) u78 u79 u80 u81 u82 u83 u84 u85 u86 u87 u88 u89 u90 u91 u4 u5 u6 (W.alloc (.cells #[] 79)) := by
  have h4 : d 4 = false := by
    cases e : d 4
    · rfl
    · rw [(h.o4 e).1] at h0; cases h0
  have h9 : d 9 = false := by
    cases e : d 9
    · rfl
    · rw [(h.o9 e).1] at h4; cases h4
  have h13 : d 13 = false := by
    cases e : d 13
    · rfl
    · rw [(h.o13 e).1] at h9; cases h9
  exact { h with
    b := h.b.alloc h.b.size _
    o4 := fun e => by rw [show (4 == 0 || d 4) = d 4 from rfl, h4] at e; cases e
    c0 := fun _ _ => Own.made h.b.size
    c4 := fun e => by rw [show (4 == 0 || d 4) = d 4 from rfl, h4] at e; cases e
    c8 := fun e1 e2 => by
      obtain ⟨g, e, hg, hs, _, hq⟩ := h.c8 e1 e2
      exact ⟨g, e, by simp; omega, hs.alloc _, fun _ _ e => (by have e2 : W.heap.size = g := (by simpa [Value.ownBlock] using e); omega), hq⟩
    c9 := fun e => by rw [show (9 == 0 || d 9) = d 9 from rfl, h9] at e; cases e
    c13 := fun e => by rw [show (13 == 0 || d 13) = d 13 from rfl, h13] at e; cases e }
theorem PtJ.step4 (h : PtJ w1 A n c k l p t d u77 u78 u79 u80 u81 u82 u83 u84 u85 u86 u87 u88 u89 u90 u91 u4 u5 u6 W) (h0 : d 0 = true) (h3 : d 3 = true) (h4 : d 4 = false) (hown : Own W' w1.heap.size 79 2 encP v' ([] ++ l.take k)) (hb : Below w1.heap.size w1 W') (hg : Grew u77 W W') (hk : Kin u77 W v') :
    PtJ w1 A n c k l p t (fun j => j == 4 || d j) u77 u78 u79 u80 v' u82 u83 u84 u85 u86 u87 u88 u89 u90 u91 u4 u5 u6 W' := by
  have h9 : d 9 = false := by
    cases e : d 9
    · rfl
    · rw [(h.o9 e).1] at h4; cases h4
  have h13 : d 13 = false := by
    cases e : d 13
    · rfl
    · rw [(h.o13 e).1] at h9; cases h9
  exact { h with
    b := hb
    o4 := fun _ => ⟨h0, h3⟩
    o9 := fun e => by rw [show (9 == 4 || d 9) = d 9 from rfl, h9] at e; cases e
    c0 := fun _ e => by cases e
    c4 := fun _ _ => by rw [List.nil_append] at hown; exact hown
    c8 := fun e1 e2 => by
      obtain ⟨g, e, hgl, hs, hp, _⟩ := h.c8 e1 e2
      have hne := hp h0 h4
      exact ⟨g, e, Nat.lt_of_lt_of_le hgl hg.size, hs.grew hg (fun b o e => by injection e with e; injection e with e; subst e; exact hne), (fun _ e => by cases e), (fun _ => hk g hgl hne)⟩
    c9 := fun e => by rw [show (9 == 4 || d 9) = d 9 from rfl, h9] at e; cases e
    c13 := fun e => by rw [show (13 == 4 || d 13) = d 13 from rfl, h13] at e; cases e }
theorem PtJ.step8 (h : PtJ w1 A n c k l p t d u77 u78 u79 u80 u81 u82 u83 u84 u85 u86 u87 u88 u89 u90 u91 u4 u5 u6 W) (h8 : d 8 = false) : PtJ w1 A n c k l p t (fun j => j == 8 || d j) u77 u78 u79 u80 u81 u82 u83 u84 (.slice (some ⟨W.heap.size, 0, none⟩) 1 1) u86 u87 u88 u89 u90 u91 u4 u5 u6 (W.alloc (.cells #[.int .i64 p, .string t] 79)) := by
  have h9 : d 9 = false := by
    cases e : d 9
    · rfl
    · rw [(h.o9 e).2] at h8; cases h8
  have h13 : d 13 = false := by
    cases e : d 13
    · rfl
    · rw [(h.o13 e).1] at h9; cases h9
  exact { h with
    b := h.b.alloc h.b.size _
    o9 := fun e => by rw [show (9 == 8 || d 9) = d 9 from rfl, h9] at e; cases e
    c0 := fun e1 e2 => (h.c0 e1 e2).alloc _
    c4 := fun e1 e2 => (h.c4 e1 e2).alloc _
    c8 := fun _ _ => ⟨W.heap.size, rfl, by simp, one_sl (x := (p, t)) (heap_alloc_new W _), (fun e1 e2 e => by have := ((h.c0 e1 e2).blk _ e).2; omega), (fun e1 e => by have := ((h.c4 e1 h9).blk _ e).2; omega)⟩
    c9 := fun e => by rw [show (9 == 8 || d 9) = d 9 from rfl, h9] at e; cases e
    c13 := fun e => by rw [show (13 == 8 || d 13) = d 13 from rfl, h13] at e; cases e }
theorem PtJ.step9 (h : PtJ w1 A n c k l p t d u77 u78 u79 u80 u81 u82 u83 u84 u85 u86 u87 u88 u89 u90 u91 u4 u5 u6 W) (h4 : d 4 = true) (h8 : d 8 = true) (h9 : d 9 = false) (hown : Own W' w1.heap.size 79 2 encP v' (l.take k ++ [(p, t)])) (hb : Below w1.heap.size w1 W') :
    PtJ w1 A n c k l p t (fun j => j == 9 || d j) u77 u78 u79 u80 u81 u82 u83 u84 u85 v' u87 u88 u89 u90 u91 u4 u5 u6 W' := by
  have h13 : d 13 = false := by
    cases e : d 13
    · rfl
    · rw [(h.o13 e).1] at h9; cases h9
  exact { h with
    b := hb
    o9 := fun _ => ⟨h4, h8⟩
    o13 := fun e => by rw [show (13 == 9 || d 13) = d 13 from rfl, h13] at e; cases e
    c0 := fun _ e => by rw [show (4 == 9 || d 4) = d 4 from rfl, h4] at e; cases e
    c4 := fun _ e => by cases e
    c8 := fun _ e => by cases e
    c9 := fun _ _ => hown
    c13 := fun e => by rw [show (13 == 9 || d 13) = d 13 from rfl, h13] at e; cases e }
theorem PtJ.step13 (h : PtJ w1 A n c k l p t d u77 u78 u79 u80 u81 u82 u83 u84 u85 u86 u87 u88 u89 u90 u91 u4 u5 u6 W) (h9 : d 9 = true) (h12 : d 12 = true) (h13 : d 13 = false) (hown : Own W' w1.heap.size 79 2 encP v' (l.take k ++ [(p, t)] ++ l.drop k)) (hb : Below w1.heap.size w1 W') :
    PtJ w1 A n c k l p t (fun j => j == 13 || d j) u77 u78 u79 u80 u81 u82 u83 u84 u85 u86 u87 u88 u89 v' u91 u4 u5 u6 W' := by
  have h4 := (h.o9 h9).1
  have h15 : d 15 = false := by
    cases e : d 15
    · rfl
    · rw [h.o15 e] at h13; cases h13
  exact { h with
    b := hb
    o15 := fun e => by rw [show (15 == 13 || d 15) = d 15 from rfl, h15] at e; cases e
    c15 := fun e => by rw [show (15 == 13 || d 15) = d 15 from rfl, h15] at e; cases e
    o13 := fun _ => ⟨h9, h12⟩
    c0 := fun _ e => by rw [show (4 == 13 || d 4) = d 4 from rfl, h4] at e; cases e
    c4 := fun _ e => by rw [show (9 == 13 || d 9) = d 9 from rfl, h9] at e; cases e
    c8 := fun _ e => by rw [show (9 == 13 || d 9) = d 9 from rfl, h9] at e; cases e
    c9 := fun _ e => by cases e
    c13 := fun _ => hown }
theorem Sl.dropP {w : World} {b o : Nat} {l : List Pc} {k : Nat} (h : Sl w encP 2 (some ⟨b, o, none⟩) l) (hk : k ≤ l.length) : Sl w encP 2 (some ⟨b, o + k * 2, none⟩) (l.drop k) := by
  intro hn
  obtain ⟨b', o', e, hc⟩ := h (by rw [List.length_drop] at hn; omega)
  injection e with e; injection e with e1 e2
  subst e1 e2
  refine ⟨b, o + k * 2, rfl, fun j u hu => ?_⟩
  rw [(flat_take (enc := encP) (k := 2) (fun _ => rfl) l k hk).2, List.getElem?_drop] at hu
  have := hc _ u hu
  rw [← Nat.add_assoc] at this; exact this
end
set_option maxHeartbeats 2000000 in
set_option maxRecDepth 100000 in
theorem sPutText_any (A : Option Addr) (c : Nat) (l : List Pc) (t : ByteArray) (w : World) (hs : Sl w encP 2 A l) (hcz : A = none → c = 0) (hle : l.length ≤ c) (hl : l.length ≤ 16777216) (hf : FitP l) (ht : t.size ≤ 16777216) :
    Calls Tryd.prog 55 #[.slice A l.length c, .string t] w (PutRes (putT l t) w) := by
  have HS := Lib.hid hs
  have HCZ := Lib.hid hcz
  have hsv := fun w h => sStoreValid_any A c l w h hl hf
  have hPO := fun w => sPrintOf_any t w ht
  cases hv : storeV l
  case false =>
    have E := Lib.hid (putT_bad (t := t) hv)
    rw [hv] at hsv
    have HSV := Lib.hid hsv
    clear hsv hs hcz hPO
    unfold PutRes
    go_enter Tryd.func55, Tryd.ntmps55
    go_wp2_with fail
    refine (HSV.out _ HS.out).mono ?_
    rintro e w1 ⟨rfl, hb⟩
    have HB := Lib.hid (hb.alloc hb.size (.cells #[] 79))
    have HM := Lib.hid (Own.made (enc := encP) (E := 79) (size := 2) hb.size)
    clear hb
    go_wp2
    go_ret3
    rw [E.out]
    exact ⟨_, rfl, HM.out, HB.out⟩
  case true =>
    rw [hv] at hsv
    have HSV := Lib.hid hsv
    have E0 := Lib.hid (fun h => putT_text (t := t) hv h)
    have E1 := Lib.hid (fun h h2 => putT_there (t := t) hv h h2)
    have E2 := Lib.hid (fun u h h2 => putT_clash (t := t) (u := u) hv h h2)
    have E3 := Lib.hid (fun h h2 => putT_full (t := t) hv h h2)
    have E4 := Lib.hid (fun h h2 => putT_new (t := t) hv h h2)
    have hgh := fun p => getT_here (storeV_sorted hv) (p := p)
    unfold tx at E0 E1 E2 E3 E4
    have hp0 := @prOf_bad (bs t)
    have hp1 := @prOf_pv (bs t)
    have hpb := prOf_bd (bs t)
    generalize prOf (bs t) = p at *
    generalize textV (bs t) = tv at *
    have hgh := hgh p
    have HGH := Lib.hid hgh
    have HPO := Lib.hid hPO
    have HP0 := Lib.hid hp0
    have HP1 := Lib.hid hp1
    clear hsv hs hcz hPO hv hgh hp0 hp1
    unfold PutRes
    generalize putT l t = R at *
    go_enter Tryd.func55, Tryd.ntmps55
    go_wp2_with (first
      | (go_at_call 61; refine (HSV.out _ HS.out).mono ?_; rintro e w1 ⟨rfl, hb⟩; have HB1 := Lib.hid hb; have HS1 := Lib.hid (HS.out.below hb); clear hb)
      | (go_at_call 54; refine (HPO.out _).mono ?_; rintro e w' ⟨rfl, rfl⟩))
    go_loop [8] (fun i => ∃ k : Nat, k ≤ l.length ∧ i = .int .i64 k ∧ Hid (∀ j (h : j < l.length), j < k → l[j].1 < p)) (fun i => l.length - (intOf i).toNat)
    case atStart => exact ⟨0, Nat.zero_le _, rfl, fun j h h2 => by omega⟩
    case round =>
      obtain ⟨k, hk, rfl, H1⟩ := hrel
      by_cases hlt : k < l.length
      · obtain ⟨b, o, rfl, hc0, hc1⟩ := HS1.out.getP hlt
        have hnx := fun (hx : l[k].1 < p) (j : Nat) (h : j < l.length) (hj : j < k + 1) => show l[j].1 < p by
          by_cases e : j = k
          · subst e; exact hx
          · exact H1.out j h (by omega)
        have HNX := Lib.hid hnx
        have hbe := fun (hx : ¬ l[k].1 < p) => below_of l p k hk H1.out (fun _ => hx)
        have HBE := Lib.hid hbe
        have hgd := getD_pc hlt
        have HGD := Lib.hid hgd
        clear hnx hbe hgd
        by_cases hx : l[k].1 < p
        · have HN := Lib.hid (HNX.out hx)
          clear HNX HBE HGD
          generalize l[k] = q at *
          go_wp2
          go_round
          case rel => exact ⟨k + 1, by omega, by go_num, HN.out⟩
          case measure => simp [intOf]; omega
        · have HB := Lib.hid (HBE.out hx)
          clear HNX HBE
          generalize l[k] = q at *
          obtain ⟨q0, u⟩ := q
          simp only at *
          have HH := Lib.hid (show hereP l p = decide (q0 = p) by unfold hereP; rw [HB.out, HGD.out, decide_eq_true hlt, Bool.true_and])
          cases tv
          · have hpn : p = -1 := HP0.out rfl
            subst hpn
            go_wp2_with (at_builtin; refine app_pcN (w0 := w1) (l := []) rfl rfl (Own.made (Nat.le_refl _)) ((Below.refl _ _).alloc (Nat.le_refl _) _) (by simp; omega) (HS1.out.alloc _) HCZ.out (by rfl) (by rfl) ?_; intro v5 w5 hown5 hb5 hg5; rw [List.nil_append] at hown5; have HW5 := Lib.hid hown5; have HB5 := Lib.hid hb5; clear hown5 hb5 hg5)
            go_ret3
            rw [E0.out (by simp)]
            exact ⟨_, rfl, HW5.out.mono HB1.out.size, Below_then HB1.out HB5.out (Nat.le_refl _)⟩
          · have hpp : 0 ≤ p := (pv_iff.1 (HP1.out rfl)).1
            have hpn : ¬ p < 0 := by omega
            by_cases e : q0 = p
            · subst e
              have hgt : getT l q0 = some u := by rw [HGH.out, HH.out, HB.out, HGD.out]; simp
              have HGT := Lib.hid hgt
              clear hgt
              by_cases hu : u = t
              · subst hu
                go_wp2_with (at_builtin; refine app_pcN (w0 := w1) (l := []) rfl rfl (Own.made (Nat.le_refl _)) ((Below.refl _ _).alloc (Nat.le_refl _) _) (by simp; omega) (HS1.out.alloc _) HCZ.out (by rfl) (by rfl) ?_; intro v5 w5 hown5 hb5 hg5; rw [List.nil_append] at hown5; have HW5 := Lib.hid hown5; have HB5 := Lib.hid hb5; clear hown5 hb5 hg5)
                go_ret3
                rw [E1.out (by simp) HGT.out]
                exact ⟨_, rfl, HW5.out.mono HB1.out.size, Below_then HB1.out HB5.out (Nat.le_refl _)⟩
              · have hne : (u.toList == t.toList) = false := by
                  rw [ByteArray.toList_eq, ByteArray.toList_eq]
                  rw [beq_eq_false_iff_ne]; intro e
                  apply hu
                  rw [← mk_bs u, ← mk_bs t, e]
                go_wp2_with (at_builtin; refine app_pcN (w0 := w1) (l := []) rfl rfl (Own.made (Nat.le_refl _)) ((Below.refl _ _).alloc (Nat.le_refl _) _) (by simp; omega) (HS1.out.alloc _) HCZ.out (by rfl) (by rfl) ?_; intro v5 w5 hown5 hb5 hg5; rw [List.nil_append] at hown5; have HW5 := Lib.hid hown5; have HB5 := Lib.hid hb5; clear hown5 hb5 hg5)
                go_ret3
                rw [E2.out u (by simp) HGT.out hu]
                exact ⟨_, rfl, HW5.out.mono HB1.out.size, Below_then HB1.out HB5.out (Nat.le_refl _)⟩
            · have hgt : getT l p = none := by rw [HGH.out, HH.out]; simp [e]
              have HGT := Lib.hid hgt
              have hqp : (q0 == p) = false := by simpa using e
              clear hgt
              by_cases h40 : l.length = 40
              · have h40' : ((l.length : Int) == 40) = true := by simp; omega
                have E3' := Lib.hid (E3.out (by simp) HGT.out h40)
                have H40 := Lib.hid h40
                clear h40
                go_wp2_with (at_builtin; refine app_pcN (w0 := w1) (l := []) rfl rfl (Own.made (Nat.le_refl _)) ((Below.refl _ _).alloc (Nat.le_refl _) _) (by simp; omega) (HS1.out.alloc _) HCZ.out (by rfl) (by first | rfl | (rw [H40.out]; rfl)) ?_; intro v5 w5 hown5 hb5 hg5; rw [List.nil_append] at hown5; have HW5 := Lib.hid hown5; have HB5 := Lib.hid hb5; clear hown5 hb5 hg5)
                go_ret3
                rw [E3'.out]
                exact ⟨_, rfl, HW5.out.mono HB1.out.size, Below_then HB1.out HB5.out (Nat.le_refl _)⟩
              · have h40' : ((l.length : Int) == 40) = false := by simp; omega
                clear HGH HP0 HP1 HPO
                have E4' := Lib.hid (E4.out (by simp) HGT.out h40)
                clear h40
                have hkl : k ≤ l.length := by omega
                have htl : (l.take k).length = k := by rw [List.length_take]; omega
                have HBW := Lib.hid HB.out
                go_wp2
                refine wp_region_inv (by kernel_rfl) (by kernel_rfl) (fun a0 d a W => ∃ u77 u78 u79 u80 u81 u82 u83 u84 u85 u86 u87 u88 u89 u90 u91 u4 u5 u6 : Value, a = ⟨#[Value.slice (some { block := b, off := o }) l.length c, Value.string t, undef, undef, u4, u5, u6, Value.int IntKind.i64 p, Value.int IntKind.i64 (k : Int), Value.bool false, Value.slice (some { block := b, off := o }) l.length c, Value.bool true, Value.bool false, undef, Value.string t, Value.int IntKind.i64 p, Value.int IntKind.i64 (k : Int), Value.slice (some { block := b, off := o }) l.length c, Value.int IntKind.i64 (l.length : Int), Value.bool true, Value.bool true, Value.slice (some { block := b, off := o }) l.length c, Value.int IntKind.i64 (k : Int), Value.pointer (some { block := b, off := o + k * 2 }), Value.pointer (some { block := b, off := o + k * 2 }), Value.int IntKind.i64 q0, Value.int IntKind.i64 p, Value.bool false, Value.bool false, u29, u30, Value.int IntKind.i64 (k : Int), Value.slice (some { block := b, off := o }) l.length c, Value.int IntKind.i64 (l.length : Int), Value.bool true, Value.bool true, Value.slice (some { block := b, off := o }) l.length c, Value.int IntKind.i64 (k : Int), Value.pointer (some { block := b, off := o + k * 2 }), Value.pointer (some { block := b, off := o + k * 2 }), Value.int IntKind.i64 q0, Value.int IntKind.i64 p, Value.bool false, Value.bool false, Value.bool false, Value.int IntKind.i64 p, Value.bool false, Value.bool false, Value.bool false, Value.bool false, undef, undef, undef, undef, undef, undef, undef, Value.bool false, Value.bool false, Value.bool false, Value.bool false, Value.bool true, Value.bool true, Value.slice (some { block := b, off := o }) l.length c, Value.int IntKind.i64 (l.length : Int), Value.bool false, Value.bool false, Value.bool false, undef, undef, undef, Value.bool false, Value.bool false, undef, undef, undef, undef, u77, u78, u79, u80, u81, u82, u83, u84, u85, u86, u87, u88, u89, u90, u91], []⟩ ∧ PtJ w1 (some ⟨b, o, none⟩) l.length c (k) l p t d u77 u78 u79 u80 u81 u82 u83 u84 u85 u86 u87 u88 u89 u90 u91 u4 u5 u6 W) ?_ ?_ ?_
                · exact ⟨_, _, _, _, _, _, _, _, _, _, _, _, _, _, _, _, _, _, rfl, Below_drewN (Below.refl _ _) 1, nofun, nofun, nofun, nofun, nofun, nofun, nofun, nofun, nofun, nofun, nofun, nofun, nofun, nofun, nofun, nofun, nofun, nofun, nofun, nofun, nofun, nofun⟩
                · refine ⟨?_, ?_, ?_, ?_, ?_, ?_, ?_, ?_, ?_, ?_, ?_, ?_, ?_, ?_, ?_, ?_, ?_, ?_, trivial⟩
                  all_goals
                    intro d a W K hd hdep hJ hK
                    obtain ⟨u77, u78, u79, u80, u81, u82, u83, u84, u85, u86, u87, u88, u89, u90, u91, u4, u5, u6, rfl, hj⟩ := hJ
                    have HJ := Lib.hid hj
                    have HK := Lib.hid hK
                    have HD := Lib.hid hd
                    have HDEP := Lib.hid hdep
                    clear hj hK hd hdep
                  · go_simp
                    exact HK.out _ _ ⟨_, _, _, _, _, _, _, _, _, _, _, _, _, _, _, _, _, _, rfl, HJ.out.step0 HD.out⟩
                  · go_simp
                    exact HK.out _ _ ⟨_, _, _, _, _, _, _, _, _, _, _, _, _, _, _, _, _, _, rfl, { HJ.out with c1 := fun _ => rfl }⟩
                  · go_simp
                    exact HK.out _ _ ⟨_, _, _, _, _, _, _, _, _, _, _, _, _, _, _, _, _, _, rfl, { HJ.out with c2 := fun _ => rfl }⟩
                  · obtain rfl := HJ.out.c1 (HDEP.out { on := 1, ground := Ground.data } (by simp) rfl)
                    obtain rfl := HJ.out.c2 (HDEP.out { on := 2, ground := Ground.data } (by simp) rfl)
                    have hkc3 : k ≤ c := by omega
                    go_simp
                    exact HK.out _ _ ⟨_, _, _, _, _, _, _, _, _, _, _, _, _, _, _, _, _, _, rfl, { HJ.out with o4 := fun e => ⟨(HJ.out.o4 e).1, rfl⟩, c3 := fun _ => ⟨some ⟨b, o, none⟩, c, (by rw [htl]), (by intro h; cases h), HS1.out.take _⟩ }⟩
                  · obtain ⟨A', c', rfl, hz, hsl⟩ := HJ.out.c3 (HDEP.out { on := 3, ground := Ground.data } (by simp) rfl)
                    refine step_pcK (w0 := w1) rfl rfl (HJ.out.c0 (HDEP.out { on := 0, ground := Ground.data } (by simp) rfl) HD.out) HJ.out.b (by simp; omega) (hsl.below HJ.out.b) hz rfl rfl ?_
                    intro v' W' hown hb hg hk
                    exact HK.out _ _ ⟨_, _, _, _, _, _, _, _, _, _, _, _, _, _, _, _, _, _, rfl, HJ.out.step4 (HDEP.out { on := 0, ground := Ground.data } (by simp) rfl) (HDEP.out { on := 3, ground := Ground.data } (by simp) rfl) HD.out hown hb hg hk⟩
                  · go_simp
                    exact HK.out _ _ ⟨_, _, _, _, _, _, _, _, _, _, _, _, _, _, _, _, _, _, rfl, { HJ.out with c5 := fun _ => rfl }⟩
                  · go_simp
                    exact HK.out _ _ ⟨_, _, _, _, _, _, _, _, _, _, _, _, _, _, _, _, _, _, rfl, { HJ.out with c6 := fun _ => rfl }⟩
                  · obtain rfl := HJ.out.c5 (HDEP.out { on := 5, ground := Ground.data } (by simp) rfl)
                    obtain rfl := HJ.out.c6 (HDEP.out { on := 6, ground := Ground.data } (by simp) rfl)
                    go_simp
                    exact HK.out _ _ ⟨_, _, _, _, _, _, _, _, _, _, _, _, _, _, _, _, _, _, rfl, { HJ.out with c7 := fun _ => rfl }⟩
                  · obtain rfl := HJ.out.c7 (HDEP.out { on := 7, ground := Ground.data } (by simp) rfl)
                    go_simp
                    exact HK.out _ _ ⟨_, _, _, _, _, _, _, _, _, _, _, _, _, _, _, _, _, _, rfl, HJ.out.step8 HD.out⟩
                  · obtain ⟨g, rfl, hgl, hsl, _, hap⟩ := HJ.out.c8 (HDEP.out { on := 8, ground := Ground.data } (by simp) rfl) HD.out
                    have hap := hap (HDEP.out { on := 4, ground := Ground.data } (by simp) rfl)
                    refine step_pcK (w0 := w1) (m := [(p, t)]) rfl rfl (HJ.out.c4 (HDEP.out { on := 4, ground := Ground.data } (by simp) rfl) HD.out) HJ.out.b (by simp; omega) hsl (by intro h; cases h) rfl rfl ?_
                    intro v' W' hown hb hg hk
                    exact HK.out _ _ ⟨_, _, _, _, _, _, _, _, _, _, _, _, _, _, _, _, _, _, rfl, HJ.out.step9 (HDEP.out { on := 4, ground := Ground.data } (by simp) rfl) (HDEP.out { on := 8, ground := Ground.data } (by simp) rfl) HD.out hown hb⟩
                  · go_simp
                    exact HK.out _ _ ⟨_, _, _, _, _, _, _, _, _, _, _, _, _, _, _, _, _, _, rfl, { HJ.out with c10 := fun _ => rfl }⟩
                  · go_simp
                    exact HK.out _ _ ⟨_, _, _, _, _, _, _, _, _, _, _, _, _, _, _, _, _, _, rfl, { HJ.out with c11 := fun _ => rfl }⟩
                  · obtain rfl := HJ.out.c10 (HDEP.out { on := 10, ground := Ground.data } (by simp) rfl)
                    obtain rfl := HJ.out.c11 (HDEP.out { on := 11, ground := Ground.data } (by simp) rfl)
                    have hkc : ¬ (c = k) := by omega
                    go_simp
                    exact HK.out _ _ ⟨_, _, _, _, _, _, _, _, _, _, _, _, _, _, _, _, _, _, rfl, { HJ.out with o13 := fun e => ⟨(HJ.out.o13 e).1, rfl⟩, c12 := fun _ => ⟨_, _, (by rw [List.length_drop]), (by intro h; cases h), Sl.dropP HS1.out (by omega)⟩ }⟩
                  · obtain ⟨A', c', rfl, hz, hsl⟩ := HJ.out.c12 (HDEP.out { on := 12, ground := Ground.data } (by simp) rfl)
                    refine step_pcK (w0 := w1) rfl rfl (HJ.out.c9 (HDEP.out { on := 9, ground := Ground.data } (by simp) rfl) HD.out) HJ.out.b (by simp; omega) (hsl.below HJ.out.b) hz rfl rfl ?_
                    intro v' W' hown hb hg hk
                    exact HK.out _ _ ⟨_, _, _, _, _, _, _, _, _, _, _, _, _, _, _, _, _, _, rfl, HJ.out.step13 (HDEP.out { on := 9, ground := Ground.data } (by simp) rfl) (HDEP.out { on := 12, ground := Ground.data } (by simp) rfl) HD.out hown hb⟩
                  · go_simp
                    exact HK.out _ _ ⟨_, _, _, _, _, _, _, _, _, _, _, _, _, _, _, _, _, _, rfl, { HJ.out with c14 := fun _ => rfl }⟩
                  · go_simp
                    exact HK.out _ _ ⟨_, _, _, _, _, _, _, _, _, _, _, _, _, _, _, _, _, _, rfl, { HJ.out with o15 := fun _ => (HDEP.out { on := 13, ground := Ground.data } (by simp) rfl), c15 := fun _ => rfl }⟩
                  · obtain rfl := HJ.out.c14 (HDEP.out { on := 14, ground := Ground.data } (by simp) rfl)
                    go_simp
                    exact HK.out _ _ ⟨_, _, _, _, _, _, _, _, _, _, _, _, _, _, _, _, _, _, rfl, { HJ.out with c16 := fun _ => rfl }⟩
                  · go_simp
                    exact HK.out _ _ ⟨_, _, _, _, _, _, _, _, _, _, _, _, _, _, _, _, _, _, rfl, { HJ.out with c17 := fun _ => rfl }⟩
                · intro d a W hd hJ
                  obtain ⟨u77, u78, u79, u80, u81, u82, u83, u84, u85, u86, u87, u88, u89, u90, u91, u4, u5, u6, rfl, hj⟩ := hJ
                  obtain rfl := hj.c15 (hd 15 (by decide))
                  obtain rfl := hj.c16 (hd 16 (by decide))
                  obtain rfl := hj.c17 (hd 17 (by decide))
                  have HO := Lib.hid (hj.c13 (hd 13 (by decide)))
                  have HBF := Lib.hid (Below_then HB1.out hj.b (Nat.le_refl _))
                  clear hj hd
                  go_wp2
                  go_ret3
                  rw [E4'.out, HBW.out]
                  refine ⟨_, rfl, ?_, HBF.out⟩
                  have := HO.out
                  rw [List.append_assoc] at this
                  exact this.mono HB1.out.size
      · obtain rfl : k = l.length := by omega
        have HB := Lib.hid (below_of l p l.length (Nat.le_refl _) H1.out (fun h => absurd h (by omega)))
        have HH := Lib.hid (show hereP l p = false by unfold hereP; rw [HB.out]; simp)
        have hgt : getT l p = none := by rw [HGH.out, HH.out]; simp
        have HGT := Lib.hid hgt
        clear hgt
        cases tv
        · have hpn : p = -1 := HP0.out rfl
          subst hpn
          go_wp2_with (at_builtin; refine app_pcN (w0 := w1) (l := []) rfl rfl (Own.made (Nat.le_refl _)) ((Below.refl _ _).alloc (Nat.le_refl _) _) (by simp; omega) (HS1.out.alloc _) HCZ.out (by rfl) (by rfl) ?_; intro v5 w5 hown5 hb5 hg5; rw [List.nil_append] at hown5; have HW5 := Lib.hid hown5; have HB5 := Lib.hid hb5; clear hown5 hb5 hg5)
          go_ret3
          rw [E0.out (by simp)]
          exact ⟨_, rfl, HW5.out.mono HB1.out.size, Below_then HB1.out HB5.out (Nat.le_refl _)⟩
        · have hpp : 0 ≤ p := (pv_iff.1 (HP1.out rfl)).1
          have hpn : ¬ p < 0 := by omega
          by_cases h40 : l.length = 40
          · have h40' : ((l.length : Int) == 40) = true := by simp; omega
            have E3' := Lib.hid (E3.out (by simp) HGT.out h40)
            have H40 := Lib.hid h40
            clear h40
            go_wp2_with (at_builtin; refine app_pcN (w0 := w1) (l := []) rfl rfl (Own.made (Nat.le_refl _)) ((Below.refl _ _).alloc (Nat.le_refl _) _) (by simp; omega) (HS1.out.alloc _) HCZ.out (by rfl) (by first | rfl | (rw [H40.out]; rfl)) ?_; intro v5 w5 hown5 hb5 hg5; rw [List.nil_append] at hown5; have HW5 := Lib.hid hown5; have HB5 := Lib.hid hb5; clear hown5 hb5 hg5)
            go_ret3
            rw [E3'.out]
            exact ⟨_, rfl, HW5.out.mono HB1.out.size, Below_then HB1.out HB5.out (Nat.le_refl _)⟩
          · have h40' : ((l.length : Int) == 40) = false := by simp; omega
            clear HGH HP0 HP1 HPO
            have E4' := Lib.hid (E4.out (by simp) HGT.out h40)
            clear h40
            have hkl : l.length ≤ l.length := by omega
            have htl : (l.take l.length).length = l.length := by rw [List.length_take]; omega
            have HBW := Lib.hid HB.out
            go_wp2
            refine wp_region_inv (by kernel_rfl) (by kernel_rfl) (fun a0 d a W => ∃ u77 u78 u79 u80 u81 u82 u83 u84 u85 u86 u87 u88 u89 u90 u91 u4 u5 u6 : Value, a = ⟨#[Value.slice A l.length c, Value.string t, undef, undef, u4, u5, u6, Value.int IntKind.i64 p, Value.int IntKind.i64 (l.length : Int), Value.bool false, Value.slice A l.length c, Value.bool true, Value.bool false, undef, Value.string t, Value.int IntKind.i64 p, Value.int IntKind.i64 (l.length : Int), Value.slice A l.length c, Value.int IntKind.i64 (l.length : Int), Value.bool false, Value.bool false, undef, undef, undef, undef, undef, undef, undef, Value.bool false, u29, u30, Value.int IntKind.i64 (l.length : Int), Value.slice A l.length c, Value.int IntKind.i64 (l.length : Int), Value.bool false, Value.bool false, undef, undef, undef, undef, undef, undef, undef, Value.bool false, Value.bool false, Value.int IntKind.i64 p, Value.bool false, Value.bool false, Value.bool false, Value.bool false, undef, undef, undef, undef, undef, undef, undef, Value.bool false, Value.bool false, Value.bool false, Value.bool false, Value.bool true, Value.bool true, Value.slice A l.length c, Value.int IntKind.i64 (l.length : Int), Value.bool false, Value.bool false, Value.bool false, undef, undef, undef, Value.bool false, Value.bool false, undef, undef, undef, undef, u77, u78, u79, u80, u81, u82, u83, u84, u85, u86, u87, u88, u89, u90, u91], []⟩ ∧ PtJ w1 (A) l.length c (l.length) l p t d u77 u78 u79 u80 u81 u82 u83 u84 u85 u86 u87 u88 u89 u90 u91 u4 u5 u6 W) ?_ ?_ ?_
            · exact ⟨_, _, _, _, _, _, _, _, _, _, _, _, _, _, _, _, _, _, rfl, Below_drewN (Below.refl _ _) 1, nofun, nofun, nofun, nofun, nofun, nofun, nofun, nofun, nofun, nofun, nofun, nofun, nofun, nofun, nofun, nofun, nofun, nofun, nofun, nofun, nofun, nofun⟩
            · refine ⟨?_, ?_, ?_, ?_, ?_, ?_, ?_, ?_, ?_, ?_, ?_, ?_, ?_, ?_, ?_, ?_, ?_, ?_, trivial⟩
              all_goals
                intro d a W K hd hdep hJ hK
                obtain ⟨u77, u78, u79, u80, u81, u82, u83, u84, u85, u86, u87, u88, u89, u90, u91, u4, u5, u6, rfl, hj⟩ := hJ
                have HJ := Lib.hid hj
                have HK := Lib.hid hK
                have HD := Lib.hid hd
                have HDEP := Lib.hid hdep
                clear hj hK hd hdep
              · go_simp
                exact HK.out _ _ ⟨_, _, _, _, _, _, _, _, _, _, _, _, _, _, _, _, _, _, rfl, HJ.out.step0 HD.out⟩
              · go_simp
                exact HK.out _ _ ⟨_, _, _, _, _, _, _, _, _, _, _, _, _, _, _, _, _, _, rfl, { HJ.out with c1 := fun _ => rfl }⟩
              · go_simp
                exact HK.out _ _ ⟨_, _, _, _, _, _, _, _, _, _, _, _, _, _, _, _, _, _, rfl, { HJ.out with c2 := fun _ => rfl }⟩
              · obtain rfl := HJ.out.c1 (HDEP.out { on := 1, ground := Ground.data } (by simp) rfl)
                obtain rfl := HJ.out.c2 (HDEP.out { on := 2, ground := Ground.data } (by simp) rfl)
                cases A with
                | none =>
                  go_simp
                  exact HK.out _ _ ⟨_, _, _, _, _, _, _, _, _, _, _, _, _, _, _, _, _, _, rfl, { HJ.out with o4 := fun e => ⟨(HJ.out.o4 e).1, rfl⟩, c3 := fun _ => ⟨_, _, (by rw [htl]), (by intro _; exact HCZ.out rfl), HS1.out.take _⟩ }⟩
                | some ad =>
                  go_simp
                  exact HK.out _ _ ⟨_, _, _, _, _, _, _, _, _, _, _, _, _, _, _, _, _, _, rfl, { HJ.out with o4 := fun e => ⟨(HJ.out.o4 e).1, rfl⟩, c3 := fun _ => ⟨_, _, (by rw [htl]), (by intro h; cases h), HS1.out.take _⟩ }⟩
              · obtain ⟨A', c', rfl, hz, hsl⟩ := HJ.out.c3 (HDEP.out { on := 3, ground := Ground.data } (by simp) rfl)
                refine step_pcK (w0 := w1) rfl rfl (HJ.out.c0 (HDEP.out { on := 0, ground := Ground.data } (by simp) rfl) HD.out) HJ.out.b (by simp; omega) (hsl.below HJ.out.b) hz rfl rfl ?_
                intro v' W' hown hb hg hk
                exact HK.out _ _ ⟨_, _, _, _, _, _, _, _, _, _, _, _, _, _, _, _, _, _, rfl, HJ.out.step4 (HDEP.out { on := 0, ground := Ground.data } (by simp) rfl) (HDEP.out { on := 3, ground := Ground.data } (by simp) rfl) HD.out hown hb hg hk⟩
              · go_simp
                exact HK.out _ _ ⟨_, _, _, _, _, _, _, _, _, _, _, _, _, _, _, _, _, _, rfl, { HJ.out with c5 := fun _ => rfl }⟩
              · go_simp
                exact HK.out _ _ ⟨_, _, _, _, _, _, _, _, _, _, _, _, _, _, _, _, _, _, rfl, { HJ.out with c6 := fun _ => rfl }⟩
              · obtain rfl := HJ.out.c5 (HDEP.out { on := 5, ground := Ground.data } (by simp) rfl)
                obtain rfl := HJ.out.c6 (HDEP.out { on := 6, ground := Ground.data } (by simp) rfl)
                go_simp
                exact HK.out _ _ ⟨_, _, _, _, _, _, _, _, _, _, _, _, _, _, _, _, _, _, rfl, { HJ.out with c7 := fun _ => rfl }⟩
              · obtain rfl := HJ.out.c7 (HDEP.out { on := 7, ground := Ground.data } (by simp) rfl)
                go_simp
                exact HK.out _ _ ⟨_, _, _, _, _, _, _, _, _, _, _, _, _, _, _, _, _, _, rfl, HJ.out.step8 HD.out⟩
              · obtain ⟨g, rfl, hgl, hsl, _, hap⟩ := HJ.out.c8 (HDEP.out { on := 8, ground := Ground.data } (by simp) rfl) HD.out
                have hap := hap (HDEP.out { on := 4, ground := Ground.data } (by simp) rfl)
                refine step_pcK (w0 := w1) (m := [(p, t)]) rfl rfl (HJ.out.c4 (HDEP.out { on := 4, ground := Ground.data } (by simp) rfl) HD.out) HJ.out.b (by simp; omega) hsl (by intro h; cases h) rfl rfl ?_
                intro v' W' hown hb hg hk
                exact HK.out _ _ ⟨_, _, _, _, _, _, _, _, _, _, _, _, _, _, _, _, _, _, rfl, HJ.out.step9 (HDEP.out { on := 4, ground := Ground.data } (by simp) rfl) (HDEP.out { on := 8, ground := Ground.data } (by simp) rfl) HD.out hown hb⟩
              · go_simp
                exact HK.out _ _ ⟨_, _, _, _, _, _, _, _, _, _, _, _, _, _, _, _, _, _, rfl, { HJ.out with c10 := fun _ => rfl }⟩
              · go_simp
                exact HK.out _ _ ⟨_, _, _, _, _, _, _, _, _, _, _, _, _, _, _, _, _, _, rfl, { HJ.out with c11 := fun _ => rfl }⟩
              · obtain rfl := HJ.out.c10 (HDEP.out { on := 10, ground := Ground.data } (by simp) rfl)
                obtain rfl := HJ.out.c11 (HDEP.out { on := 11, ground := Ground.data } (by simp) rfl)
                have hdl : (l.drop l.length) = [] := List.drop_length
                cases A with
                | none =>
                  go_simp
                  exact HK.out _ _ ⟨_, _, _, _, _, _, _, _, _, _, _, _, _, _, _, _, _, _, rfl, { HJ.out with o13 := fun e => ⟨(HJ.out.o13 e).1, rfl⟩, c12 := fun _ => ⟨_, _, (by rw [hdl]; rfl), (by intro _; first | rfl | (have := HCZ.out rfl; omega)), by rw [hdl]; intro h; simp at h⟩ }⟩
                | some ad =>
                  go_simp
                  all_goals exact HK.out _ _ ⟨_, _, _, _, _, _, _, _, _, _, _, _, _, _, _, _, _, _, rfl, { HJ.out with o13 := fun e => ⟨(HJ.out.o13 e).1, rfl⟩, c12 := fun _ => ⟨_, _, (by rw [hdl]; rfl), (by intro h; exfalso; revert h; split <;> simp), by rw [hdl]; intro h; simp at h⟩ }⟩
              · obtain ⟨A', c', rfl, hz, hsl⟩ := HJ.out.c12 (HDEP.out { on := 12, ground := Ground.data } (by simp) rfl)
                refine step_pcK (w0 := w1) rfl rfl (HJ.out.c9 (HDEP.out { on := 9, ground := Ground.data } (by simp) rfl) HD.out) HJ.out.b (by simp; omega) (hsl.below HJ.out.b) hz rfl rfl ?_
                intro v' W' hown hb hg hk
                exact HK.out _ _ ⟨_, _, _, _, _, _, _, _, _, _, _, _, _, _, _, _, _, _, rfl, HJ.out.step13 (HDEP.out { on := 9, ground := Ground.data } (by simp) rfl) (HDEP.out { on := 12, ground := Ground.data } (by simp) rfl) HD.out hown hb⟩
              · go_simp
                exact HK.out _ _ ⟨_, _, _, _, _, _, _, _, _, _, _, _, _, _, _, _, _, _, rfl, { HJ.out with c14 := fun _ => rfl }⟩
              · go_simp
                exact HK.out _ _ ⟨_, _, _, _, _, _, _, _, _, _, _, _, _, _, _, _, _, _, rfl, { HJ.out with o15 := fun _ => (HDEP.out { on := 13, ground := Ground.data } (by simp) rfl), c15 := fun _ => rfl }⟩
              · obtain rfl := HJ.out.c14 (HDEP.out { on := 14, ground := Ground.data } (by simp) rfl)
                go_simp
                exact HK.out _ _ ⟨_, _, _, _, _, _, _, _, _, _, _, _, _, _, _, _, _, _, rfl, { HJ.out with c16 := fun _ => rfl }⟩
              · go_simp
                exact HK.out _ _ ⟨_, _, _, _, _, _, _, _, _, _, _, _, _, _, _, _, _, _, rfl, { HJ.out with c17 := fun _ => rfl }⟩
            · intro d a W hd hJ
              obtain ⟨u77, u78, u79, u80, u81, u82, u83, u84, u85, u86, u87, u88, u89, u90, u91, u4, u5, u6, rfl, hj⟩ := hJ
              obtain rfl := hj.c15 (hd 15 (by decide))
              obtain rfl := hj.c16 (hd 16 (by decide))
              obtain rfl := hj.c17 (hd 17 (by decide))
              have HO := Lib.hid (hj.c13 (hd 13 (by decide)))
              have HBF := Lib.hid (Below_then HB1.out hj.b (Nat.le_refl _))
              clear hj hd
              go_wp2
              go_ret3
              rw [E4'.out, HBW.out]
              refine ⟨_, rfl, ?_, HBF.out⟩
              have := HO.out
              rw [List.append_assoc] at this
              exact this.mono HB1.out.size
end Go.Proofs.YtbpngpcjjinneaaDoor

/- FolderText, EmptyRoot, walked. -/
set_option linter.unusedVariables false
namespace Go.Proofs.YtbpngpcjjinneaaDoor
open Go.RowKit
def entM (e : En) : ByteArray := e.1 ++ ⟨#[61]⟩ ++ mk (hexT e.2) ++ ⟨#[59]⟩
theorem entM_tx (e : En) : entM e = mk (entT e) := by
  unfold entM entT
  rw [show e.1 = mk (tx e.1) from (mk_tx _).symm, show (⟨#[61]⟩ : ByteArray) = mk [61] from rfl, show (⟨#[59]⟩ : ByteArray) = mk [59] from rfl, mk_append, mk_append, mk_append]
  simp [tx_mk]
def foldM (l : List En) : ByteArray := mk (100 :: l.flatMap entT)
theorem foldM_take {l : List En} {k : Nat} (h : k < l.length) : foldM (l.take (k + 1)) = foldM (l.take k) ++ entM l[k] := by
  unfold foldM
  rw [List.take_succ_eq_append_getElem h, entM_tx, mk_append, List.flatMap_append]
  simp only [List.flatMap_cons, List.flatMap_nil, List.append_nil, List.cons_append]
theorem foldM_size {l : List En} (h : entsV l = true) (k : Nat) : (foldM (l.take k)).size ≤ 49 := by
  have h2 := foldB_len (entsV_sub h (List.take_sublist k l))
  unfold foldB at h2
  unfold foldM; rw [mk_size]; exact h2
theorem cat4 (x a b c d : ByteArray) : x ++ (a ++ b ++ c ++ d) = x ++ a ++ b ++ c ++ d := by simp [ByteArray.append_assoc]
set_option maxHeartbeats 4000000 in
set_option maxRecDepth 100000 in
theorem iFolderText_any (A : Option Addr) (c : Nat) (l : List En) (w : World) (hs : Sl w encE 2 A l) (hl : l.length ≤ 16777216) (hf : FitE l) (ht : TzL w) :
    Calls Tryd.prog 79 #[.slice A l.length c] w fun e w' => e = .returned (.string (mk (foldT l))) ∧ Below w.heap.size w w' := by
  have HS := Lib.hid hs
  have HF := Lib.hid hf
  have HT := Lib.hid ht
  have hsv := fun w h => iEntriesValid_any A c l w h hl hf
  clear hs hf ht
  cases hv : entsV l
  · have E := Lib.hid (show mk (foldT l) = ⟨#[]⟩ by unfold foldT; rw [hv]; rfl)
    rw [hv] at hsv
    have HSV := Lib.hid hsv
    clear hsv hv
    rw [E.out]
    go_enter Tryd.func79, Tryd.ntmps79
    go_wp2_with fail
    refine (HSV.out _ HS.out).mono ?_
    rintro e w1 ⟨rfl, hb⟩
    have HB := Lib.hid hb
    clear hb
    go_wp2
    go_ret
    exact ⟨rfl, HB.out⟩
  · have E := Lib.hid (show mk (foldT l) = foldM l by unfold foldT; rw [hv]; rfl)
    rw [hv] at hsv
    have HSV := Lib.hid hsv
    have HSZ := Lib.hid (foldM_size hv)
    have HOK := Lib.hid (fun k (h : k < l.length) => entT_len l[k] (entsV_ok hv (by simp)))
    have hl3 := entsV_len hv
    clear hsv hv
    rw [E.out]
    go_enter Tryd.func79, Tryd.ntmps79
    go_wp2_with fail
    refine (HSV.out _ HS.out).mono ?_
    rintro e w1 ⟨rfl, hb⟩
    have HB := Lib.hid hb
    have HS1 := Lib.hid (HS.out.below hb)
    have HT1 := Lib.hid (HT.out.below hb)
    clear hb
    go_wp2_with fail
    go_loopw [3, 11] (fun v i wr => ∃ (k : Nat) (acc : ByteArray), k ≤ l.length ∧ i = .int .i64 k ∧ v = .string acc ∧ Hid (acc = foldM (l.take k)) ∧ Hid (Below w1.heap.size w1 wr)) (fun _ i _ => l.length - (intOf i).toNat)
    case atStart => exact ⟨0, _, Nat.zero_le _, rfl, rfl, rfl, Below.refl _ _⟩
    case round =>
      obtain ⟨k, acc, hk, rfl, rfl, HA, HBW⟩ := hrel
      by_cases hlt : k < l.length
      · obtain ⟨b, o, rfl, hc0, hc1⟩ := (HS1.out.below HBW.out).getE hlt
        have hst := foldM_take hlt
        have hacc : acc.size ≤ 49 := by rw [HA.out]; exact HSZ.out k
        have HT2 := Lib.hid (HT1.out.below HBW.out)
        have hfk : l[k].1.size ≤ 16777216 := HF.out.at hlt
        generalize l[k] = p at *
        obtain ⟨t, a⟩ := p
        simp only at *
        have hz1 : (mk (hexT a)).size ≤ 6 := by rw [mk_size]; exact hexT_len a
        have hz2 : (t ++ ⟨#[61]⟩).size ≤ 16777217 := by rw [ByteArray.size_append]; exact Nat.add_le_add_right hfk 1
        have hz3 : (t ++ ⟨#[61]⟩ ++ mk (hexT a)).size ≤ 16777223 := by rw [ByteArray.size_append]; exact Nat.add_le_add hz2 hz1
        have hz4 : (t ++ ⟨#[61]⟩ ++ mk (hexT a) ++ ⟨#[59]⟩).size ≤ 16777224 := by rw [ByteArray.size_append]; exact Nat.add_le_add_right hz3 1
        have hq1 := str_add (x := t) (y := ⟨#[61]⟩) (by omega) (by simp [ByteArray.size])
        have hq2 := str_add (x := t ++ ⟨#[61]⟩) (y := mk (hexT a)) (by omega) (by omega)
        have hq3 := str_add (x := t ++ ⟨#[61]⟩ ++ mk (hexT a)) (y := ⟨#[59]⟩) (by omega) (by simp [ByteArray.size])
        have hq4 := str_add (x := acc) (y := t ++ ⟨#[61]⟩ ++ mk (hexT a) ++ ⟨#[59]⟩) (by omega) (by omega)
        have HH := Lib.hid (fun w h => iHexText_any a w h)
        have HN := Lib.hid (show acc ++ (t ++ ⟨#[61]⟩ ++ mk (hexT a) ++ ⟨#[59]⟩) = foldM (l.take (k + 1)) by rw [hst, HA.out]; rfl)
        have HB2 := Lib.hid (HBW.out.alloc HBW.out.size (.cells #[.string t, .int .i64 a] 126))
        have HT3 := Lib.hid (fun p => (HT2.out.below ((Below.refl _ _).alloc (Nat.le_refl _) (.cells #[.string t, .int .i64 a] 126))).below (far_below _ p))
        have hx0 := far_cell (new_cell (w := wr) (cs := #[.string t, .int .i64 a]) (E := 126) (k := 0) rfl)
        have hx1 := far_cell (new_cell (w := wr) (cs := #[.string t, .int .i64 a]) (E := 126) (k := 1) rfl)
        clear hst
        go_wp2
        refine wp_region_far (by kernel_rfl) (by kernel_rfl) ?_
        repeat (go_big_quiet_step ((go_at_call 86; exact far_call (HH.out _ (HT3.out _)))))
        refine wpQuiet_nil ?_
        intro _ hwF
        obtain ⟨pF, hwF⟩ := hwF
        subst hwF
        have HB5 := Lib.hid (Below_then HB2.out (far_below _ pF) (Nat.le_refl _))
        generalize far _ pF = wF at *
        clear hx0 hx1
        go_wp2
        go_roundw
        case rel => exact ⟨k + 1, _, by omega, by go_num, rfl, HN.out, HB5.out⟩
        case measure => simp [intOf]; omega
      · have HE := Lib.hid (show acc = foldM l by rw [HA.out, List.take_of_length_le (by omega)])
        have HB2 := Lib.hid (Below_then HB.out HBW.out (Nat.le_refl _))
        go_wp2
        go_ret
        exact ⟨ret_str HE.out, HB2.out⟩
set_option maxHeartbeats 4000000 in
set_option maxRecDepth 100000 in
theorem sFolderText_any (A : Option Addr) (c : Nat) (l : List En) (w : World) (hs : Sl w encE 2 A l) (hl : l.length ≤ 16777216) (hf : FitE l) :
    Calls Tryd.prog 78 #[.slice A l.length c] w fun e w' => e = .returned (.string (mk (foldT l))) ∧ Below w.heap.size w w' := by
  have HS := Lib.hid hs
  have HF := Lib.hid hf
  have hsv := fun w h => sEntriesValid_any A c l w h hl hf
  clear hs hf
  cases hv : entsV l
  · have E := Lib.hid (show mk (foldT l) = ⟨#[]⟩ by unfold foldT; rw [hv]; rfl)
    rw [hv] at hsv
    have HSV := Lib.hid hsv
    clear hsv hv
    rw [E.out]
    go_enter Tryd.func78, Tryd.ntmps78
    go_wp2_with fail
    refine (HSV.out _ HS.out).mono ?_
    rintro e w1 ⟨rfl, hb⟩
    have HB := Lib.hid hb
    clear hb
    go_wp2
    go_ret
    exact ⟨rfl, HB.out⟩
  · have E := Lib.hid (show mk (foldT l) = foldM l by unfold foldT; rw [hv]; rfl)
    rw [hv] at hsv
    have HSV := Lib.hid hsv
    have HSZ := Lib.hid (foldM_size hv)
    have hl3 := entsV_len hv
    clear hsv hv
    rw [E.out]
    go_enter Tryd.func78, Tryd.ntmps78
    go_wp2_with fail
    refine (HSV.out _ HS.out).mono ?_
    rintro e w1 ⟨rfl, hb⟩
    have HB := Lib.hid hb
    have HS1 := Lib.hid (HS.out.below hb)
    clear hb
    go_wp2_with fail
    go_loopw [3, 4] (fun v i wr => ∃ (k : Nat) (acc : ByteArray), k ≤ l.length ∧ i = .int .i64 k ∧ v = .string acc ∧ Hid (acc = foldM (l.take k)) ∧ Hid (Below w1.heap.size w1 wr)) (fun _ i _ => l.length - (intOf i).toNat)
    case atStart => exact ⟨0, _, Nat.zero_le _, rfl, rfl, rfl, Below.refl _ _⟩
    case round =>
      obtain ⟨k, acc, hk, rfl, rfl, HA, HBW⟩ := hrel
      by_cases hlt : k < l.length
      · obtain ⟨b, o, rfl, hc0, hc1⟩ := (HS1.out.below HBW.out).getE hlt
        have hst := foldM_take hlt
        have hacc : acc.size ≤ 49 := by rw [HA.out]; exact HSZ.out k
        have hfk : l[k].1.size ≤ 16777216 := HF.out.at hlt
        generalize l[k] = p at *
        obtain ⟨t, a⟩ := p
        simp only at *
        have hz1 : (mk (hexT a)).size ≤ 6 := by rw [mk_size]; exact hexT_len a
        have hz0 : (acc ++ t).size ≤ 16777265 := by rw [ByteArray.size_append]; omega
        have hz2 : (acc ++ t ++ ⟨#[61]⟩).size ≤ 16777266 := by rw [ByteArray.size_append]; exact Nat.add_le_add_right hz0 1
        have hz3 : (acc ++ t ++ ⟨#[61]⟩ ++ mk (hexT a)).size ≤ 16777272 := by rw [ByteArray.size_append]; exact Nat.add_le_add hz2 hz1
        have hq0 := str_add (x := acc) (y := t) (by omega) (by omega)
        have hq1 := str_add (x := acc ++ t) (y := ⟨#[61]⟩) (by omega) (by simp [ByteArray.size])
        have hq2 := str_add (x := acc ++ t ++ ⟨#[61]⟩) (y := mk (hexT a)) (by omega) (by omega)
        have hq3 := str_add (x := acc ++ t ++ ⟨#[61]⟩ ++ mk (hexT a)) (y := ⟨#[59]⟩) (by omega) (by simp [ByteArray.size])
        have HH := Lib.hid (fun w => sHexText_any a w)
        have HN := Lib.hid (show acc ++ t ++ ⟨#[61]⟩ ++ mk (hexT a) ++ ⟨#[59]⟩ = foldM (l.take (k + 1)) by rw [hst, HA.out, ← cat4]; rfl)
        replace hc0 := far_cell hc0
        replace hc1 := far_cell hc1
        clear hst
        go_wp2
        refine wp_region_far (by kernel_rfl) (by kernel_rfl) ?_
        repeat (go_big_quiet_step ((go_at_call 81; exact far_same (HH.out _))))
        refine wpQuiet_nil ?_
        intro _ hwF
        obtain ⟨pF, hwF⟩ := hwF
        subst hwF
        have HB5 := Lib.hid (Below_then HBW.out (far_below _ pF) (Nat.le_refl _))
        generalize far _ pF = wF at *
        clear hc0 hc1
        go_wp2
        go_roundw
        case rel => exact ⟨k + 1, _, by omega, by go_num, rfl, HN.out, HB5.out⟩
        case measure => simp [intOf]; omega
      · have HE := Lib.hid (show acc = foldM l by rw [HA.out, List.take_of_length_le (by omega)])
        have HB2 := Lib.hid (Below_then HB.out HBW.out (Nat.le_refl _))
        go_wp2
        go_ret
        exact ⟨ret_str HE.out, HB2.out⟩
end Go.Proofs.YtbpngpcjjinneaaDoor

/- Writing into stores and dropping out of them, in plain Lean. No program in sight. -/
set_option linter.unusedVariables false
namespace Go.Proofs.YtbpngpcjjinneaaDoor
--BEGIN
/-! ### some texts more -/
def putAll : List Pc → List ByteArray → Option (List Pc)
  | s, [] => some s
  | s, t :: r => if (putT s t).2.2 then putAll (putT s t).1 r else none
theorem putAll_append : ∀ (a b : List ByteArray) (s : List Pc), putAll s (a ++ b) = (putAll s a).bind fun s' => putAll s' b
  | [], b, s => rfl
  | t :: r, b, s => by
    rw [List.cons_append, putAll, putAll]
    split
    · exact putAll_append r b _
    · rfl
theorem putAll_one (s : List Pc) (t : ByteArray) : putAll s [t] = if (putT s t).2.2 then some (putT s t).1 else none := rfl
theorem putAll_ok : ∀ (ts : List ByteArray) (s s' : List Pc), storeV s = true → putAll s ts = some s' → storeV s' = true ∧ ∀ p, p ∈ s' ↔ p ∈ s ∨ ∃ t ∈ ts, p = (prOf (tx t), t)
  | [], s, s', hs, h => by
    rw [putAll] at h; injection h with h; subst h
    exact ⟨hs, fun p => by simp⟩
  | t :: r, s, s', hs, h => by
    rw [putAll] at h
    split at h
    · rename_i hok
      obtain ⟨_, hp, _⟩ := putT_ok hok
      obtain ⟨h1, h2⟩ := putAll_ok r _ s' hp.valid h
      refine ⟨h1, fun p => ?_⟩
      rw [h2 p, hp.mem p]
      constructor
      · rintro ((h3 | h3) | ⟨u, hu, h3⟩)
        · exact .inl h3
        · exact .inr ⟨t, by simp, h3⟩
        · exact .inr ⟨u, by simp [hu], h3⟩
      · rintro (h3 | ⟨u, hu, h3⟩)
        · exact .inl (.inl h3)
        · rcases List.mem_cons.1 hu with rfl | hu
          · exact .inl (.inr h3)
          · exact .inr ⟨u, hu, h3⟩
    · cases h
theorem nodup_len {α : Type} [DecidableEq α] : ∀ (a b : List α), a.Nodup → (∀ x ∈ a, x ∈ b) → a.length ≤ b.length
  | [], b, _, _ => by simp
  | x :: r, b, h, hs => by
    have hx := hs x (by simp)
    have hn := List.nodup_cons.1 h
    have ih := nodup_len r (b.erase x) hn.2 fun y hy => (List.mem_erase_of_ne (fun e => hn.1 (by rw [← e]; exact hy))).2 (hs y (by simp [hy]))
    rw [List.length_erase_of_mem hx] at ih
    have hp : 0 < b.length := List.length_pos_of_mem hx
    rw [List.length_cons]; omega
theorem putAll_can : ∀ (ts : List ByteArray) (s s' : List Pc), storeV s = true → storeV s' = true → (∀ p, p ∈ s' ↔ p ∈ s ∨ ∃ t ∈ ts, p = (prOf (tx t), t)) → putAll s ts = some s'
  | [], s, s', hs, hs', h => by
    rw [putAll]; congr 1
    exact store_ext hs hs' fun p => by rw [h p]; simp
  | t :: r, s, s', hs, hs', h => by
    have hin : (prOf (tx t), t) ∈ s' := (h _).2 (.inr ⟨t, by simp, rfl⟩)
    have htx := (pieceOk_iff.1 (storeV_piece hs' hin)).1
    have hok : (putT s t).2.2 = true := by
      refine putT_can.2 ⟨hs, htx, fun u hu => ?_, ?_⟩
      · have := sorted_inj (storeV_sorted hs') ((h _).2 (.inl hu)) hin rfl
        injection this
      · by_cases hm : (prOf (tx t), t) ∈ s
        · exact .inl hm
        · right
          have h1 : ((prOf (tx t), t) :: s).length ≤ s'.length := by
            have nl : s.Nodup := (storeV_sorted hs).imp (fun h e => by subst e; omega)
            refine nodup_len _ _ (List.nodup_cons.2 ⟨hm, nl⟩) fun p hp => ?_
            rcases List.mem_cons.1 hp with rfl | hp
            · exact hin
            · exact (h _).2 (.inl hp)
          have h2 := storeV_len hs'
          rw [List.length_cons] at h1; omega
    rw [putAll, if_pos hok]
    obtain ⟨_, hp, _⟩ := putT_ok hok
    refine putAll_can r _ s' hp.valid hs' fun p => ?_
    rw [h p, hp.mem p]
    constructor
    · rintro (h3 | ⟨u, hu, h3⟩)
      · exact .inl (.inl h3)
      · rcases List.mem_cons.1 hu with rfl | hu
        · exact .inl (.inr h3)
        · exact .inr ⟨u, hu, h3⟩
    · rintro ((h3 | h3) | ⟨u, hu, h3⟩)
      · exact .inl h3
      · exact .inr ⟨t, by simp, h3⟩
      · exact .inr ⟨u, by simp [hu], h3⟩
/-- Whatever the order: the same texts lead to the same store, or none. -/
theorem putAll_congr {s : List Pc} {a b : List ByteArray} (hs : storeV s = true) (h : ∀ t, t ∈ a ↔ t ∈ b) : putAll s a = putAll s b := by
  have key : ∀ {a b : List ByteArray} {s' : List Pc}, (∀ t, t ∈ a ↔ t ∈ b) → putAll s a = some s' → putAll s b = some s' := by
    intro a b s' h ha
    obtain ⟨h1, h2⟩ := putAll_ok a s s' hs ha
    refine putAll_can b s s' hs h1 fun p => ?_
    rw [h2 p]
    simp only [h]
  cases ha : putAll s a with
  | some s' => exact (key h ha).symm
  | none =>
    cases hb : putAll s b with
    | none => rfl
    | some s' => rw [key (fun t => (h t).symm) hb] at ha; cases ha
theorem putAll_bad {s : List Pc} {t : ByteArray} {r : List ByteArray} (h : storeV s = false) : putAll s (t :: r) = none := by
  rw [putAll, putT_bad h]; rfl
theorem getT_keep {s s' : List Pc} {ts : List ByteArray} (hs : storeV s = true) (h : putAll s ts = some s') {p : Int} {t : ByteArray} (hg : getT s p = some t) : getT s' p = some t := by
  obtain ⟨h1, h2⟩ := putAll_ok _ _ _ hs h
  exact getT_mem (storeV_sorted h1) ((h2 _).2 (.inl (getT_some hg)))
theorem getT_put {s s' : List Pc} {ts : List ByteArray} (hs : storeV s = true) (h : putAll s ts = some s') {t : ByteArray} (ht : t ∈ ts) : getT s' (prOf (tx t)) = some t := by
  obtain ⟨h1, h2⟩ := putAll_ok _ _ _ hs h
  exact getT_mem (storeV_sorted h1) ((h2 _).2 (.inr ⟨t, ht, rfl⟩))
theorem folder_keep {s s' : List Pc} {ts : List ByteArray} (hs : storeV s = true) (h : putAll s ts = some s') {p : Int} {l : List En} (hg : folderOf s p = some l) : folderOf s' p = some l := by
  unfold folderOf at hg ⊢
  obtain ⟨t, h1, h2⟩ := Option.bind_eq_some_iff.1 hg
  rw [getT_keep hs h h1]; exact h2
theorem file_keep {s s' : List Pc} {ts : List ByteArray} (hs : storeV s = true) (h : putAll s ts = some s') {p : Int} {l : Bs} (hg : fileOf s p = some l) : fileOf s' p = some l := by
  unfold fileOf at hg ⊢
  obtain ⟨t, h1, h2⟩ := Option.bind_eq_some_iff.1 hg
  rw [getT_keep hs h h1]; exact h2

/-! ### writing -/
def leafOk (s : List Pc) : Option Int → Bool
  | some q => (fileOf s q).isSome
  | none => true
def listAt (s : List Pc) : Option Int → Option (List En)
  | some p => folderOf s p
  | none => some []
def foldsW (s : List Pc) : Option Int → List Bs → Option (List (List En))
  | _, [] => some []
  | a, n :: r => (listAt s a).bind fun l => if r.isEmpty && !leafOk s (getE l n) then none else (foldsW s (getE l n) r).map fun fs => l :: fs
def upT : List (List En) → List Bs → Int → Option (List ByteArray × Int)
  | l :: fs, n :: ns, leaf => (upT fs ns leaf).bind fun x => if (putE l (mk n, x.2)).2 then some (x.1 ++ [mk (foldT (putE l (mk n, x.2)).1)], prOf (foldT (putE l (mk n, x.2)).1)) else none
  | _, _, leaf => some ([], leaf)
def writeP (s : List Pc) (root : Int) (ps : List Bs) (c : Bs) : Option (List Pc × Int) :=
  (foldsW s (some root) ps).bind fun fs => (upT fs ps (prOf (fileT c))).bind fun x => (putAll s (mk (fileT c) :: x.1)).map fun s' => (s', x.2)
/-- As the reference goes. -/
def setP (s : List Pc) (a : Option Int) (ps : List Bs) (leaf : Int) : Option (List Pc × Int) :=
  (foldsW s a ps).bind fun fs => (upT fs ps leaf).bind fun x => (putAll s x.1).map fun s' => (s', x.2)
theorem setP_nil (s : List Pc) (a : Option Int) (leaf : Int) : setP s a [] leaf = some (s, leaf) := rfl
def setUp (l : List En) (n : Bs) (x : List Pc × Int) : Option (List Pc × Int) :=
  if (putE l (mk n, x.2)).2 then (if (putT x.1 (mk (foldT (putE l (mk n, x.2)).1))).2.2 then some ((putT x.1 (mk (foldT (putE l (mk n, x.2)).1))).1, prOf (foldT (putE l (mk n, x.2)).1)) else none) else none
theorem setP_cons (s : List Pc) (a : Option Int) (n : Bs) (r : List Bs) (leaf : Int) :
    setP s a (n :: r) leaf = (listAt s a).bind fun l => if r.isEmpty && !leafOk s (getE l n) then none else (setP s (getE l n) r leaf).bind (setUp l n) := by
  unfold setP
  rw [foldsW]
  cases listAt s a with
  | none => rfl
  | some l =>
    simp only [Option.bind_some]
    split
    · rfl
    · cases foldsW s (getE l n) r with
      | none => rfl
      | some fs =>
        simp only [Option.map_some, Option.bind_some]
        rw [upT]
        cases upT fs r leaf with
        | none => rfl
        | some x =>
          simp only [Option.bind_some]
          unfold setUp
          cases hp : putAll s x.1 with
          | none =>
            split
            · simp only [Option.bind_some]; rw [putAll_append, hp]; rfl
            · rfl
          | some s1 =>
            simp only [Option.map_some, Option.bind_some]
            split
            · simp only [Option.bind_some]
              rw [putAll_append, hp, Option.bind_some, putAll_one]
              split <;> rfl
            · rfl
theorem writeP_set {s : List Pc} (hs : storeV s = true) (root : Int) (ps : List Bs) (c : Bs) :
    writeP s root ps c = (setP s (some root) ps (prOf (fileT c))).bind fun x => if (putT x.1 (mk (fileT c))).2.2 then some ((putT x.1 (mk (fileT c))).1, x.2) else none := by
  unfold writeP setP
  cases foldsW s (some root) ps with
  | none => rfl
  | some fs =>
    simp only [Option.bind_some]
    cases upT fs ps (prOf (fileT c)) with
    | none => rfl
    | some x =>
      simp only [Option.bind_some]
      have e : putAll s (mk (fileT c) :: x.1) = putAll s (x.1 ++ [mk (fileT c)]) := putAll_congr hs fun t => by simp [or_comm]
      rw [e, putAll_append]
      cases putAll s x.1 with
      | none => rfl
      | some s1 =>
        simp only [Option.bind_some, Option.map_some]
        rw [putAll_one]
        split <;> rfl
def writeA (s : List Pc) (root : Int) (path c : Bs) : List Pc × Int × Bool :=
  match (if storeV s && contV c then pathP path else none) with
  | some (n :: r) => (match writeP s root (n :: r) c with | some x => (x.1, x.2, true) | none => (s, root, false))
  | _ => ([], -1, false)

/-! ### dropping -/
def foldsD (s : List Pc) : Int → List Bs → List (List En)
  | _, [] => []
  | p, n :: r => ((folderOf s p).getD []) :: foldsD s ((getE ((folderOf s p).getD []) n).getD (-1)) r
def restD (l : List En) (n : Bs) : Option Int → List En
  | some q => (putE l (mk n, q)).1
  | none => (dropE l n).1
def dT : List (List En) → List Bs → List ByteArray × Option Int
  | l :: fs, n :: ns => if restD l n (dT fs ns).2 = [] then ((dT fs ns).1, none) else ((dT fs ns).1 ++ [mk (foldT (restD l n (dT fs ns).2))], some (prOf (foldT (restD l n (dT fs ns).2))))
  | _, _ => ([], none)
def dropTs (x : List ByteArray × Option Int) : List ByteArray × Int := match x.2 with | some p => (x.1, p) | none => (x.1 ++ [mk (foldT [])], prOf (foldT []))
def dropP (s : List Pc) (root : Int) (ps : List Bs) : Option (List Pc × Int) :=
  if (walkP s root ps).isSome then (putAll s (dropTs (dT (foldsD s root ps) ps)).1).map fun s' => (s', (dropTs (dT (foldsD s root ps) ps)).2) else none
def dropA (s : List Pc) (root : Int) (path : Bs) : List Pc × Int × Bool :=
  match (if storeV s then pathP path else none) with
  | some (n :: r) => (match dropP s root (n :: r) with | some x => (x.1, x.2, true) | none => (s, root, false))
  | _ => ([], -1, false)
/-- As the reference goes: a number below 0 stands for an emptied folder. -/
def dropS (s : List Pc) (fs : List (List En)) (ns : List Bs) : Option (List Pc × Int) := (putAll s (dT fs ns).1).map fun s' => (s', (dT fs ns).2.getD (-1))
def dropUp (l : List En) (n : Bs) (x : List Pc × Int) : Option (List Pc × Int) :=
  if restD l n (if x.2 < 0 then none else some x.2) = [] then some (x.1, -1)
  else if (putT x.1 (mk (foldT (restD l n (if x.2 < 0 then none else some x.2))))).2.2 then some ((putT x.1 (mk (foldT (restD l n (if x.2 < 0 then none else some x.2))))).1, prOf (foldT (restD l n (if x.2 < 0 then none else some x.2)))) else none
--END
end Go.Proofs.YtbpngpcjjinneaaDoor

/- Files below a root, sizes, quotas, archives, in plain Lean. No program in sight. -/
set_option linter.unusedVariables false
namespace Go.Proofs.YtbpngpcjjinneaaDoor
--BEGIN
/-! ### files -/
def filesP (s : List Pc) : Nat → Int → List Bs → List Bs
  | 0, _, _ => []
  | f + 1, p, ps => ((folderOf s p).getD []).flatMap fun e => if (fileOf s e.2).isSome then [joinP (ps ++ [tx e.1])] else filesP s f e.2 (ps ++ [tx e.1])
def allF (s : List Pc) (root : Int) : List Bs := if storeV s then filesP s 3 root [] else []
def specF (s : List Pc) (p : Int) (ps : List Bs) : List Bs := if (fileOf s p).isSome && !ps.isEmpty then [joinP ps] else filesP s (3 - ps.length) p ps
def contentAt (s : List Pc) (root : Int) (path : Bs) : Bs := (readAt s root path).getD []
def sizeOf' (s : List Pc) (root : Int) (l : List Bs) : Int := l.foldl (fun n p => n + ((contentAt s root p).length : Int)) 0
def totalP (s : List Pc) (root : Int) : Int := sizeOf' s root (allF s root)
def usedP (s : List Pc) (root : Int) (path : Bs) : Int := if (pathP path).isSome && storeV s then sizeOf' s root ((allF s root).filter fun f => belowP f path) else -1
abbrev Qt := ByteArray × Int
def encQ (q : Qt) : List Value := [.string q.1, .int .i64 q.2]
def quoAt (l : List Qt) (k : Nat) : Bool := match l[k]? with | some q => (pathP (tx q.1)).isSome && inI q.2 0 1000 && !((l.take k).any fun o => tx o.1 == tx q.1) | none => true
def quoV (l : List Qt) : Bool := decide (l.length ≤ 6) && (List.range l.length).all (quoAt l)
def overP (s : List Pc) (root : Int) (l : List Qt) : List Bs := if quoV l && storeV s then (l.filter fun q => decide (usedP s root (tx q.1) > q.2)).map fun q => tx q.1 else []

/-! ### archives -/
structure Ar where
  ps : List Pc
  op : Int
  vs : List Vr
def archV (a : Ar) : Bool := storeV a.ps && (versV a.vs && ((folderOf a.ps a.op).isSome && a.vs.all fun v => (folderOf a.ps v.1).isSome))
def newA (s : List Pc) : Ar × Bool := if (putT s (mk (foldT []))).2.2 then (⟨(putT s (mk (foldT []))).1, (putT s (mk (foldT []))).2.1, []⟩, true) else (⟨[], 0, []⟩, false)
def addV (l : List Vr) (v : Vr) : List Vr × Bool := if versV l then (if versV (l ++ [v]) then (l ++ [v], true) else (l, false)) else ([], false)
def joinW (c : Bs) : List Bs → Bs
  | [] => []
  | [p] => p
  | p :: r => p ++ c ++ joinW c r
def filesAns (a : Ar) : Bs := if allF a.ps a.op = [] then [110, 111, 110, 101] else joinW [32] (allF a.ps a.op)
def wWrite : Bs := [119, 114, 105, 116, 101]
def wDrop : Bs := [100, 114, 111, 112]
def wKeep : Bs := [107, 101, 101, 112]
def wBack : Bs := [98, 97, 99, 107]
def wRead : Bs := [114, 101, 97, 100]
def wFiles : Bs := [102, 105, 108, 101, 115]
def wOk : Bs := [111, 107]
def wNo : Bs := [110, 111]
def lineA (a : Ar) (ws : List Bs) : Ar × Bs :=
  match ws with
  | [x, p, c] => if x = wWrite then (match writeA a.ps a.op p c with | (s, r, true) => (⟨s, r, a.vs⟩, wOk) | _ => (a, wNo)) else (a, wNo)
  | [x, p] =>
    if x = wDrop then (match dropA a.ps a.op p with | (s, r, true) => (⟨s, r, a.vs⟩, wOk) | _ => (a, wNo))
    else if x = wKeep then (match addV a.vs (a.op, (a.vs.length : Int) - 1, mk p) with | (v, true) => (⟨a.ps, a.op, v⟩, wOk) | _ => (a, wNo))
    else if x = wBack then (if 0 ≤ readH p ∧ readH p < a.vs.length then (⟨a.ps, ((a.vs.getD (readH p).toNat (0, 0, ⟨#[]⟩)).1), a.vs⟩, wOk) else (a, wNo))
    else if x = wRead then (match readAt a.ps a.op p with | some t => (a, 61 :: t) | none => (a, wNo))
    else (a, wNo)
  | [x] => if x = wFiles then (a, filesAns a) else (a, wNo)
  | _ => (a, wNo)
def archL (a : Ar) (line : Bs) : Ar × Bs := if archV a then lineA a (splitS 32 line) else (⟨[], 0, []⟩, [])
def archLs : Ar → List Bs → Ar × List Bs
  | a, [] => (a, [])
  | a, l :: r => ((archLs (archL a l).1 r).1, (archL a l).2 :: (archLs (archL a l).1 r).2)
def archM (a : Ar) (ls : List Bs) : Ar × List Bs := if archV a && decide (ls.length ≤ 12) then archLs a ls else (⟨[], 0, []⟩, [])
--END
end Go.Proofs.YtbpngpcjjinneaaDoor

/- EmptyRoot, NewArchive, walked. -/
set_option linter.unusedVariables false
namespace Go.Proofs.YtbpngpcjjinneaaDoor
open Go.RowKit
def foldE : ByteArray := mk (foldT [])
theorem foldE_size : foldE.size ≤ 16777216 := by unfold foldE; rw [mk_size]; have := foldT_len []; omega
theorem fitE_nil : FitE [] := fun p hp => absurd hp List.not_mem_nil
set_option maxHeartbeats 4000000 in
set_option maxRecDepth 100000 in
theorem iEmptyRoot_any (A : Option Addr) (c : Nat) (l : List Pc) (w : World) (hs : Sl w encP 2 A l) (hcz : A = none → c = 0) (hl : l.length ≤ 16777216) (hf : FitP l) (ht : TzL w) :
    Calls Tryd.prog 47 #[.slice A l.length c] w (PutRes (putT l foldE) w) := by
  have HS := Lib.hid hs
  have HT := Lib.hid ht
  have hft := fun w h => iFolderText_any none 0 [] w Sl.none_ (Nat.zero_le _) fitE_nil h
  simp only [List.length_nil] at hft
  have hpt := fun w h => iPutText_any A c l foldE w h hcz hl hf foldE_size
  clear hs hcz ht
  unfold PutRes at *
  unfold foldE at *
  generalize mk (foldT []) = FE at *
  generalize putT l FE = R at *
  have HFT := Lib.hid hft
  clear hft
  have HPT := Lib.hid hpt
  clear hpt
  go_enter Tryd.func47, Tryd.ntmps47
  go_wp2_with fail
  refine (HFT.out _ HT.out).mono ?_
  rintro e w1 ⟨rfl, hb⟩
  have HB := Lib.hid hb
  have HS1 := Lib.hid (HS.out.below hb)
  clear hb
  go_wp2_with fail
  refine (HPT.out _ HS1.out).mono ?_
  rintro e w2 ⟨v, rfl, hown, hb⟩
  have HW := Lib.hid (hown.mono HB.out.size)
  have HB2 := Lib.hid (Below_then HB.out hb (Nat.le_refl _))
  clear hown hb
  go_wp2
  go_ret3
  exact ⟨_, rfl, HW.out, HB2.out⟩
set_option maxHeartbeats 4000000 in
set_option maxRecDepth 100000 in
theorem sEmptyRoot_any (A : Option Addr) (c : Nat) (l : List Pc) (w : World) (hs : Sl w encP 2 A l) (hcz : A = none → c = 0) (hle : l.length ≤ c) (hl : l.length ≤ 16777216) (hf : FitP l) :
    Calls Tryd.prog 45 #[.slice A l.length c] w (PutRes (putT l foldE) w) := by
  have HS := Lib.hid hs
  have hft := fun g w => sFolderText_any (some ⟨g, 0, none⟩) 0 [] w Sl.none_ (Nat.zero_le _) fitE_nil
  simp only [List.length_nil] at hft
  have hpt := fun w h => sPutText_any A c l foldE w h hcz hle hl hf foldE_size
  clear hs hcz
  unfold PutRes at *
  unfold foldE at *
  generalize mk (foldT []) = FE at *
  generalize putT l FE = R at *
  have HFT := Lib.hid hft
  clear hft
  have HPT := Lib.hid hpt
  clear hpt
  go_enter Tryd.func45, Tryd.ntmps45
  go_wp2_with fail
  refine (HFT.out _ _).mono ?_
  rintro e w1 ⟨rfl, hb⟩
  have HB := Lib.hid (Below_of_alloc hb)
  have HS1 := Lib.hid (HS.out.below HB.out)
  clear hb
  go_wp2_with fail
  refine (HPT.out _ HS1.out).mono ?_
  rintro e w2 ⟨v, rfl, hown, hb⟩
  have HW := Lib.hid (hown.mono HB.out.size)
  have HB2 := Lib.hid (Below_then HB.out hb (Nat.le_refl _))
  clear hown hb
  go_wp2
  go_ret3
  exact ⟨_, rfl, HW.out, HB2.out⟩
end Go.Proofs.YtbpngpcjjinneaaDoor

/- Archives by value: sizes, copies, comparisons, marks, walked. -/
set_option linter.unusedVariables false
namespace Go.Proofs.YtbpngpcjjinneaaDoor
open Go.RowKit
/-- Two rows in different blocks. -/
def ApartV (u v : Value) : Prop := ∀ g, u.ownBlock = some g → v.ownBlock ≠ some g
theorem ApartV.symm {u v : Value} (h : ApartV u v) : ApartV v u := fun g h1 h2 => h g h2 h1
theorem ApartV.nil (u : Value) : ApartV u (.slice none 0 0) := fun g _ h => by cases h
theorem World.alloc_size_ (w : World) (o : Obj) : (w.alloc o).heap.size = w.heap.size + 1 := by simp
theorem Row3.grew {w w' : World} {b : Nat} {v v0 v1 v2 : Value} (h : Row3 w b v0 v1 v2) (hg : Grew v w w') (hne : v.ownBlock ≠ some b) : Row3 w' b v0 v1 v2 := by
  obtain ⟨⟨h0, h1, h2⟩, hf, hlt⟩ := h
  have hblk : w'.heap[b]? = w.heap[b]? := hg.block b hlt (fun e => hne e.symm)
  have hc : ∀ o, w'.cell? ⟨b, o, none⟩ = w.cell? ⟨b, o, none⟩ := fun o => by unfold World.cell?; simp only [hblk]
  refine ⟨⟨(hc _).trans h0, (hc _).trans h1, (hc _).trans h2⟩, fun o => (World.frozen?_of_block (w := w) hblk).trans (hf o), Nat.lt_of_lt_of_le hlt hg.size⟩
theorem Own.slm {w : World} {base : Nat} {A : Option Addr} {n c : Nat} {E : TypeId} {α : Type} {enc : α → List Value} {size : Nat} {l : List α} (h : Own w base E size enc (.slice A n c) l) : Sl w enc size A l := by
  obtain ⟨A', c', e, _, hs, _⟩ := h.sl
  injection e with e1 _ _
  rw [e1]; exact hs
def FitsAr (l : List Pc) (m : List Vr) : Prop := l.length ≤ 1048576 ∧ m.length ≤ 1048576 ∧ (∀ p ∈ l, p.2.size ≤ 1048576) ∧ FitsVersion m
def SizedAr (l : List Pc) (m : List Vr) (w : World) (e : Ending) (w' : World) : Prop :=
  ∃ r : Int, e = .returned (.int .i64 r) ∧ r ≤ 1048576 ∧ (0 ≤ r → FitsAr l m) ∧ Below w.heap.size w w'
set_option maxHeartbeats 2000000 in
set_option maxRecDepth 100000 in
theorem szArchive_any (A B : Option Addr) (c d : Nat) (l : List Pc) (m : List Vr) (x : Int) (w : World) (hs : Sl w encP 2 A l) (hl : l.length ≤ maxLen) (hm : ∀ p ∈ l, p.2.size ≤ maxLen) (ht : Sl w encV 3 B m) (hl2 : m.length ≤ maxLen) (hm2 : ∀ p ∈ m, p.2.2.size ≤ maxLen) :
    Calls Tryd.prog 31 #[.agg #[.slice A l.length c, .int .i64 x, .slice B m.length d], .int .i64 1048576] w (SizedAr l m w) := by
  have HS := Lib.hid hs
  have HT := Lib.hid ht
  have HL := Lib.hid hl
  have HM := Lib.hid hm
  have HL2 := Lib.hid hl2
  have HM2 := Lib.hid hm2
  clear hs ht hl hm hl2 hm2
  go_enter Tryd.func31, Tryd.ntmps31
  go_wp2_with fail
  refine (szPieceS_any _ _ l 1048576 _ (HS.out.alloc _) HL.out HM.out (by omega) (by omega)).mono ?_
  rintro e w1 ⟨r0, rfl, hr0, hg0, hb⟩
  have x2 := box_cell hb 2 rfl
  have HB1 := Lib.hid (Below_of_alloc hb)
  have HG := Lib.hid hg0
  clear hb hg0
  by_cases hn0 : r0 < 0
  case pos =>
    go_wp2
    go_ret
    exact ⟨-1, rfl, by omega, fun h => absurd h (by omega), HB1.out⟩
  case neg =>
    have h0 : 0 ≤ r0 := by omega
    go_wp2_with fail
    refine (szVersionS_any _ _ m r0 _ (HT.out.below HB1.out) HL2.out HM2.out h0 (by omega)).mono ?_
    rintro e w2 ⟨r1, rfl, hr1, hg1, hb⟩
    have HB2 := Lib.hid (Below_then HB1.out hb (Nat.le_refl _))
    have HG1 := Lib.hid hg1
    clear hb hg1 x2
    by_cases hn1 : r1 < 0
    case pos =>
      go_wp2
      go_ret
      exact ⟨-1, rfl, by omega, fun h => absurd h (by omega), HB2.out⟩
    case neg =>
      go_wp2
      go_ret
      exact ⟨r1, rfl, by omega, fun _ => ⟨(HG.out h0).1, (HG1.out (by omega)).1, (HG.out h0).2, (HG1.out (by omega)).2⟩, HB2.out⟩
def ToAr (l : List Pc) (x : Int) (m : List Vr) (w : World) (e : Ending) (w' : World) : Prop :=
  ∃ p q, e = .returned (.agg #[p, .int .i64 x, q]) ∧ Own w' w.heap.size 79 2 encP p l ∧ Own w' w.heap.size 96 3 encV q m ∧ ApartV p q ∧ Below w.heap.size w w'
theorem ToAr.mk {l : List Pc} {x : Int} {m : List Vr} {w w' : World} {A B : Option Addr} {c d : Nat} (h1 : Own w' w.heap.size 79 2 encP (.slice A l.length c) l) (h2 : Own w' w.heap.size 96 3 encV (.slice B m.length d) m) (h3 : ApartV (.slice A l.length c) (.slice B m.length d)) (h4 : Below w.heap.size w w') :
    ToAr l x m w (.returned (.agg #[.slice A l.length c, .int .i64 x, .slice B m.length d])) w' := ⟨_, _, rfl, h1, h2, h3, h4⟩
set_option maxHeartbeats 2000000 in
set_option maxRecDepth 100000 in
theorem toArchive_any (A B : Option Addr) (c d : Nat) (l : List Pc) (m : List Vr) (x : Int) (w : World) (hs : Sl w encP 2 A l) (hl : l.length ≤ 16777216) (ht : Sl w encV 3 B m) (hl2 : m.length ≤ 16777216) :
    Calls Tryd.prog 33 #[.agg #[.slice A l.length c, .int .i64 x, .slice B m.length d]] w (ToAr l x m w) := by
  have HS := Lib.hid hs
  have HT := Lib.hid ht
  clear hs ht
  go_enter Tryd.func33, Tryd.ntmps33
  go_wp2_with fail
  refine (toPieceS_any _ _ _ _ (((HS.out.alloc _).alloc _).alloc _) hl).mono ?_
  rintro e w1 ⟨p, rfl, hown, hb⟩
  have hx := Row3.new.below (w' := w1) (Below_of_alloc (Below_of_alloc hb))
  have hy := Row3.new.below (w' := w1) (Below_of_alloc hb)
  have hz := Row3.new.below hb
  simp only [World.alloc_size_] at hx hy hz
  have HB1 := Lib.hid (Below_of_alloc (Below_of_alloc (Below_of_alloc hb)))
  have HO1 := Lib.hid hown
  have HU1 := Lib.hid hown.up
  obtain ⟨X, d2, rfl, _, _, _⟩ := hown.sl
  have HZ := Lib.hid ((hz.set0 (.slice X l.length d2)).set1 (.int .i64 x))
  have HY := Lib.hid ((hy.other (p := ⟨w.heap.size + 1 + 1, 0, none⟩) (by simp) (.slice X l.length d2)).other (p := ⟨w.heap.size + 1 + 1, 1, none⟩) (by simp) (.int .i64 x))
  obtain ⟨⟨x0, x1, x2⟩, fx, lx⟩ := hx
  obtain ⟨⟨z0, z1, z2⟩, fz, lz⟩ := hz
  clear hb hown hy
  go_wp2_with fail
  refine (toVersionS_any _ _ _ _ (HT.out.below ((HB1.out.setCell (p := ⟨w.heap.size + 1 + 1, 0, none⟩) (by simp; omega) _).setCell (p := ⟨w.heap.size + 1 + 1, 1, none⟩) (by simp; omega) _)) hl2).mono ?_
  rintro e w2 ⟨q, rfl, hown, hb⟩
  have HB2 := Lib.hid (Below_then ((HB1.out.setCell (p := ⟨w.heap.size + 1 + 1, 0, none⟩) (by simp; omega) _).setCell (p := ⟨w.heap.size + 1 + 1, 1, none⟩) (by simp; omega) _) hb (Nat.le_refl _))
  have HP2 := Lib.hid (((HO1.out.setBelow (p := ⟨w.heap.size + 1 + 1, 0, none⟩) (by simp) (.slice X l.length d2)).setBelow (p := ⟨w.heap.size + 1 + 1, 1, none⟩) (by simp) (.int .i64 x)).below hb)
  have hlo := hown.lo
  rw [setCell_size, setCell_size] at hown hlo
  have HO2 := Lib.hid hown
  have HAP := Lib.hid (apart_of HU1.out hlo (Nat.le_refl _))
  obtain ⟨Y, d3, rfl, _, _, _⟩ := hown.sl
  obtain ⟨⟨y0, y1, y2⟩, fy, ly⟩ := HY.out.below hb
  obtain ⟨⟨u0, u1, u2⟩, fu, lu⟩ := HZ.out.below hb
  clear hb hown hlo x0 x1 x2 fx z0 z1 z2 fz
  go_wp2_with fail
  exact bodyPost_ret (v := .agg #[.slice X l.length d2, .int .i64 x, .slice Y m.length d3]) (by simp [results, Tryd.results33, go_sem, y0, y1, y2]) rfl
    (ToAr.mk
      (((((HP2.out.setBelow (p := ⟨w.heap.size + 1 + 1, 2, none⟩) (by simp) _).setBelow (p := ⟨w.heap.size + 1, 0, none⟩) (by simp) _).setBelow (p := ⟨w.heap.size + 1, 1, none⟩) (by simp) _).setBelow (p := ⟨w.heap.size + 1, 2, none⟩) (by simp) _).mono (by simp; omega))
      (((((HO2.out.setBelow (p := ⟨w.heap.size + 1 + 1, 2, none⟩) lz _).setBelow (p := ⟨w.heap.size + 1, 0, none⟩) (Nat.lt_of_succ_lt lz) _).setBelow (p := ⟨w.heap.size + 1, 1, none⟩) (Nat.lt_of_succ_lt lz) _).setBelow (p := ⟨w.heap.size + 1, 2, none⟩) (Nat.lt_of_succ_lt lz) _).mono (by omega))
      HAP.out
      ((((HB2.out.setCell (by simp; omega) _).setCell (by simp) _).setCell (by simp) _).setCell (by simp) _))
set_option maxHeartbeats 2000000 in
set_option maxRecDepth 100000 in
theorem eqArchive_same (A B A' B' : Option Addr) (c d c' d' : Nat) (l : List Pc) (m : List Vr) (x : Int) (w : World) (h1 : Sl w encP 2 A l) (h2 : Sl w encP 2 A' l) (hl : l.length ≤ 16777216) (h3 : Sl w encV 3 B m) (h4 : Sl w encV 3 B' m) (hl2 : m.length ≤ 16777216) :
    Calls Tryd.prog 19 #[.agg #[.slice A l.length c, .int .i64 x, .slice B m.length d], .agg #[.slice A' l.length c', .int .i64 x, .slice B' m.length d']] w fun e w' => e = .returned (.bool true) ∧ Below w.heap.size w w' := by
  have H1 := Lib.hid h1
  have H2 := Lib.hid h2
  have H3 := Lib.hid h3
  have H4 := Lib.hid h4
  clear h1 h2 h3 h4
  go_enter Tryd.func19, Tryd.ntmps19
  go_wp2_with fail
  refine (eqPieceS_same _ _ _ _ l _ ((H1.out.alloc _).alloc _) ((H2.out.alloc _).alloc _) hl).mono ?_
  rintro e w1 ⟨rfl, hb⟩
  have HB1 := Lib.hid (Below_of_alloc (Below_of_alloc hb))
  have hx := Row3.new.below (w' := w1) (Below_of_alloc hb)
  have hy := Row3.new.below hb
  obtain ⟨⟨x0, x1, x2⟩, _, _⟩ := hx
  obtain ⟨⟨y0, y1, y2⟩, _, _⟩ := hy
  rw [World.alloc_size_] at y0 y1 y2
  clear hb
  go_wp2_with fail
  refine (eqVersionS_same _ _ _ _ m _ (H3.out.below HB1.out) (H4.out.below HB1.out) hl2).mono ?_
  rintro e w2 ⟨rfl, hb⟩
  have HB2 := Lib.hid (Below_then HB1.out hb (Nat.le_refl _))
  clear hb
  go_wp2
  go_ret
  exact ⟨rfl, HB2.out⟩
def MarkAr (base : Nat) (p q : Value) (n m k : Nat) (w : World) (e : Ending) (w' : World) : Prop :=
  e = .returned (.int .i64 ((k + 2 * n + 3 * m : Nat) : Int)) ∧ Own w' base 79 2 encP p (markPieceL k n) ∧ Own w' base 96 3 encV q (markVersionL (k + 2 * n) m) ∧ ∃ w1, Grew p w w1 ∧ Grew q w1 w'
set_option maxHeartbeats 2000000 in
set_option maxRecDepth 100000 in
theorem markArchive_any (base : Nat) (A B : Option Addr) (c d : Nat) (l : List Pc) (m : List Vr) (x : Int) (k : Nat) (w : World) (h1 : Own w base 79 2 encP (.slice A l.length c) l) (h2 : Own w base 96 3 encV (.slice B m.length d) m) (hap : ApartV (.slice A l.length c) (.slice B m.length d)) (hl : l.length ≤ 16777216) (hl2 : m.length ≤ 16777216) (hk : k ≤ 10000000) :
    Calls Tryd.prog 22 #[.agg #[.slice A l.length c, .int .i64 x, .slice B m.length d], .int .i64 (k : Int)] w (MarkAr base (.slice A l.length c) (.slice B m.length d) l.length m.length k w) := by
  have H1 := Lib.hid h1
  have H2 := Lib.hid h2
  have HA := Lib.hid hap
  clear h1 h2 hap
  unfold MarkAr
  generalize hK : k + 2 * l.length = K at *
  have hKb : K ≤ 100000000 := by omega
  have HK := Lib.hid hK
  clear hK
  generalize hK2 : K + 3 * m.length = K2 at *
  have hK2b : K2 ≤ 1000000000 := by omega
  have HK2 := Lib.hid hK2
  clear hK2
  go_enter Tryd.func22, Tryd.ntmps22
  go_wp2_with fail
  refine (markPieceS_any base _ l k _ (H1.out.alloc _) hl (by omega)).mono ?_
  rintro e w1 ⟨rfl, hown, hgr⟩
  obtain ⟨⟨x0, x1, x2⟩, _, _⟩ := Row3.new.grew hgr (H1.out.ne)
  have HP1 := Lib.hid hown
  have HG1 := Lib.hid ((Grew.below (v := .slice A l.length c) ((Below.refl w.heap.size w).alloc (Nat.le_refl _) _)).trans hgr)
  have HQ1 := Lib.hid ((H2.out.alloc _).grew hgr HA.out.symm)
  rw [HK.out]
  clear hown hgr
  go_wp2_with fail
  refine (markVersionS_any base _ m K _ HQ1.out hl2 hKb).mono ?_
  rintro e w2 ⟨rfl, hown, hgr⟩
  have HQ2 := Lib.hid hown
  have HG2 := Lib.hid hgr
  have HP2 := Lib.hid (HP1.out.grew hgr HA.out)
  rw [HK2.out]
  clear hown hgr
  go_wp2
  go_ret
  exact ⟨rfl, HP2.out, HQ2.out, w1, HG1.out, HG2.out⟩
set_option maxHeartbeats 2000000 in
set_option maxRecDepth 100000 in
theorem heldArchive_any (A B : Option Addr) (c d : Nat) (n m : Nat) (x : Int) (k : Nat) (w : World) (h1 : Sl w encP 2 A (markPieceL k n)) (h2 : Sl w encV 3 B (markVersionL (k + 2 * n) m)) (hl : n ≤ 16777216) (hl2 : m ≤ 16777216) (hk : k ≤ 10000000) :
    Calls Tryd.prog 23 #[.agg #[.slice A n c, .int .i64 x, .slice B m d], .int .i64 (k : Int)] w fun e w' => e = .returned (.int .i64 ((k + 2 * n + 3 * m : Nat) : Int)) ∧ Below w.heap.size w w' := by
  generalize hK : k + 2 * n = K at *
  have hKb : K ≤ 100000000 := by omega
  have hK0 : ¬ (K : Int) < 0 := by omega
  have HK := Lib.hid hK
  clear hK
  generalize hK2 : K + 3 * m = K2 at *
  have hK2b : K2 ≤ 1000000000 := by omega
  have hK20 : ¬ (K2 : Int) < 0 := by omega
  have HK2 := Lib.hid hK2
  clear hK2
  have H1 := Lib.hid h1
  have H2 := Lib.hid h2
  clear h1 h2
  go_enter Tryd.func23, Tryd.ntmps23
  go_wp2_with fail
  refine (heldPieceS_any _ _ k n _ (H1.out.alloc _) hl (by omega)).mono ?_
  rintro e w1 ⟨rfl, hb⟩
  obtain ⟨⟨x0, x1, x2⟩, _, _⟩ := Row3.new.below hb
  have HB1 := Lib.hid (Below_of_alloc hb)
  rw [HK.out]
  clear hb
  go_wp2_with fail
  refine (heldVersionS_any _ _ K m _ (H2.out.below HB1.out) hl2 hKb).mono ?_
  rintro e w2 ⟨rfl, hb⟩
  have HB2 := Lib.hid (Below_then HB1.out hb (Nat.le_refl _))
  rw [HK2.out]
  clear hb
  go_wp2
  go_ret
  exact ⟨rfl, HB2.out⟩
end Go.Proofs.YtbpngpcjjinneaaDoor

/- NewArchive, walked. -/
set_option linter.unusedVariables false
namespace Go.Proofs.YtbpngpcjjinneaaDoor
open Go.RowKit
/-- An archive's value: its pieces and its versions lie in rows of the call's own. -/
def ArV (w : World) (base : Nat) (a : Ar) (v : Value) : Prop := ∃ p q, v = .agg #[p, .int .i64 a.op, q] ∧ Own w base 79 2 encP p a.ps ∧ Own w base 96 3 encV q a.vs ∧ ApartV p q
def NaRes (r : Ar × Bool) (w : World) (e : Ending) (w' : World) : Prop := ∃ v, e = .returned (.tuple #[v, .bool r.2]) ∧ ArV w' w.heap.size r.1 v ∧ Below w.heap.size w w'
theorem NaRes.no {w w' : World} (hb : Below w.heap.size w w') : NaRes (⟨[], 0, []⟩, false) w (.returned (.tuple #[.agg #[.slice none 0 0, .int .i64 0, .slice none 0 0], .bool false])) w' := ⟨_, rfl, ⟨_, _, rfl, Own.nil, Own.nil, ApartV.nil _⟩, hb⟩
theorem NaRes.yes {w w' : World} {l : List Pc} {x : Int} {p : Value} (h : Own w' w.heap.size 79 2 encP p l) (hb : Below w.heap.size w w') : NaRes (⟨l, x, []⟩, true) w (.returned (.tuple #[.agg #[p, .int .i64 x, .slice none 0 0], .bool true])) w' := ⟨_, rfl, ⟨_, _, rfl, h, Own.nil, ApartV.nil _⟩, hb⟩
theorem newA_len (l : List Pc) : (newA l).1.ps.length ≤ 40 ∧ (newA l).1.vs.length ≤ 0 := by
  have h := putT_len l (mk (foldT []))
  unfold newA
  generalize putT l (mk (foldT [])) = R at *
  split
  · exact ⟨h, Nat.le_refl _⟩
  · exact ⟨Nat.zero_le _, Nat.le_refl _⟩
set_option maxHeartbeats 2000000 in
set_option maxRecDepth 100000 in
theorem iNewArchive_any (A : Option Addr) (c : Nat) (l : List Pc) (w : World) (hs : Sl w encP 2 A l) (hcz : A = none → c = 0) (hl : l.length ≤ 16777216) (hf : FitP l) (ht : TzL w) :
    Calls Tryd.prog 18 #[.slice A l.length c] w (NaRes (newA l) w) := by
  have HS := Lib.hid hs
  have HT := Lib.hid ht
  have hE := fun w h => iEmptyRoot_any A c l w h hcz hl hf
  clear hs hcz ht
  unfold PutRes foldE at hE
  unfold newA
  generalize mk (foldT []) = FE at *
  generalize putT l FE = R at *
  obtain ⟨R0, R1, R2⟩ := R
  cases R2
  · have HE := Lib.hid hE
    clear hE
    go_enter Tryd.func18, Tryd.ntmps18
    go_wp2_with fail
    refine (HE.out _ (HS.out.alloc _) (HT.out.below ((Below.refl _ _).alloc (Nat.le_refl _) _))).mono ?_
    rintro e w1 ⟨v, rfl, hown, hb⟩
    have hr := Row3.new.below hb
    obtain ⟨⟨x0, x1, x2⟩, hfr, _⟩ := hr
    have HB := Lib.hid (Below_of_alloc hb)
    clear hb hown
    go_wp2_with fail
    exact bodyPost_ret (v := .tuple #[.agg #[.slice none 0 0, .int .i64 0, .slice none 0 0], .bool false]) (by simp [results, Tryd.results18, go_sem, x0, x1, x2]) rfl (NaRes.no (((HB.out.setCell (Nat.le_refl _) _).setCell (Nat.le_refl _) _).setCell (Nat.le_refl _) _))
  · have HE := Lib.hid hE
    clear hE
    go_enter Tryd.func18, Tryd.ntmps18
    go_wp2_with fail
    refine (HE.out _ (HS.out.alloc _) (HT.out.below ((Below.refl _ _).alloc (Nat.le_refl _) _))).mono ?_
    rintro e w1 ⟨v, rfl, hown, hb⟩
    have hr := Row3.new.below hb
    obtain ⟨⟨x0, x1, x2⟩, hfr, _⟩ := hr
    have hlt : w.heap.size < (w.alloc (.cells #[.slice none 0 0, .int .i64 0, .slice none 0 0] 40)).heap.size := by simp
    have HB := Lib.hid (Below_of_alloc hb)
    have HW := Lib.hid hown
    obtain ⟨X, d, rfl, _, _, _⟩ := hown.sl
    clear hb hown
    go_wp2_with fail
    exact bodyPost_ret (v := .tuple #[.agg #[.slice X R0.length d, .int .i64 R1, .slice none 0 0], .bool true]) (by simp [results, Tryd.results18, go_sem, x0, x1, x2]) rfl (NaRes.yes ((((HW.out.setBelow hlt _).setBelow hlt _).setBelow hlt _).mono (Nat.le_of_lt hlt)) (((HB.out.setCell (Nat.le_refl _) _).setCell (Nat.le_refl _) _).setCell (Nat.le_refl _) _))
set_option maxHeartbeats 2000000 in
set_option maxRecDepth 100000 in
theorem sNewArchive_any (A : Option Addr) (c : Nat) (l : List Pc) (w : World) (hs : Sl w encP 2 A l) (hcz : A = none → c = 0) (hle : l.length ≤ c) (hl : l.length ≤ 16777216) (hf : FitP l) :
    Calls Tryd.prog 16 #[.slice A l.length c] w (NaRes (newA l) w) := by
  have HS := Lib.hid hs
  have hE := fun w h => sEmptyRoot_any A c l w h hcz hle hl hf
  clear hs hcz 
  unfold PutRes foldE at hE
  unfold newA
  generalize mk (foldT []) = FE at *
  generalize putT l FE = R at *
  obtain ⟨R0, R1, R2⟩ := R
  cases R2
  · have HE := Lib.hid hE
    clear hE
    go_enter Tryd.func16, Tryd.ntmps16
    go_wp2_with fail
    refine (HE.out _ (HS.out.alloc _)).mono ?_
    rintro e w1 ⟨v, rfl, hown, hb⟩
    have hr := Row3.new.below hb
    obtain ⟨⟨x0, x1, x2⟩, hfr, _⟩ := hr
    have HB := Lib.hid (Below_of_alloc hb)
    clear hb hown
    go_wp2_with fail
    exact bodyPost_ret (v := .tuple #[.agg #[.slice none 0 0, .int .i64 0, .slice none 0 0], .bool false]) (by simp [results, Tryd.results16, go_sem, x0, x1, x2]) rfl (NaRes.no (((HB.out.setCell (Nat.le_refl _) _).setCell (Nat.le_refl _) _).setCell (Nat.le_refl _) _))
  · have HE := Lib.hid hE
    clear hE
    go_enter Tryd.func16, Tryd.ntmps16
    go_wp2_with fail
    refine (HE.out _ (HS.out.alloc _)).mono ?_
    rintro e w1 ⟨v, rfl, hown, hb⟩
    have hr := Row3.new.below hb
    obtain ⟨⟨x0, x1, x2⟩, hfr, _⟩ := hr
    have hlt : w.heap.size < (w.alloc (.cells #[.slice none 0 0, .int .i64 0, .slice none 0 0] 40)).heap.size := by simp
    have HB := Lib.hid (Below_of_alloc hb)
    have HW := Lib.hid hown
    obtain ⟨X, d, rfl, _, _, _⟩ := hown.sl
    clear hb hown
    go_wp2_with fail
    exact bodyPost_ret (v := .tuple #[.agg #[.slice X R0.length d, .int .i64 R1, .slice none 0 0], .bool true]) (by simp [results, Tryd.results16, go_sem, x0, x1, x2]) rfl (NaRes.yes ((((HW.out.setBelow hlt _).setBelow hlt _).setBelow hlt _).mono (Nat.le_of_lt hlt)) (((HB.out.setCell (Nat.le_refl _) _).setCell (Nat.le_refl _) _).setCell (Nat.le_refl _) _))
end Go.Proofs.YtbpngpcjjinneaaDoor

/- Copies of slices of numbers. -/
set_option linter.unusedVariables false
namespace Go.Proofs.YtbpngpcjjinneaaDoor
open Go.RowKit

end Go.Proofs.YtbpngpcjjinneaaDoor

/- Slices of numbers and of strings, as a law copies, measures, compares and marks them: in one shape with slices of structs. -/
set_option linter.unusedVariables false
namespace Go.Proofs.YtbpngpcjjinneaaDoor
open Go.RowKit

theorem str_to (A : Option Addr) (c : Nat) (l : List ByteArray) (w : World) (hs : Sl w encS 1 A l) (hl : l.length ≤ 16777216) :
    Calls Tryd.prog 26 #[.slice A l.length c] w (OwnRes 9 1 encS l w) := toStringS_any A c l w hs hl
def StrFit (l : List ByteArray) : Prop := ∀ s ∈ l, s.size ≤ 1048576
theorem str_sz (A : Option Addr) (c : Nat) (l : List ByteArray) (left : Int) (w : World) (hs : Sl w encS 1 A l) (hl : l.length ≤ maxLen) (hm : ∀ s ∈ l, s.size ≤ maxLen) (h0 : 0 ≤ left) (h1 : left ≤ 1048576) :
    Calls Tryd.prog 24 #[.slice A l.length c, .int .i64 left] w fun e w' => ∃ r : Int, e = .returned (.int .i64 r) ∧ r ≤ 1048576 ∧ (0 ≤ r → l.length ≤ 1048576 ∧ StrFit l) ∧ Below w.heap.size w w' :=
  (szStringS_any A c l left w hs hl hm h0 h1).mono fun _ _ ⟨r, h, h2, h3, e⟩ => ⟨r, h, h2, h3, e ▸ Below.refl _ _⟩
theorem str_eq2 (A B : Option Addr) (c d : Nat) (l : List ByteArray) (w : World) (ha : Sl w encS 1 A l) (hb : Sl w encS 1 B l) (hl : l.length ≤ 16777216) :
    Calls Tryd.prog 28 #[.slice A l.length c, .slice B l.length d] w fun e w' => e = .returned (.bool true) ∧ Below w.heap.size w w' :=
  (l_eqStringS_same A B c d l w ha hb hl).mono fun _ _ ⟨h, hd⟩ => ⟨h, hd.below⟩
/-! ### marks of strings -/
def markStrL (k n : Nat) : List ByteArray := (List.range n).map fun j => mk (markT (k + j))
theorem markStrL_len (k n : Nat) : (markStrL k n).length = n := by simp [markStrL]
theorem markStrL_succ (k n : Nat) : markStrL k (n + 1) = markStrL k n ++ [mk (markT (k + n))] := by simp [markStrL, List.range_succ]
theorem markStrL_at {k n j : Nat} (h : j < n) : (markStrL k n)[j]'(by rw [markStrL_len]; exact h) = mk (markT (k + j)) := by simp [markStrL]
set_option maxHeartbeats 4000000 in
set_option maxRecDepth 100000 in
theorem markStringS_any (base : Nat) (v : Value) (l : List ByteArray) (k : Nat) (w : World) (h : Own w base 9 1 encS v l) (hl : l.length ≤ 16777216) (hk : k ≤ 100000000) :
    Calls Tryd.prog 29 #[v, .int .i64 k] w (Marked 9 1 encS base v (markStrL k l.length) (k + l.length) w) := by
  by_cases h0 : 0 < l.length
  · obtain ⟨g, cap, rfl, hg, hlc, hcm, hf⟩ := h.row h0
    have HF := Lib.hid hf
    have hcm' := hcm
    unfold maxLen at hcm'
    clear hf h
    go_enter Tryd.func29, Tryd.ntmps29
    go_wp2
    go_loopw [1, 5] (fun sk si wr => ∃ (j K : Nat), j ≤ l.length ∧ si = .int .i64 (j : Int) ∧ sk = .int .i64 (K : Int) ∧ Hid (K = k + j) ∧ K ≤ 300000000 ∧ Filled wr g (cap * 1) 9 (flat encS (markStrL k j)) ∧ Grew (.slice (some ⟨g, 0, none⟩) l.length cap) w wr) (fun _ si _ => l.length - (intOf si).toNat)
    case atStart => exact ⟨0, k, Nat.zero_le _, rfl, rfl, rfl, by omega, HF.out, Grew.refl _ _⟩
    case round =>
      obtain ⟨j, K, hj, rfl, rfl, hK, hKb, hf, hg2⟩ := hrel
      by_cases hlt : j < l.length
      · have hlen : (flat encS (markStrL k j)).length = j := by rw [flatS_len, markStrL_len]
        have HF0 := Lib.hid hf
        have HG0 := Lib.hid hg2
        have HLN := Lib.hid hlen
        clear hlen hf hg2
        go_wp2_with fail
        refine (markText_any K _ (by omega)).mono ?_
        rintro e w2 ⟨rfl, hb2⟩
        have HF2 := Lib.hid (HF0.out.below hb2)
        have HG2 := Lib.hid (HG0.out.trans (Grew.below hb2))
        clear hb2
        obtain ⟨u, hu⟩ := HF2.out.cell (j := j) (by omega)
        have hfr := HF2.out.free j
        have hst := HF2.out.store (.string (mk (markT K))) (by rw [HLN.out]; omega)
        rw [HLN.out, show flat encS (markStrL k j) ++ [Value.string (mk (markT K))] = flat encS (markStrL k (j + 1)) from by rw [markStrL_succ, flat_snoc, ← hK.out]; rfl] at hst
        have HST := Lib.hid hst
        clear hst
        go_wp2
        go_roundw
        case rel => exact ⟨j + 1, K + 1, by omega, by go_num, by go_num, by show _ = _; rw [hK.out]; omega, by have := hK.out; omega, HST.out, HG2.out.set rfl _⟩
        case measure => simp [intOf]; omega
      · have hjl : j = l.length := by omega
        subst hjl
        have HG2 := Lib.hid hg2
        have HF2 := Lib.hid hf
        clear hg2 hf
        go_wp2
        go_ret
        have ho := HF2.out.ownc (base := base) (fun _ => rfl) hg hcm (by rw [markStrL_len]; exact hlc)
        rw [markStrL_len] at ho
        exact ⟨ret_int (by rw [hK.out]), ho, HG2.out⟩
  · have hz : l.length = 0 := by omega
    obtain ⟨A, c, hv, _, _, _⟩ := h.sl
    subst hv
    rw [hz] at h ⊢
    have H := Lib.hid h
    clear h
    go_enter Tryd.func29, Tryd.ntmps29
    go_wp2
    go_loopw [1, 5] (fun sk si wr => si = .int .i64 0 ∧ sk = .int .i64 (k : Int) ∧ w = wr) (fun _ _ _ => 0)
    case atStart => exact ⟨rfl, rfl, rfl⟩
    case round =>
      obtain ⟨rfl, rfl, rfl⟩ := hrel
      go_wp2
      go_ret
      exact ⟨rfl, H.out.empty hz (by rw [markStrL_len]), Grew.refl _ _⟩
end Go.Proofs.YtbpngpcjjinneaaDoor

/- Laws' walks: FnExactSpotOf, FnExactFoldName, FnFoldName. -/
set_option linter.unusedVariables false
namespace Go.Proofs.YtbpngpcjjinneaaDoor
open Go.RowKit
attribute [local go_sem] mk_toList

/-- A law's end: true, and nothing that was there has turned. -/
def LawOk (w : World) (e : Ending) (w' : World) : Prop := e = .returned (.bool true) ∧ Below w.heap.size w w'

set_option maxHeartbeats 2000000 in
set_option maxRecDepth 100000 in
theorem alive_any (w : World) : Calls Tryd.prog 14 #[] w fun e w' => e = .returned (.bool true) ∧ w = w' := by
  have h1 : wordV (bs ⟨#[97, 49]⟩) = true := by decide
  have h2 : wordV (bs ⟨#[49, 97]⟩) = false := by decide
  go_enter Tryd.func14, Tryd.ntmps14
  go_wp2_with (go_at_call 43; refine (iWordValid_any _ _ (by decide)).mono ?_; rintro e w' ⟨rfl, rfl⟩)
  go_ret
  exact ⟨rfl, rfl⟩

/-! ### spots -/
def spotOf (seed many : Int) : Int := if pv seed && inI many 1 16 then prPair seed 17 % many else -1
/-! ### folded names -/
theorem foldName_facts (s : Bs) : foldName (foldName s) = foldName s ∧ (foldName s ≠ [] → (foldName s).length = s.length) := by
  by_cases h : 1 ≤ s.length ∧ s.length ≤ 8 ∧ s.all fineC = true
  · have e : foldName s = s.map foldC := by unfold foldName; rw [if_pos h]
    have hff : ∀ c, fineC c = true → foldC (foldC c) = foldC c ∧ fineC (foldC c) = true := by
      intro c hc
      have h2 : foldC (foldC c) = foldC c := by
        refine foldC_same ?_
        unfold fineC smallC digitC inI at hc
        simp at hc; omega
      refine ⟨h2, ?_⟩
      unfold fineC at hc ⊢
      rw [h2]; exact hc
    have hall := List.all_eq_true.1 h.2.2
    refine ⟨?_, fun _ => by rw [e]; simp⟩
    rw [e]
    have h3 : 1 ≤ (s.map foldC).length ∧ (s.map foldC).length ≤ 8 ∧ (s.map foldC).all fineC = true := by
      refine ⟨by simpa using h.1, by simpa using h.2.1, ?_⟩
      rw [List.all_eq_true]; intro c hc
      obtain ⟨d, hd, rfl⟩ := List.mem_map.1 hc
      exact (hff d (hall d hd)).2
    have e2 : foldName (s.map foldC) = (s.map foldC).map foldC := by unfold foldName; rw [if_pos h3]
    rw [e2, List.map_map]
    refine List.map_congr_left fun c hc => ?_
    exact (hff c (hall c hc)).1
  · have e : foldName s = [] := by unfold foldName; rw [if_neg h]
    rw [e]
    exact ⟨rfl, fun h => absurd rfl h⟩

theorem foldName_le (s : Bs) : (foldName s).length ≤ 8 := by
  unfold foldName; split
  · rename_i h; simpa using h.2.1
  · simp

end Go.Proofs.YtbpngpcjjinneaaDoor

/- FnExactNewArchive, walked. Written by exgen_ar.py. -/
set_option linter.unusedVariables false
namespace Go.Proofs.YtbpngpcjjinneaaDoor
open Go.RowKit

set_option maxHeartbeats 4000000 in
set_option maxRecDepth 100000 in
theorem wFnExactNewArchive (A0 : Option Addr) (n0 c0 : Nat) (w : World) (h0 : PiecesIn w A0 n0 c0) (htz : TzL w) : Calls Tryd.prog 5 #[.slice A0 n0 c0] w (LawOk w) := by
  obtain ⟨l0, rfl, hnc0, hcm0, hs0, hm0⟩ := h0
  have HM0 := Lib.hid hm0
  clear hm0
  have HS0 := Lib.hid hs0
  have hln0 : l0.length ≤ maxLen := Nat.le_trans hnc0 hcm0
  have HLN0 := Lib.hid hln0
  clear hs0 hnc0 hcm0 hln0
  go_enter Tryd.func5, Tryd.ntmps5
  have HB0 := Lib.hid (Below.refl w.heap.size w)
  go_wp2_with fail
  refine (szPieceS_any _ _ l0 1048576 _ (HS0.out.below HB0.out) HLN0.out HM0.out (by omega) (by omega)).mono ?_
  rintro e w1 ⟨r0, rfl, hr0, hg0, hb⟩
  have HB1 := Lib.hid (Below_then HB0.out hb (Nat.le_refl _))
  have hz1 := hb.size
  have HG0 := Lib.hid hg0
  clear hb hg0
  by_cases hn0 : r0 < 0
  case pos =>
    go_wp2
    go_ret
    exact ⟨rfl, HB1.out⟩
  case neg =>
    obtain ⟨hl0, hf0⟩ := HG0.out (by omega)
    have HF0 := Lib.hid hf0
    clear hf0 HG0
    have HTZ := Lib.hid htz
    clear htz
    have hf0 : FitP l0 := fun p hp => Nat.le_trans (HF0.out p hp) (by omega)
    have hS := fun A c w h hc hle => sNewArchive_any A c l0 w h hc hle (by omega) hf0
    have hI := fun A c w h hc ht => iNewArchive_any A c l0 w h hc (by omega) hf0 ht
    unfold NaRes ArV at hS hI
    have hR0 := newA_len l0
    generalize (newA l0).1.ps = Rp at *
    generalize (newA l0).1.vs = Rv at *
    generalize (newA l0).1.op = Ro at *
    generalize (newA l0).2 = Rb at *
    have hRp := hR0.1
    have hRv := hR0.2
    have HCS := Lib.hid hS
    have HCI := Lib.hid hI
    clear hS hI hf0 hR0
    go_wp2_with fail
    refine (toPieceS_any _ _ _ _ (HS0.out.below HB1.out) (by omega)).mono ?_
    rintro e w2 ⟨v, rfl, hown, hb⟩
    have HB2 := Lib.hid (Below_then HB1.out hb (Nat.le_refl _))
    have hz2 := hb.size
    obtain ⟨X_s0, d_s0, rfl, hle_s0, _, _⟩ := hown.sl
    have HU_s0 := Lib.hid hown.up
    have HX_s0 := Lib.hid hown.lo
    have HO_s0 := Lib.hid hown
    clear hb hown
    go_wp2_with fail
    refine (HCS.out _ _ _ HO_s0.out.sl' HO_s0.out.cz hle_s0).mono ?_
    rintro e w3 ⟨v, rfl, ⟨p, q, rfl, hownp, hownq, hap⟩, hb⟩
    replace HO_s0 := Lib.hid (HO_s0.out.below hb)
    have HB3 := Lib.hid (Below_then HB2.out hb (Nat.le_refl _))
    have hz3 := hb.size
    obtain ⟨X_w0p, d_w0p, rfl, hle_w0p, _, _⟩ := hownp.sl
    have HU_w0p := Lib.hid hownp.up
    have HX_w0p := Lib.hid hownp.lo
    have HO_w0p := Lib.hid hownp
    obtain ⟨X_w0v, d_w0v, rfl, hle_w0v, _, _⟩ := hownq.sl
    have HU_w0v := Lib.hid hownq.up
    have HX_w0v := Lib.hid hownq.lo
    have HO_w0v := Lib.hid hownq
    have HAP_w0p := Lib.hid hap
    clear hownp hownq hap
    clear hb
    clear HO_s0 HU_s0 HX_s0
    go_wp2_with fail
    refine (toPieceS_any _ _ _ _ ((HS0.out.below HB3.out).alloc _) (by omega)).mono ?_
    rintro e w4 ⟨v, rfl, hown, hb⟩
    have HR_w0 := Lib.hid (Row3.new.below hb)
    replace HO_w0p := Lib.hid (HO_w0p.out.below (Below_of_alloc hb))
    replace HO_w0v := Lib.hid (HO_w0v.out.below (Below_of_alloc hb))
    have HB4 := Lib.hid (Below_then HB3.out (Below_of_alloc hb) (Nat.le_refl _))
    have hz4 := hb.size
    simp only [World.alloc_size_] at hz4
    obtain ⟨X_x0, d_x0, rfl, hle_x0, _, _⟩ := hown.sl
    have HU_x0 := Lib.hid hown.up
    have HX_x0 := Lib.hid hown.lo
    have HO_x0 := Lib.hid hown
    clear hb hown
    go_wp2_with fail
    refine (HCI.out _ _ _ HO_x0.out.sl' HO_x0.out.cz (HTZ.out.below HB4.out)).mono ?_
    rintro e w5 ⟨v, rfl, ⟨p, q, rfl, hownp, hownq, hap⟩, hb⟩
    replace HR_w0 := Lib.hid (HR_w0.out.below hb)
    replace HO_w0p := Lib.hid (HO_w0p.out.below hb)
    replace HO_w0v := Lib.hid (HO_w0v.out.below hb)
    replace HO_x0 := Lib.hid (HO_x0.out.below hb)
    have HB5 := Lib.hid (Below_then HB4.out hb (Nat.le_refl _))
    have hz5 := hb.size
    obtain ⟨X_g0p, d_g0p, rfl, hle_g0p, _, _⟩ := hownp.sl
    have HU_g0p := Lib.hid hownp.up
    have HX_g0p := Lib.hid hownp.lo
    have HO_g0p := Lib.hid hownp
    obtain ⟨X_g0v, d_g0v, rfl, hle_g0v, _, _⟩ := hownq.sl
    have HU_g0v := Lib.hid hownq.up
    have HX_g0v := Lib.hid hownq.lo
    have HO_g0v := Lib.hid hownq
    have HAP_g0p := Lib.hid hap
    clear hownp hownq hap
    clear hb
    obtain ⟨⟨x0_w0, x1_w0, x2_w0⟩, _, _⟩ := (HR_w0.out.below ((Below.refl _ _).alloc (Nat.le_refl _) (.cells #[.slice X_g0p Rp.length d_g0p, .int .i64 Ro, .slice X_g0v Rv.length d_g0v] 40)))
    go_wp2_with fail
    refine (eqArchive_same _ _ _ _ _ _ _ _ Rp Rv _ _ (HO_g0p.out.alloc _).sl' (HO_w0p.out.alloc _).sl' (by omega) (HO_g0v.out.alloc _).sl' (HO_w0v.out.alloc _).sl' (by omega)).mono ?_
    rintro e w6 ⟨rfl, hb⟩
    have HR_g0 := Lib.hid (Row3.new.below hb)
    replace HR_w0 := Lib.hid (HR_w0.out.below (Below_of_alloc hb))
    replace HO_w0p := Lib.hid (HO_w0p.out.below (Below_of_alloc hb))
    replace HO_w0v := Lib.hid (HO_w0v.out.below (Below_of_alloc hb))
    replace HO_x0 := Lib.hid (HO_x0.out.below (Below_of_alloc hb))
    replace HO_g0p := Lib.hid (HO_g0p.out.below (Below_of_alloc hb))
    replace HO_g0v := Lib.hid (HO_g0v.out.below (Below_of_alloc hb))
    have HB6 := Lib.hid (Below_then HB5.out (Below_of_alloc hb) (Nat.le_refl _))
    have hz6 := hb.size
    simp only [World.alloc_size_] at hz6
    clear x0_w0 x1_w0 x2_w0
    clear hb
    go_wp2_with fail
    refine (toPieceS_any _ _ _ _ (HS0.out.below HB6.out) (by omega)).mono ?_
    rintro e w7 ⟨v, rfl, hown, hb⟩
    replace HR_w0 := Lib.hid (HR_w0.out.below hb)
    replace HR_g0 := Lib.hid (HR_g0.out.below hb)
    replace HO_w0p := Lib.hid (HO_w0p.out.below hb)
    replace HO_w0v := Lib.hid (HO_w0v.out.below hb)
    replace HO_x0 := Lib.hid (HO_x0.out.below hb)
    replace HO_g0p := Lib.hid (HO_g0p.out.below hb)
    replace HO_g0v := Lib.hid (HO_g0v.out.below hb)
    have HB7 := Lib.hid (Below_then HB6.out hb (Nat.le_refl _))
    have hz7 := hb.size
    obtain ⟨X_y0, d_y0, rfl, hle_y0, _, _⟩ := hown.sl
    have HU_y0 := Lib.hid hown.up
    have HX_y0 := Lib.hid hown.lo
    have HO_y0 := Lib.hid hown
    clear hb hown
    go_wp2_with fail
    refine (eqPieceS_same _ _ _ _ l0 _ HO_x0.out.sl' HO_y0.out.sl' (by omega)).mono ?_
    rintro e w8 ⟨rfl, hb⟩
    replace HR_w0 := Lib.hid (HR_w0.out.below hb)
    replace HR_g0 := Lib.hid (HR_g0.out.below hb)
    replace HO_w0p := Lib.hid (HO_w0p.out.below hb)
    replace HO_w0v := Lib.hid (HO_w0v.out.below hb)
    replace HO_x0 := Lib.hid (HO_x0.out.below hb)
    replace HO_g0p := Lib.hid (HO_g0p.out.below hb)
    replace HO_g0v := Lib.hid (HO_g0v.out.below hb)
    replace HO_y0 := Lib.hid (HO_y0.out.below hb)
    have HB8 := Lib.hid (Below_then HB7.out hb (Nat.le_refl _))
    have hz8 := hb.size
    clear hb
    clear HO_y0 HU_y0 HX_y0
    go_wp2_with fail
    refine (markPieceS_any _ _ l0 1 _ HO_x0.out (by omega) (by omega)).mono ?_
    rintro e w9 ⟨rfl, hown, hgr⟩
    have HB9 := Lib.hid (hgr.under HB8.out (fun g hg => by have h1 := HX_x0.out g hg; have h2 := HB3.out.size; (try simp only [World.alloc_size_] at h1); omega))
    have hz9 := hgr.size
    replace HR_w0 := Lib.hid (HR_w0.out.grew hgr (fun e => by have h1 := HU_x0.out _ e; have h2 := HX_x0.out _ e; (try simp only [World.alloc_size_] at h1 h2); omega))
    replace HR_g0 := Lib.hid (HR_g0.out.grew hgr (fun e => by have h1 := HU_x0.out _ e; have h2 := HX_x0.out _ e; (try simp only [World.alloc_size_] at h1 h2); omega))
    replace HO_w0p := Lib.hid (HO_w0p.out.grew hgr (fun g h1 h2 => by have a1 := HU_x0.out g h2; have a2 := HX_x0.out g h2; have a3 := HU_w0p.out g h1; have a4 := HX_w0p.out g h1; (try simp only [World.alloc_size_] at a1 a2 a3 a4); omega))
    replace HO_w0v := Lib.hid (HO_w0v.out.grew hgr (fun g h1 h2 => by have a1 := HU_x0.out g h2; have a2 := HX_x0.out g h2; have a3 := HU_w0v.out g h1; have a4 := HX_w0v.out g h1; (try simp only [World.alloc_size_] at a1 a2 a3 a4); omega))
    replace HO_g0p := Lib.hid (HO_g0p.out.grew hgr (fun g h1 h2 => by have a1 := HU_x0.out g h2; have a2 := HX_x0.out g h2; have a3 := HU_g0p.out g h1; have a4 := HX_g0p.out g h1; (try simp only [World.alloc_size_] at a1 a2 a3 a4); omega))
    replace HO_g0v := Lib.hid (HO_g0v.out.grew hgr (fun g h1 h2 => by have a1 := HU_x0.out g h2; have a2 := HX_x0.out g h2; have a3 := HU_g0v.out g h1; have a4 := HX_g0v.out g h1; (try simp only [World.alloc_size_] at a1 a2 a3 a4); omega))
    clear HO_x0 HU_x0 HX_x0
    clear hgr hown
    generalize hK0 : 1 + 2 * l0.length = K0 at *
    have hKb0 : K0 ≤ 10000000 := by omega
    have hKz0 : (0 : Int) ≤ (K0 : Int) := by omega
    have HK0 := Lib.hid hK0
    clear hK0
    obtain ⟨⟨x0_g0, x1_g0, x2_g0⟩, _, _⟩ := HR_g0.out
    obtain ⟨⟨x0_w0, x1_w0, x2_w0⟩, _, _⟩ := HR_w0.out
    go_wp2_with fail
    refine (eqArchive_same _ _ _ _ _ _ _ _ Rp Rv _ _ HO_g0p.out.sl' HO_w0p.out.sl' (by omega) HO_g0v.out.sl' HO_w0v.out.sl' (by omega)).mono ?_
    rintro e w10 ⟨rfl, hb⟩
    replace HR_w0 := Lib.hid (HR_w0.out.below hb)
    replace HR_g0 := Lib.hid (HR_g0.out.below hb)
    replace HO_w0p := Lib.hid (HO_w0p.out.below hb)
    replace HO_w0v := Lib.hid (HO_w0v.out.below hb)
    replace HO_g0p := Lib.hid (HO_g0p.out.below hb)
    replace HO_g0v := Lib.hid (HO_g0v.out.below hb)
    have HB10 := Lib.hid (Below_then HB9.out hb (Nat.le_refl _))
    have hz10 := hb.size
    clear x0_g0 x1_g0 x2_g0 x0_w0 x1_w0 x2_w0
    clear hb
    obtain ⟨⟨x0_g0, x1_g0, x2_g0⟩, _, _⟩ := HR_g0.out
    go_wp2_with fail
    refine (markArchive_any _ _ _ _ _ Rp Rv _ 1 _ HO_g0p.out (HO_g0v.out.mono (Nat.le_refl _)) HAP_g0p.out (by omega) (by omega) (by omega)).mono ?_
    rintro e w11 ⟨rfl, hownp, hownq, wm11, hg1, hg2⟩
    have HB11a := Lib.hid (hg1.under HB10.out (fun g hg => by have h1 := HX_g0p.out g hg; have h2 := HB4.out.size; (try simp only [World.alloc_size_] at h1); omega))
    have HB11 := Lib.hid (hg2.under HB11a.out (fun g hg => by have h1 := HX_g0v.out g hg; have h2 := HB4.out.size; (try simp only [World.alloc_size_] at h1); omega))
    have hz11 := Nat.le_trans hg1.size hg2.size
    replace HR_w0 := Lib.hid (HR_w0.out.grew hg1 (fun e => by have h1 := HU_g0p.out _ e; have h2 := HX_g0p.out _ e; (try simp only [World.alloc_size_] at h1 h2); omega))
    replace HR_g0 := Lib.hid (HR_g0.out.grew hg1 (fun e => by have h1 := HU_g0p.out _ e; have h2 := HX_g0p.out _ e; (try simp only [World.alloc_size_] at h1 h2); omega))
    replace HO_w0p := Lib.hid (HO_w0p.out.grew hg1 (fun g h1 h2 => by have a1 := HU_g0p.out g h2; have a2 := HX_g0p.out g h2; have a3 := HU_w0p.out g h1; have a4 := HX_w0p.out g h1; (try simp only [World.alloc_size_] at a1 a2 a3 a4); omega))
    replace HO_w0v := Lib.hid (HO_w0v.out.grew hg1 (fun g h1 h2 => by have a1 := HU_g0p.out g h2; have a2 := HX_g0p.out g h2; have a3 := HU_w0v.out g h1; have a4 := HX_w0v.out g h1; (try simp only [World.alloc_size_] at a1 a2 a3 a4); omega))
    replace HR_w0 := Lib.hid (HR_w0.out.grew hg2 (fun e => by have h1 := HU_g0v.out _ e; have h2 := HX_g0v.out _ e; (try simp only [World.alloc_size_] at h1 h2); omega))
    replace HR_g0 := Lib.hid (HR_g0.out.grew hg2 (fun e => by have h1 := HU_g0v.out _ e; have h2 := HX_g0v.out _ e; (try simp only [World.alloc_size_] at h1 h2); omega))
    replace HO_w0p := Lib.hid (HO_w0p.out.grew hg2 (fun g h1 h2 => by have a1 := HU_g0v.out g h2; have a2 := HX_g0v.out g h2; have a3 := HU_w0p.out g h1; have a4 := HX_w0p.out g h1; (try simp only [World.alloc_size_] at a1 a2 a3 a4); omega))
    replace HO_w0v := Lib.hid (HO_w0v.out.grew hg2 (fun g h1 h2 => by have a1 := HU_g0v.out g h2; have a2 := HX_g0v.out g h2; have a3 := HU_w0v.out g h1; have a4 := HX_w0v.out g h1; (try simp only [World.alloc_size_] at a1 a2 a3 a4); omega))
    replace HO_g0p := Lib.hid hownp
    replace HO_g0v := Lib.hid hownq
    clear hownp hownq hg1 hg2
    clear x0_g0 x1_g0 x2_g0
    generalize hM0 : 1 + 2 * Rp.length + 3 * Rv.length = M0 at *
    have hMb0 : M0 ≤ 10000000 := by omega
    have hMz0 : (0 : Int) ≤ (M0 : Int) := by omega
    have HMM0 := Lib.hid hM0
    clear hM0
    obtain ⟨⟨x0_g0, x1_g0, x2_g0⟩, _, _⟩ := HR_g0.out
    go_wp2_with fail
    refine (heldArchive_any _ _ _ _ Rp.length Rv.length _ 1 _ HO_g0p.out.slm HO_g0v.out.slm (by omega) (by omega) (by omega)).mono ?_
    rintro e w12 ⟨rfl, hb⟩
    replace HR_w0 := Lib.hid (HR_w0.out.below hb)
    replace HR_g0 := Lib.hid (HR_g0.out.below hb)
    replace HO_w0p := Lib.hid (HO_w0p.out.below hb)
    replace HO_w0v := Lib.hid (HO_w0v.out.below hb)
    replace HO_g0p := Lib.hid (HO_g0p.out.below hb)
    replace HO_g0v := Lib.hid (HO_g0v.out.below hb)
    have HB12 := Lib.hid (Below_then HB11.out hb (Nat.le_refl _))
    have hz12 := hb.size
    clear x0_g0 x1_g0 x2_g0
    clear hb
    rw [HMM0.out]
    go_wp2_with fail
    refine (toPieceS_any _ _ _ _ (HS0.out.below HB12.out) (by omega)).mono ?_
    rintro e w13 ⟨v, rfl, hown, hb⟩
    replace HR_w0 := Lib.hid (HR_w0.out.below hb)
    replace HR_g0 := Lib.hid (HR_g0.out.below hb)
    replace HO_w0p := Lib.hid (HO_w0p.out.below hb)
    replace HO_w0v := Lib.hid (HO_w0v.out.below hb)
    replace HO_g0p := Lib.hid (HO_g0p.out.below hb)
    replace HO_g0v := Lib.hid (HO_g0v.out.below hb)
    have HB13 := Lib.hid (Below_then HB12.out hb (Nat.le_refl _))
    have hz13 := hb.size
    obtain ⟨X_z0, d_z0, rfl, hle_z0, _, _⟩ := hown.sl
    have HU_z0 := Lib.hid hown.up
    have HX_z0 := Lib.hid hown.lo
    have HO_z0 := Lib.hid hown
    clear hb hown
    go_wp2_with fail
    refine (HCI.out _ _ _ HO_z0.out.sl' HO_z0.out.cz (HTZ.out.below HB13.out)).mono ?_
    rintro e w14 ⟨v, rfl, ⟨p, q, rfl, hownp, hownq, hap⟩, hb⟩
    replace HR_w0 := Lib.hid (HR_w0.out.below hb)
    replace HR_g0 := Lib.hid (HR_g0.out.below hb)
    replace HO_w0p := Lib.hid (HO_w0p.out.below hb)
    replace HO_w0v := Lib.hid (HO_w0v.out.below hb)
    replace HO_g0p := Lib.hid (HO_g0p.out.below hb)
    replace HO_g0v := Lib.hid (HO_g0v.out.below hb)
    replace HO_z0 := Lib.hid (HO_z0.out.below hb)
    have HB14 := Lib.hid (Below_then HB13.out hb (Nat.le_refl _))
    have hz14 := hb.size
    obtain ⟨X_h0p, d_h0p, rfl, hle_h0p, _, _⟩ := hownp.sl
    have HU_h0p := Lib.hid hownp.up
    have HX_h0p := Lib.hid hownp.lo
    have HO_h0p := Lib.hid hownp
    obtain ⟨X_h0v, d_h0v, rfl, hle_h0v, _, _⟩ := hownq.sl
    have HU_h0v := Lib.hid hownq.up
    have HX_h0v := Lib.hid hownq.lo
    have HO_h0v := Lib.hid hownq
    have HAP_h0p := Lib.hid hap
    clear hownp hownq hap
    clear hb
    clear HO_z0 HU_z0 HX_z0
    obtain ⟨⟨x0_w0, x1_w0, x2_w0⟩, _, _⟩ := (HR_w0.out.below ((Below.refl _ _).alloc (Nat.le_refl _) (.cells #[.slice X_h0p Rp.length d_h0p, .int .i64 Ro, .slice X_h0v Rv.length d_h0v] 40)))
    go_wp2_with fail
    refine (eqArchive_same _ _ _ _ _ _ _ _ Rp Rv _ _ (HO_h0p.out.alloc _).sl' (HO_w0p.out.alloc _).sl' (by omega) (HO_h0v.out.alloc _).sl' (HO_w0v.out.alloc _).sl' (by omega)).mono ?_
    rintro e w15 ⟨rfl, hb⟩
    have HR_h0 := Lib.hid (Row3.new.below hb)
    replace HR_w0 := Lib.hid (HR_w0.out.below (Below_of_alloc hb))
    replace HR_g0 := Lib.hid (HR_g0.out.below (Below_of_alloc hb))
    replace HO_w0p := Lib.hid (HO_w0p.out.below (Below_of_alloc hb))
    replace HO_w0v := Lib.hid (HO_w0v.out.below (Below_of_alloc hb))
    replace HO_g0p := Lib.hid (HO_g0p.out.below (Below_of_alloc hb))
    replace HO_g0v := Lib.hid (HO_g0v.out.below (Below_of_alloc hb))
    replace HO_h0p := Lib.hid (HO_h0p.out.below (Below_of_alloc hb))
    replace HO_h0v := Lib.hid (HO_h0v.out.below (Below_of_alloc hb))
    have HB15 := Lib.hid (Below_then HB14.out (Below_of_alloc hb) (Nat.le_refl _))
    have hz15 := hb.size
    simp only [World.alloc_size_] at hz15
    clear x0_w0 x1_w0 x2_w0
    clear hb
    obtain ⟨⟨x0_g0, x1_g0, x2_g0⟩, _, _⟩ := HR_g0.out
    go_wp2_with fail
    refine (heldArchive_any _ _ _ _ Rp.length Rv.length _ 1 _ HO_g0p.out.slm HO_g0v.out.slm (by omega) (by omega) (by omega)).mono ?_
    rintro e w16 ⟨rfl, hb⟩
    replace HR_w0 := Lib.hid (HR_w0.out.below hb)
    replace HR_g0 := Lib.hid (HR_g0.out.below hb)
    replace HR_h0 := Lib.hid (HR_h0.out.below hb)
    replace HO_w0p := Lib.hid (HO_w0p.out.below hb)
    replace HO_w0v := Lib.hid (HO_w0v.out.below hb)
    replace HO_g0p := Lib.hid (HO_g0p.out.below hb)
    replace HO_g0v := Lib.hid (HO_g0v.out.below hb)
    replace HO_h0p := Lib.hid (HO_h0p.out.below hb)
    replace HO_h0v := Lib.hid (HO_h0v.out.below hb)
    have HB16 := Lib.hid (Below_then HB15.out hb (Nat.le_refl _))
    have hz16 := hb.size
    clear x0_g0 x1_g0 x2_g0
    clear hb
    rw [HMM0.out]
    go_wp2
    go_ret
    exact ⟨rfl, HB16.out⟩
end Go.Proofs.YtbpngpcjjinneaaDoor

/- The frame of a law whose row lists variables of the library: the world's shape is kept beside the condition. -/
set_option linter.unusedVariables false
namespace Go.Proofs.YtbpngpcjjinneaaDoor
open Go Go.ChangeShapes Go.WideShapes
variable {H : Type} {enc : TypeId × Value → H}
theorem returns_and_shaped {a : Assume} {C : Checked} {os : Os} {f : FuncId} {fn : Func} {s : ChangeSpec} {conds : List PathCond} {apart fresh handsOn again : Bool} {X : World → Array Value → Prop}
    (hX : ∀ (w w' : World) (args : Array Value), w.heap = w'.heap → X w args → X w' args)
    (own : ownKnob C.prog.godebug = none) (started : os.Started) (noInit : C.prog.inits.idxOf? f = none) (hfn : C.prog.funcs[f]? = some fn)
    (witness : ∃ (w : World) (tape : Tape) (i : Input), w.os = os ∧ (w.forCall tape i).Shaped C.prog ∧ i.vars = [] ∧ Input.okWide C.prog (w.forCall tape i) .any w.heap.size f i ∧
      ((s.pre enc C.prog fn conds apart (w.forCall tape i).memory i.args ∧ X (w.forCall tape i).memory i.args) ∧ sizedMet enc C.prog fn (OpenSpec.ofChange s) apart (w.forCall tape i).memory i.args) ∧ a.holds C.prog (lone (Frame.enter C.prog f i.args .normal) [] (w.forCall tape i)))
    (contract : ∀ (W : World) (base : Nat) (args : Array Value) (ds gs : List (DataW H)) (before : List MemPlace),
      (∀ (j : Nat) t v, fn.params[j]? = some t → args[j]? = some v → Value.okWide C.prog W .any base t v) →
      DataW.Whole enc C.prog fn.params.toList s.vars apart W args.toList ds gs before → W.ShapedOpen C.prog → X W args →
      Calls C.prog f args W fun e W' => ∃ v, e = .returned v ∧ s.post enc C.prog fn apart fresh handsOn again W args v W') :
    ReturnsInHanded a C os f .any (fun w args => (s.pre enc C.prog fn conds apart w args ∧ X w args) ∧ sizedMet enc C.prog fn (OpenSpec.ofChange s) apart w args) (s.post enc C.prog fn apart fresh handsOn again) := by
  refine returnsInHanded_of_calls own started noInit witness ?_
  intro w tape i _ hsh _ hok hpre hholds
  obtain ⟨_, _, _, fn', hfn', _, _, _, _, hval⟩ := hok
  have e : fn' = fn := Option.some.inj (hfn'.symm.trans hfn)
  subst e
  obtain ⟨⟨⟨ds, gs, before, hw, hc⟩, hx⟩, hz⟩ := hpre
  have hw' := DataW.Whole.of_heap (w' := w.forCall tape i) (by rfl) hw
  refine (contract (w.forCall tape i) w.heap.size i.args ds gs before hval hw' hsh (hX _ _ _ (by rfl) hx)).mono fun e W' ⟨v, he, hp⟩ => ?_
  subst he
  exact ChangeSpec.post_blind hp
end Go.Proofs.YtbpngpcjjinneaaDoor

/- What the listed table of math/bits holds. -/
set_option linter.unusedVariables false
namespace Go.Proofs.YtbpngpcjjinneaaDoor
open Go Go.ChangeShapes Go.WideShapes
set_option maxRecDepth 100000 in
theorem tz_laid {W : World} (h : laidMetH Tryd.prog [("math/bits.deBruijn64tab", Rows.laid_math_bits_deBruijn64tab)] W) : TzL W := by
  rw [MakeChecks.laidMetH_plain _ _ _ (by kernel_rfl)] at h
  obtain ⟨ps, ⟨g, t, cs, fuel, p, q, hg, ht, hv, hd, _, _⟩, _, _⟩ := h
  obtain rfl := Option.some.inj ((show Tryd.prog.globalNamed "math/bits.deBruijn64tab" = some 5 by kernel_rfl).symm.trans hg)
  obtain rfl := Option.some.inj ((show (Tryd.prog.globals[5]?).map (·.type) = some 172 by kernel_rfl).symm.trans ht)
  obtain ⟨xs, m, _, ex, _, hl, hel⟩ := DataW.trod_array Tryd.underlying172 hd
  have c5 : Tryd.prog.cellsOf 5 = 1 := by kernel_rfl
  have hE := hel 15 (by omega)
  rw [c5, Nat.mul_one, List.getElem?_eq_getElem (by omega)] at hE
  obtain ⟨z, e1, e2, _⟩ := DataW.trod_int Tryd.underlying5 hE
  have e3 := (Prod.mk.inj ex).1
  unfold Rows.laid_math_bits_deBruijn64tab at e3
  have e4 : (xs.map (·.1))[15]? = some (.lit (.int .u8 4)) := by rw [← DataW.agg.inj e3]; rfl
  rw [List.getElem?_map, List.getElem?_eq_getElem (by omega : 15 < xs.length), e2] at e4
  have hz : z = 4 := by simpa using e4
  unfold TzL
  rw [World.var?_cell hg hv 15, ← hz]
  have : cs.toList[15]? = some (.int .u8 z) := by
    have h0 : ((cs.toList.drop 15).take 1)[0]? = some (.int .u8 z) := by rw [e1]; rfl
    simpa using h0
  simpa using this
end Go.Proofs.YtbpngpcjjinneaaDoor
