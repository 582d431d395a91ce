/- Drawn inputs: lists of texts. -/
import Derived.Test.YthbdcmaloojngaaDt
import Derived.Test.YthbdcmaloojngaaSa
import Derived.Test.YthbdcmaloojngaaSl
import Derived.Test.YthbdcmaloojngaaDr4
set_option linter.unusedVariables false
namespace Go.Proofs.Ythbdcmaloojngaa
open Go.RowKit

def otherT : ByteArray := ⟨#[113, 117, 105, 116, 101, 32, 111, 116, 104, 101, 114]⟩
/-- Few and short texts; where they have a root, none has the print of that one text. -/
def TextsP (l : List ByteArray) : Prop := l.length ≤ 17 ∧ (∀ s ∈ l, s.size ≤ 60) ∧ (leavesV (prints l) = true → ∀ s ∈ l, prOf (bs s) ≠ prOf (bs otherT))
theorem own_of_heap {α : Type} {enc : α → List Value} {W : World} {b base size : Nat} {E : TypeId} {l : List α} (he : ∀ x, (enc x).length = size) (h : W.heap[b]? = some (.cells (flat enc l).toArray E (0, 0))) (hb : base ≤ b) (hm : l.length ≤ maxLen) :
    Own W base E size enc (.slice (some ⟨b, 0, none⟩) l.length l.length) l := by
  refine Filled.own ⟨(flat enc l).toArray, h, ?_, ?_, ?_⟩ he hb hm
  · simp [flat_length he]
  · simp [flat_length he]
  · simp
theorem TextsP.bad {l : List ByteArray} (h1 : l.length ≤ 17) (h2 : ∀ s ∈ l, s.size ≤ 60) (h3 : leavesV (prints l) = false) : TextsP l := ⟨h1, h2, fun h => by rw [h3] at h; cases h⟩
/-- A slice of texts of the call's own. -/
def GoodT (B : Nat) (v : Value) (W : World) : Prop := ∃ A n c, v = .slice A n c ∧ ∃ l : List ByteArray, Own W B 9 1 encS v l ∧ TextsP l
theorem GoodT.only {B g : Nat} {v : Value} {W W' : World} (h : GoodT B v W) (ho : Only g W W') (hg : g < B) : GoodT B v W' := by
  obtain ⟨A, n, c, e, l, h1, h2⟩ := h
  exact ⟨A, n, c, e, l, h1.only ho hg, h2⟩
theorem make17 (w : World) : (Instr.makeSlice 23 (.int .i64 17) (.int .i64 17)).run Try.prog w = .ok (.slice (some ⟨w.heap.size, 0, none⟩) 17 17) (w.alloc (.cells (Array.replicate 17 (.string ⟨#[]⟩)) 9)) := by kernel_rfl
theorem good_none {B : Nat} {W : World} (h : B ≤ W.heap.size) : GoodT B (.slice (some ⟨W.heap.size, 0, none⟩) 0 0) (W.alloc (.cells #[] 9)) :=
  ⟨_, _, _, rfl, [], own_of_heap (l := []) (fun _ => rfl) (heap_alloc_new W _) h (by unfold maxLen; simp), TextsP.bad (by simp) (by simp) (by decide)⟩
theorem good_one {B : Nat} {W : World} (h : B ≤ W.heap.size) : GoodT B (.slice (some ⟨W.heap.size, 0, none⟩) 1 1) (W.alloc (.cells #[.string ⟨#[10]⟩] 9)) :=
  ⟨_, _, _, rfl, [⟨#[10]⟩], own_of_heap (l := [⟨#[10]⟩]) (fun _ => rfl) (heap_alloc_new W _) h (by unfold maxLen; simp), TextsP.bad (by simp) (by intro s hs; simp at hs; subst hs; decide) (by decide +kernel)⟩
theorem good_many {B : Nat} {W : World} (h : B ≤ W.heap.size) : GoodT B (.slice (some ⟨W.heap.size, 0, none⟩) 17 17) (W.alloc (.cells (Array.replicate 17 (.string ⟨#[]⟩)) 9)) :=
  ⟨_, _, _, rfl, List.replicate 17 ⟨#[]⟩, own_of_heap (l := List.replicate 17 ⟨#[]⟩) (fun _ => rfl) (heap_alloc_new W _) h (by unfold maxLen; simp), TextsP.bad (by simp) (by intro s hs; rw [List.mem_replicate] at hs; rw [hs.2]; decide) (leavesV_len (by rw [prints_len]; simp))⟩
structure TsJ (B g p1 : Nat) (w1 : World) (d : Nat → Bool) (u4 u24 u25 u26 u27 u28 u29 u30 u31 : Value) (W : World) : Prop where
  o : Only g w1 W
  r : Rdr W g (if d 5 then p1 + 1 else p1)
  c0 : d 0 = true → GoodT B u24 W
  c1 : d 1 = true → GoodT B u25 W
  c2 : d 2 = true → GoodT B u26 W
  c3 : d 3 = true → ∃ (b : Nat) (x y z : Value), u27 = .slice (some ⟨b, 0, none⟩) 3 3 ∧ GoodT B x W ∧ GoodT B y W ∧ GoodT B z W ∧ Blk W g b #[x, y, z] 23
  c4 : d 4 = true → u28 = .pointer (some ⟨g, 0, none⟩)
  c5 : d 5 = true → ∃ x : Nat, u29 = .int .i64 (x : Int) ∧ x < 3
  c6 : d 6 = true → ∃ (b k : Nat) (x y z : Value), u30 = .pointer (some ⟨b, k, none⟩) ∧ k < 3 ∧ GoodT B x W ∧ GoodT B y W ∧ GoodT B z W ∧ Blk W g b #[x, y, z] 23
  c7 : d 7 = true → GoodT B u31 W
  c8 : d 8 = true → GoodT B u4 W
theorem TsJ.world {B g p1 q : Nat} {w1 : World} {d d' : Nat → Bool} {u4 u24 u25 u26 u27 u28 u29 u30 u31 : Value} {W W' : World} (hg : g < B) (h : TsJ B g p1 w1 d u4 u24 u25 u26 u27 u28 u29 u30 u31 W) (ho : Only g W W') (hr : Rdr W' g q) :
    Only g w1 W' ∧ (d 0 = true → GoodT B u24 W') ∧ (d 1 = true → GoodT B u25 W') ∧ (d 2 = true → GoodT B u26 W') ∧
    (d 3 = true → ∃ (b : Nat) (x y z : Value), u27 = .slice (some ⟨b, 0, none⟩) 3 3 ∧ GoodT B x W' ∧ GoodT B y W' ∧ GoodT B z W' ∧ Blk W' g b #[x, y, z] 23) ∧
    (d 6 = true → ∃ (b k : Nat) (x y z : Value), u30 = .pointer (some ⟨b, k, none⟩) ∧ k < 3 ∧ GoodT B x W' ∧ GoodT B y W' ∧ GoodT B z W' ∧ Blk W' g b #[x, y, z] 23) ∧
    (d 7 = true → GoodT B u31 W') ∧ (d 8 = true → GoodT B u4 W') :=
  ⟨h.o.trans ho, fun e => (h.c0 e).only ho hg, fun e => (h.c1 e).only ho hg, fun e => (h.c2 e).only ho hg,
    fun e => let ⟨b, x, y, z, h1, h2, h3, h4, h5⟩ := h.c3 e; ⟨b, x, y, z, h1, h2.only ho hg, h3.only ho hg, h4.only ho hg, h5.only ho⟩,
    fun e => let ⟨b, k, x, y, z, h0, h1, h2, h3, h4, h5⟩ := h.c6 e; ⟨b, k, x, y, z, h0, h1, h2.only ho hg, h3.only ho hg, h4.only ho hg, h5.only ho⟩,
    fun e => (h.c7 e).only ho hg, fun e => (h.c8 e).only ho hg⟩
theorem pick3_good {B : Nat} {W : World} {k : Nat} {x y z : Value} (hk : k < 3) (hx : GoodT B x W) (hy : GoodT B y W) (hz : GoodT B z W) : GoodT B (pick3 k x y z) W := by
  match k, hk with
  | 0, _ => exact hx
  | 1, _ => exact hy
  | 2, _ => exact hz
set_option maxHeartbeats 8000000 in
set_option maxRecDepth 100000 in
theorem l20Texts_any (n : Int) (g p : Nat) (w : World) (hr : Rdr w g p) (hp : p ≤ 700000000) (hn : n ≤ 1000000000) :
    Calls Try.prog 34 #[.pointer (some ⟨g, 0, none⟩), .int .i64 n] w (DrewSl 9 1 encS TextsP 60 w g p) := by
  have HR := Lib.hid hr
  clear hr
  go_enter Try.func34, Try.ntmps34
  go_wp2_with fail
  refine (l20Text_zero _ _ _ HR.out (by omega)).mono ?_
  rintro e w1 ⟨v, p1, rfl, ⟨s, rfl, hs60, hst, hne⟩, ho1, hr1, hp1⟩
  have HG := Lib.hid HR.out.lt
  have hW1 := (own_of_heap (W := w1.alloc (.cells #[.string s] 9)) (base := w.heap.size) (enc := encS) (l := [s]) (fun _ => rfl) (heap_alloc_new w1 _) ho1.size (by unfold maxLen; simp))
  have HW1 := Lib.hid hW1
  have HR1 := Lib.hid (hr1.alloc (.cells #[.string s] 9))
  have HO1 := Lib.hid (ho1.alloc (.cells #[.string s] 9))
  have HS := Lib.hid (And.intro hs60 hne)
  clear hr1 ho1 hW1 hs60 hst hne
  go_wp2_with fail
  refine (pick_any _ _ _ _ HR1.out (by omega) (by omega)).mono ?_
  rintro e w2 ⟨x, rfl, hx, ho2, hr2⟩
  have hx' : x ≤ 8 := by omega
  have HR2 := Lib.hid hr2
  have HO2 := Lib.hid (HO1.out.trans ho2)
  have HW2 := Lib.hid (HW1.out.only ho2 HG.out)
  clear hr2 ho2 hx
  go_wp2_with fail
  go_loopw [5, 6] (fun v i wr => ∃ (k : Nat) (acc : List ByteArray) (p1 : Nat), k ≤ 8 ∧ i = .int .i64 k ∧ acc.length + k ≤ 9 ∧ Hid (∀ s ∈ acc, s.size ≤ 60 ∧ prOf (bs s) ≠ prOf (bs otherT)) ∧ Own wr w.heap.size 9 1 encS v acc ∧ Only g w wr ∧ Rdr wr g p1 ∧ p1 + 2 * k ≤ p + 40) (fun _ i _ => (intOf i).toNat)
  case atStart => exact ⟨x, [s], p1 + 1, hx', rfl, by simp; omega, (by intro t ht; simp at ht; subst ht; exact HS.out), HW2.out, HO2.out, HR2.out, by omega⟩
  case round =>
    obtain ⟨k, acc, q, hk, rfl, hak, hall, hown, ho, hr1, hp1'⟩ := hrel
    have HRQ := Lib.hid hr1
    have HOQ := Lib.hid ho
    have HWQ := Lib.hid hown
    clear hr1 ho hown
    by_cases hk0 : 0 < k
    · go_wp2_with (first
        | (go_at_call 47; refine (l20Text_zero _ _ _ HRQ.out (by omega)).mono ?_; rintro e w3 ⟨v3, p3, rfl, ⟨t, rfl, ht, _, hne⟩, ho3, hr3, hp3⟩; have HR3 := Lib.hid hr3; have HO3 := Lib.hid (HOQ.out.trans ho3); have HW3 := Lib.hid (HWQ.out.only ho3 HG.out); have HY := Lib.hid (And.intro ht hne); clear hr3 ho3 ht hne)
        | (at_builtin; refine app_str_only (y := t) rfl rfl rfl rfl HW3.out HO3.out (by omega) ?_; intro v4 w4 hown4 hb4))
      go_roundw
      case rel => exact ⟨k - 1, _, p3, by omega, by go_num, by simp; omega, (by
        intro q hq
        rw [List.mem_append, List.mem_singleton] at hq
        rcases hq with hq | rfl
        · exact hall.out q hq
        · exact HY.out), hown4, HO3.out.and_below hb4, HR3.out.under HG.out hb4, by omega⟩
      case measure => simp [intOf]; omega
    · have hk00 : k = 0 := by omega
      subst hk00
      go_wp2_with fail
      refine (odd_any _ _ _ _ HRQ.out (by omega) hn).mono ?_
      rintro e w4 ⟨b, p4, rfl, ho4, hr4, hp4⟩
      have HR4 := Lib.hid hr4
      have HO4 := Lib.hid (HOQ.out.trans ho4)
      have HW4 := Lib.hid (HWQ.out.only ho4 HG.out)
      clear hr4 ho4
      cases b
      · go_wp2_with fail
        go_ret
        exact ⟨_, _, _, rfl, HW4.out, ⟨by omega, fun s hs => (hall.out s hs).1, fun _ s hs => (hall.out s hs).2⟩, HO4.out, HR4.out, by omega⟩
      · have hzz : w.heap.size ≤ w4.heap.size := HO4.out.size
        go_wp2_with fail
        refine wp_region_inv (by kernel_rfl) (by kernel_rfl) (fun a0 d a W => ∃ u4 u24 u25 u26 u27 u28 u29 u30 u31 y1 y2 y3 y5 y6 y7 y8 y9 y10 y11 y12 y13 y14 y15 y16 y17 y18 y19 y20 y21 y22 y23 y32 : Value, a = ⟨#[.pointer (some ⟨g, 0, none⟩), y1, y2, y3, u4, y5, y6, y7, y8, y9, y10, y11, y12, y13, y14, y15, y16, y17, y18, y19, y20, y21, y22, y23, u24, u25, u26, u27, u28, u29, u30, u31, y32], []⟩ ∧ TsJ w.heap.size g p4 w4 d u4 u24 u25 u26 u27 u28 u29 u30 u31 W) ?_ ?_ ?_
        · exact ⟨_, _, _, _, _, _, _, _, _, _, _, _, _, _, _, _, _, _, _, _, _, _, _, _, _, _, _, _, _, _, _, _, rfl, (Only.refl g w4).drewN 1, HR4.out, nofun, nofun, nofun, nofun, nofun, nofun, nofun, nofun, nofun⟩
        · refine ⟨?_, ?_, ?_, ?_, ?_, ?_, ?_, ?_, ?_, trivial⟩
          all_goals
            intro d a W K hd hdep hJ hK
            obtain ⟨u4, u24, u25, u26, u27, u28, u29, u30, u31, y1, y2, y3, y5, y6, y7, y8, y9, y10, y11, y12, y13, y14, y15, y16, y17, y18, y19, y20, y21, y22, y23, y32, rfl, hj⟩ := hJ
            have HJ := Lib.hid hj
            have HK := Lib.hid hK
            have HD := Lib.hid hd
            have HDEP := Lib.hid hdep
            have hmk := make17
            have HBW := Lib.hid (Nat.le_trans hzz hj.o.size)
            clear hj hK hd hdep
          · go_simp
            refine HK.out _ _ ⟨_, _, _, _, _, _, _, _, _, _, _, _, _, _, _, _, _, _, _, _, _, _, _, _, _, _, _, _, _, _, _, _, rfl, ?_⟩
            obtain ⟨o, c0, c1, c2, c3, c6, c7, c8⟩ := HJ.out.world (d' := d) HG.out (only_alloc g W (.cells #[] 9)) (HJ.out.r.alloc _)
            exact ⟨o, HJ.out.r.alloc _, fun _ => good_none HBW.out, c1, c2, c3, HJ.out.c4, HJ.out.c5, c6, c7, c8⟩
          · go_simp
            refine HK.out _ _ ⟨_, _, _, _, _, _, _, _, _, _, _, _, _, _, _, _, _, _, _, _, _, _, _, _, _, _, _, _, _, _, _, _, rfl, ?_⟩
            obtain ⟨o, c0, c1, c2, c3, c6, c7, c8⟩ := HJ.out.world (d' := d) HG.out (only_alloc g W (.cells #[.string ⟨#[10]⟩] 9)) (HJ.out.r.alloc _)
            exact ⟨o, HJ.out.r.alloc _, c0, fun _ => good_one HBW.out, c2, c3, HJ.out.c4, HJ.out.c5, c6, c7, c8⟩
          · go_simp
            refine HK.out _ _ ⟨_, _, _, _, _, _, _, _, _, _, _, _, _, _, _, _, _, _, _, _, _, _, _, _, _, _, _, _, _, _, _, _, rfl, ?_⟩
            obtain ⟨o, c0, c1, c2, c3, c6, c7, c8⟩ := HJ.out.world (d' := d) HG.out (only_alloc g W (.cells (Array.replicate 17 (.string ⟨#[]⟩)) 9)) (HJ.out.r.alloc _)
            exact ⟨o, HJ.out.r.alloc _, c0, c1, fun _ => good_many HBW.out, c3, HJ.out.c4, HJ.out.c5, c6, c7, c8⟩
          · have g0 := HJ.out.c0 (HDEP.out { on := 0, ground := Ground.data } (by simp) rfl)
            have g1 := HJ.out.c1 (HDEP.out { on := 1, ground := Ground.data } (by simp) rfl)
            have g2 := HJ.out.c2 (HDEP.out { on := 2, ground := Ground.data } (by simp) rfl)
            have HG0 := Lib.hid g0
            have HG1 := Lib.hid g1
            have HG2 := Lib.hid g2
            obtain ⟨A0, n0, c0, rfl, _⟩ := g0
            obtain ⟨A1, n1, c1, rfl, _⟩ := g1
            obtain ⟨A2, n2, c2, rfl, _⟩ := g2
            go_simp
            refine HK.out _ _ ⟨_, _, _, _, _, _, _, _, _, _, _, _, _, _, _, _, _, _, _, _, _, _, _, _, _, _, _, _, _, _, _, _, rfl, ?_⟩
            obtain ⟨o, c0', c1', c2', c3', c6', c7', c8'⟩ := HJ.out.world (d' := d) HG.out (only_alloc g W (.cells #[.slice A0 n0 c0, .slice A1 n1 c1, .slice A2 n2 c2] 23)) (HJ.out.r.alloc _)
            exact ⟨o, HJ.out.r.alloc _, c0', c1', c2', fun _ => ⟨_, _, _, _, rfl, HG0.out.only (only_alloc g W _) HG.out, HG1.out.only (only_alloc g W _) HG.out, HG2.out.only (only_alloc g W _) HG.out, Blk.new HJ.out.r.lt⟩, HJ.out.c4, HJ.out.c5, c6', c7', c8'⟩
          · go_simp
            exact HK.out _ _ ⟨_, _, _, _, _, _, _, _, _, _, _, _, _, _, _, _, _, _, _, _, _, _, _, _, _, _, _, _, _, _, _, _, rfl, { HJ.out with c4 := fun _ => rfl }⟩
          · obtain rfl := HJ.out.c4 (HDEP.out { on := 4, ground := Ground.data } (by simp) rfl)
            have hr := HJ.out.r
            rw [HD.out] at hr
            have HR5 := Lib.hid (show Rdr W g p4 from hr)
            clear hr
            go_simp
            go_wp2_with (go_at_call 46; refine (pick_any 3 g p4 _ HR5.out (by omega) (by omega)).mono ?_; rintro e w5 ⟨x, rfl, hx, ho, hr2⟩)
            refine HK.out _ _ ⟨_, _, _, _, _, _, _, _, _, _, _, _, _, _, _, _, _, _, _, _, _, _, _, _, _, _, _, _, _, _, _, _, rfl, ?_⟩
            obtain ⟨o, c0, c1, c2, c3, c6, c7, c8⟩ := HJ.out.world (d' := d) HG.out ho hr2
            exact ⟨o, hr2, c0, c1, c2, c3, HJ.out.c4, fun _ => ⟨x, rfl, by omega⟩, c6, c7, c8⟩
          · obtain ⟨b, x, y, z, rfl, hx, hy, hz, hb⟩ := HJ.out.c3 (HDEP.out { on := 3, ground := Ground.data } (by simp) rfl)
            obtain ⟨k, rfl, hk3⟩ := HJ.out.c5 (HDEP.out { on := 5, ground := Ground.data } (by simp) rfl)
            have HC := Lib.hid (show GoodT _ x W ∧ GoodT _ y W ∧ GoodT _ z W ∧ Blk W g b #[x, y, z] 23 from ⟨hx, hy, hz, hb⟩)
            clear hx hy hz hb
            have hx0 : (0 : Int) ≤ (k : Int) := by omega
            have hx1 : (k : Int) < 3 := by omega
            go_simp
            exact HK.out _ _ ⟨_, _, _, _, _, _, _, _, _, _, _, _, _, _, _, _, _, _, _, _, _, _, _, _, _, _, _, _, _, _, _, _, rfl, { HJ.out with c6 := fun _ => ⟨b, k, x, y, z, rfl, hk3, HC.out⟩ }⟩
          · obtain ⟨b, k, x, y, z, rfl, hk3, hx, hy, hz, hb⟩ := HJ.out.c6 (HDEP.out { on := 6, ground := Ground.data } (by simp) rfl)
            have hc := hb.cell (pick3_at hk3 _ _ _)
            have hgd := pick3_good hk3 hx hy hz
            generalize pick3 k x y z = v at *
            have HV := Lib.hid hgd
            obtain ⟨A0, n0, c0, rfl, _⟩ := hgd
            clear hx hy hz hb
            go_simp
            exact HK.out _ _ ⟨_, _, _, _, _, _, _, _, _, _, _, _, _, _, _, _, _, _, _, _, _, _, _, _, _, _, _, _, _, _, _, _, rfl, { HJ.out with c7 := fun _ => HV.out }⟩
          · have hgd := HJ.out.c7 (HDEP.out { on := 7, ground := Ground.data } (by simp) rfl)
            have HV := Lib.hid hgd
            clear hgd
            go_simp
            exact HK.out _ _ ⟨_, _, _, _, _, _, _, _, _, _, _, _, _, _, _, _, _, _, _, _, _, _, _, _, _, _, _, _, _, _, _, _, rfl, { HJ.out with c8 := fun _ => HV.out }⟩
        · intro d a W hd hJ
          obtain ⟨u4, u24, u25, u26, u27, u28, u29, u30, u31, y1, y2, y3, y5, y6, y7, y8, y9, y10, y11, y12, y13, y14, y15, y16, y17, y18, y19, y20, y21, y22, y23, y32, rfl, hj⟩ := hJ
          have hg8 := hj.c8 (hd 8 (by decide))
          have h5 := hd 5 (by decide)
          have hrr := hj.r
          rw [h5] at hrr
          have HRF := Lib.hid (show Rdr W g (p4 + 1) from hrr)
          have HOF := Lib.hid hj.o
          have HV := Lib.hid hg8
          obtain ⟨A0, n0, c0, rfl, _⟩ := hg8
          clear hrr hj hd h5
          go_wp2
          go_ret
          obtain ⟨A, n, c, e, l, h1, h2⟩ := HV.out
          exact ⟨_, l, _, rfl, h1, h2, HO4.out.trans HOF.out, HRF.out, by omega⟩
/-! ### the laws' own draws -/
def DrawnTexts (w : World) (e : Ending) (w' : World) : Prop :=
  ∃ (v : Value) (l : List ByteArray), e = .returned v ∧ Own w' w.heap.size 9 1 encS v l ∧ TextsP l ∧ Below w.heap.size w w'
set_option maxHeartbeats 2000000 in
set_option maxRecDepth 100000 in
theorem DrawSpotRoot_any (A : Option Addr) (n c : Nat) (w : World) (hb : BytesIn w A n c) :
    Calls Try.prog 13 #[.slice A n c] w (DrawnTexts w) := by
  go_enter Try.func13, Try.ntmps13
  go_wp2_with fail
  refine (l20Open_any _ _ _ _ hb).mono ?_
  rintro e w1 ⟨rfl, hb1, hr1, hz1⟩
  have HR1 := Lib.hid hr1
  have HB1 := Lib.hid hb1
  clear hr1 hb1 hz1
  go_wp2_with fail
  refine (l20Texts_any _ _ _ _ HR1.out (by omega) (by omega)).mono ?_
  rintro e w2 ⟨v1, l1, p2, rfl, hown, hf1, ho2, hr2, hp2⟩
  have HO2 := Lib.hid ho2
  have HW2 := Lib.hid hown
  have HF1 := Lib.hid hf1
  clear hr2 ho2 hown hf1
  go_wp2
  go_ret
  exact ⟨_, l1, rfl, HW2.out.mono HB1.out.size, HF1.out, HB1.out.trans (HO2.out.below (Nat.le_refl _) HB1.out.size)⟩
def DrawnTextsN (w : World) (e : Ending) (w' : World) : Prop :=
  ∃ (v : Value) (l : List ByteArray) (n : Int), e = .returned (.tuple #[v, .int .i64 n]) ∧ Own w' w.heap.size 9 1 encS v l ∧ TextsP l ∧ -1 ≤ n ∧ n ≤ 17 ∧ Below w.heap.size w w'
set_option maxHeartbeats 2000000 in
set_option maxRecDepth 100000 in
theorem DrawSpotAnswer_any (A : Option Addr) (n c : Nat) (w : World) (hb : BytesIn w A n c) :
    Calls Try.prog 21 #[.slice A n c] w (DrawnTextsN w) := by
  go_enter Try.func21, Try.ntmps21
  go_wp2_with fail
  refine (l20Open_any _ _ _ _ hb).mono ?_
  rintro e w1 ⟨rfl, hb1, hr1, hz1⟩
  have HR1 := Lib.hid hr1
  have HB1 := Lib.hid hb1
  have HZ1 := Lib.hid hz1
  clear hr1 hb1 hz1
  go_wp2_with fail
  refine (l20Texts_any _ _ _ _ HR1.out (by omega) (by omega)).mono ?_
  rintro e w2 ⟨v1, l1, p2, rfl, hown, hf1, ho2, hr2, hp2⟩
  obtain ⟨X, d, rfl, _, _, _⟩ := hown.sl
  have hl1 := hf1.1
  have HO2 := Lib.hid ho2
  have HR2 := Lib.hid hr2
  have HW2 := Lib.hid hown
  have HF1 := Lib.hid hf1
  clear hr2 ho2 hown hf1
  have hwr : IntKind.i64.wrap ((l1.length : Int) + 1) = (l1.length : Int) + 1 := IntWalk.i64_in _ (by omega)
  go_wp2_with fail
  refine (pick_any ((l1.length : Int) + 1) _ _ _ HR2.out (by omega) (by omega)).mono ?_
  rintro e w3 ⟨x, rfl, hx, ho3, hr3⟩
  have hx' : x ≤ 17 := by omega
  have HR3 := Lib.hid hr3
  have HO3 := Lib.hid (HO2.out.trans ho3)
  have HW3 := Lib.hid (HW2.out.only ho3 (by have := HZ1.out; omega))
  clear hr3 ho3 hx
  go_wp2_with fail
  refine (pick_any 14 _ _ _ HR3.out (by omega) (by omega)).mono ?_
  rintro e w4 ⟨y, rfl, hy, ho4, hr4⟩
  have hy' : y ≤ 13 := by omega
  have HO4 := Lib.hid (HO3.out.trans ho4)
  have HW4 := Lib.hid (HW3.out.only ho4 (by have := HZ1.out; omega))
  clear hr4 ho4 hy
  have hq : (y : Int) / 13 = 0 ∨ (y : Int) / 13 = 1 := by omega
  go_wp2
  go_ret2
  exact ⟨_, l1, _, rfl, HW4.out.mono HB1.out.size, HF1.out, by omega, by omega, HB1.out.trans (HO4.out.below (Nat.le_refl _) HB1.out.size)⟩
end Go.Proofs.Ythbdcmaloojngaa
