/- Drawn inputs: texts of words. -/
import Derived.Test.YthbdcmaloojngaaDoorDt
import Derived.Test.YthbdcmaloojngaaDoorWr
set_option linter.unusedVariables false
namespace Go.Proofs.YthbdcmaloojngaaDoor
open Go.RowKit

theorem blk_str {W : World} {g b m : Nat} {cs : Array Value} {E : TypeId} (h : Blk W g b cs E) (hc : cs.toList.all (shortB m) = true) {x : Nat} (hx : x < cs.size) : ∃ s : ByteArray, W.cell? ⟨b, x, none⟩ = some (.string s) ∧ s.size ≤ m := by
  have h1 := List.all_eq_true.1 hc cs[x] (by simp)
  obtain ⟨s, e, hs⟩ := shortB_iff h1
  exact ⟨s, by rw [h.cell (Array.getElem?_eq_getElem hx), e], hs⟩
abbrev cs6 : Array Value := #[.string ⟨#[114, 101, 100]⟩, .string ⟨#[103, 114, 101, 101, 110]⟩, .string ⟨#[65]⟩, .string ⟨#[]⟩, .string ⟨#[97, 49]⟩, .string ⟨#[49, 98]⟩]
abbrev cs2 : Array Value := #[.string ⟨#[32]⟩, .string ⟨#[32, 32]⟩]
structure WdJ (g p1 so : Nat) (st : ByteArray) (w1 : World) (d : Nat → Bool) (u5 u13 u14 u15 u16 u17 u18 u19 u20 u21 u22 u23 u24 u25 u26 : Value) (W : World) : Prop where
  o : Only g w1 W
  r : Rdr W g (p1 + (if d 3 then 1 else 0) + (if d 9 then 1 else 0))
  m0 : d 14 = true → d 0 = true
  ci : d 14 = false → u5 = .string st
  c0 : d 0 = true → u13 = .string st
  c1 : d 1 = true → ∃ b, u14 = .slice (some ⟨b, 0, none⟩) 6 6 ∧ Blk W g b cs6 9
  c2 : d 2 = true → u15 = .pointer (some ⟨g, 0, none⟩)
  c3 : d 3 = true → ∃ x : Nat, u16 = .int .i64 (x : Int) ∧ x < 6
  c4 : d 4 = true → ∃ b x : Nat, u17 = .pointer (some ⟨b, x, none⟩) ∧ x < 6 ∧ Blk W g b cs6 9
  c5 : d 5 = true → ∃ s : ByteArray, u18 = .string s ∧ s.size ≤ 5
  c6 : d 6 = true → ∃ s : ByteArray, u19 = .string s ∧ s.size ≤ so + 5
  c7 : d 7 = true → ∃ b, u20 = .slice (some ⟨b, 0, none⟩) 2 2 ∧ Blk W g b cs2 9
  c8 : d 8 = true → u21 = .pointer (some ⟨g, 0, none⟩)
  c9 : d 9 = true → ∃ x : Nat, u22 = .int .i64 (x : Int) ∧ x < 4
  c10 : d 10 = true → ∃ x : Nat, u23 = .int .i64 (x : Int) ∧ x < 2
  c11 : d 11 = true → ∃ b x : Nat, u24 = .pointer (some ⟨b, x, none⟩) ∧ x < 2 ∧ Blk W g b cs2 9
  c12 : d 12 = true → ∃ s : ByteArray, u25 = .string s ∧ s.size ≤ 2
  c13 : d 13 = true → ∃ s : ByteArray, u26 = .string s ∧ s.size ≤ so + 7
  c14 : d 14 = true → ∃ s : ByteArray, u5 = .string s ∧ s.size ≤ so + 7
theorem WdJ.blks {g p1 so : Nat} {st : ByteArray} {w1 : World} {d : Nat → Bool} {u5 u13 u14 u15 u16 u17 u18 u19 u20 u21 u22 u23 u24 u25 u26 : Value} {W W' : World} (h : WdJ g p1 so st w1 d u5 u13 u14 u15 u16 u17 u18 u19 u20 u21 u22 u23 u24 u25 u26 W) (ho : Only g W W') :
    Only g w1 W' ∧ (d 1 = true → ∃ b, u14 = .slice (some ⟨b, 0, none⟩) 6 6 ∧ Blk W' g b cs6 9) ∧ (d 4 = true → ∃ b x : Nat, u17 = .pointer (some ⟨b, x, none⟩) ∧ x < 6 ∧ Blk W' g b cs6 9) ∧
    (d 7 = true → ∃ b, u20 = .slice (some ⟨b, 0, none⟩) 2 2 ∧ Blk W' g b cs2 9) ∧ (d 11 = true → ∃ b x : Nat, u24 = .pointer (some ⟨b, x, none⟩) ∧ x < 2 ∧ Blk W' g b cs2 9) :=
  ⟨h.o.trans ho, fun e => let ⟨b, h1, h2⟩ := h.c1 e; ⟨b, h1, h2.only ho⟩, fun e => let ⟨b, x, h1, h2, h3⟩ := h.c4 e; ⟨b, x, h1, h2, h3.only ho⟩, fun e => let ⟨b, h1, h2⟩ := h.c7 e; ⟨b, h1, h2.only ho⟩, fun e => let ⟨b, x, h1, h2, h3⟩ := h.c11 e; ⟨b, x, h1, h2, h3.only ho⟩⟩
set_option maxHeartbeats 8000000 in
set_option maxRecDepth 100000 in
theorem l20Words_any (n : Int) (g p : Nat) (w : World) (hr : Rdr w g p) (hp : p ≤ 700000000) (hn : n ≤ 1000000000) :
    Calls Tryd.prog 38 #[.pointer (some ⟨g, 0, none⟩), .int .i64 n] w (Drew (ShortStr 61) 30 w g p) := by
  have HR := Lib.hid hr
  clear hr
  go_enter Tryd.func38, Tryd.ntmps38
  go_wp2_with fail
  refine (pick_any _ _ _ _ HR.out (by omega) (by omega)).mono ?_
  rintro e w1 ⟨x, rfl, hx, ho1, hr1⟩
  have hx' : x ≤ 6 := by omega
  have HR1 := Lib.hid hr1
  have HO1 := Lib.hid ho1
  clear hr1 ho1 hx
  go_wp2_with fail
  go_loopw [5, 6] (fun v i wr => ∃ (k : Nat) (st : ByteArray) (q : Nat), k ≤ 6 ∧ i = .int .i64 k ∧ v = .string st ∧ st.size + 7 * k ≤ 42 ∧ Only g w wr ∧ Rdr wr g q ∧ q + 2 * k ≤ p + 13) (fun _ i _ => (intOf i).toNat)
  case atStart => exact ⟨x, ⟨#[]⟩, p + 1, hx', rfl, rfl, by show 0 + 7 * x ≤ 42; omega, HO1.out, HR1.out, by omega⟩
  case round =>
    obtain ⟨k, st, q, hk, rfl, rfl, hst, ho, hr1, hq⟩ := hrel
    have HRQ := Lib.hid hr1
    have HOQ := Lib.hid ho
    clear hr1 ho
    by_cases hk0 : 0 < k
    · go_wp2_with fail
      refine wp_region_inv (by kernel_rfl) (by kernel_rfl) (fun a0 d a W => ∃ u5 u13 u14 u15 u16 u17 u18 u19 u20 u21 u22 u23 u24 u25 u26 y9 y10 y11 y12 : Value, a = ⟨#[.pointer (some ⟨g, 0, none⟩), .int .i64 n, undef, undef, .string ⟨#[]⟩, u5, .int .i64 (k : Int), .pointer (some ⟨g, 0, none⟩), .int .i64 (x : Int), y9, y10, y11, y12, u13, u14, u15, u16, u17, u18, u19, u20, u21, u22, u23, u24, u25, u26, undef, undef, undef, undef, undef, undef], []⟩ ∧ WdJ g q st.size st wr d u5 u13 u14 u15 u16 u17 u18 u19 u20 u21 u22 u23 u24 u25 u26 W) ?_ ?_ ?_
      · exact ⟨_, _, _, _, _, _, _, _, _, _, _, _, _, _, _, _, _, _, _, rfl, (Only.refl g wr).drewN 1, HRQ.out, nofun, fun _ => rfl, nofun, nofun, nofun, nofun, nofun, nofun, nofun, nofun, nofun, nofun, nofun, nofun, nofun, nofun, nofun⟩
      · refine ⟨?_, ?_, ?_, ?_, ?_, ?_, ?_, ?_, ?_, ?_, ?_, ?_, ?_, ?_, ?_, trivial⟩
        all_goals
          intro d a W K hd hdep hJ hK
          obtain ⟨u5, u13, u14, u15, u16, u17, u18, u19, u20, u21, u22, u23, u24, u25, u26, y9, y10, y11, y12, rfl, hj⟩ := hJ
          have HJ := Lib.hid hj
          have HK := Lib.hid hK
          have HD := Lib.hid hd
          have HDEP := Lib.hid hdep
          clear hj hK hd hdep
        · have h14 : d 14 = false := by
            cases h : d 14
            · rfl
            · have := HJ.out.m0 h; rw [HD.out] at this; cases this
          obtain rfl := HJ.out.ci h14
          have H14 := Lib.hid h14
          clear h14
          go_simp
          exact HK.out _ _ ⟨_, _, _, _, _, _, _, _, _, _, _, _, _, _, _, _, _, _, _, rfl, { HJ.out with m0 := fun e => rfl, c0 := fun _ => rfl }⟩
        · go_simp
          refine HK.out _ _ ⟨_, _, _, _, _, _, _, _, _, _, _, _, _, _, _, _, _, _, _, rfl, ?_⟩
          obtain ⟨o, c1, c4, c7, c11⟩ := HJ.out.blks (only_alloc g W (.cells cs6 9))
          exact { HJ.out with o := o, r := HJ.out.r.alloc _, c1 := fun _ => ⟨_, rfl, Blk.new HJ.out.r.lt⟩, c4 := c4, c7 := c7, c11 := c11 }
        · go_simp
          exact HK.out _ _ ⟨_, _, _, _, _, _, _, _, _, _, _, _, _, _, _, _, _, _, _, rfl, { HJ.out with c2 := fun _ => rfl }⟩
        · obtain rfl := HJ.out.c2 (HDEP.out { on := 2, ground := Ground.data } (by simp) rfl)
          have hr := HJ.out.r
          rw [HD.out] at hr
          have hb9 : (if d 9 then 1 else 0) ≤ 1 := by split <;> omega
          have hqb : q + 0 + (if d 9 then 1 else 0) ≤ 1000000000 := by omega
          have HR5 := Lib.hid (show Rdr W g (q + 0 + (if d 9 then 1 else 0)) from hr)
          clear hr hb9
          go_simp
          go_wp2_with (go_at_call 42; refine (pick_any 6 g _ _ HR5.out hqb (by omega)).mono ?_; rintro e w5 ⟨x, rfl, hx, ho, hr2⟩)
          refine HK.out _ _ ⟨_, _, _, _, _, _, _, _, _, _, _, _, _, _, _, _, _, _, _, rfl, ?_⟩
          obtain ⟨o, c1, c4, c7, c11⟩ := HJ.out.blks ho
          exact { HJ.out with o := o, r := (show Rdr w5 g (q + 1 + (if d 9 then 1 else 0)) by (have e : q + 0 + (if d 9 then 1 else 0) + 1 = q + 1 + (if d 9 then 1 else 0) := by omega); rw [← e]; exact hr2), c1 := c1, c3 := fun _ => ⟨x, rfl, by omega⟩, c4 := c4, c7 := c7, c11 := c11 }
        · obtain ⟨b, rfl, hb⟩ := HJ.out.c1 (HDEP.out { on := 1, ground := Ground.data } (by simp) rfl)
          obtain ⟨x, rfl, hx6⟩ := HJ.out.c3 (HDEP.out { on := 3, ground := Ground.data } (by simp) rfl)
          have HB := Lib.hid hb
          clear hb
          have hx0 : (0 : Int) ≤ (x : Int) := by omega
          have hx1 : (x : Int) < 6 := by omega
          go_simp
          exact HK.out _ _ ⟨_, _, _, _, _, _, _, _, _, _, _, _, _, _, _, _, _, _, _, rfl, { HJ.out with c4 := fun _ => ⟨b, x, rfl, hx6, HB.out⟩ }⟩
        · obtain ⟨b, x, rfl, hx6, hb⟩ := HJ.out.c4 (HDEP.out { on := 4, ground := Ground.data } (by simp) rfl)
          obtain ⟨s, hc, hs⟩ := blk_str (m := 5) hb (by decide) (x := x) hx6
          have HS := Lib.hid hs
          clear hb hs
          go_simp
          exact HK.out _ _ ⟨_, _, _, _, _, _, _, _, _, _, _, _, _, _, _, _, _, _, _, rfl, { HJ.out with c5 := fun _ => ⟨s, rfl, HS.out⟩ }⟩
        · obtain rfl := HJ.out.c0 (HDEP.out { on := 0, ground := Ground.data } (by simp) rfl)
          obtain ⟨s, rfl, hs⟩ := HJ.out.c5 (HDEP.out { on := 5, ground := Ground.data } (by simp) rfl)
          have hz : ¬ 9223372036854775807 < st.size + s.size := by omega
          have hsz : (st ++ s).size ≤ st.size + 5 := by rw [ByteArray.size_append]; omega
          have HSZ := Lib.hid hsz
          clear hsz
          go_simp
          exact HK.out _ _ ⟨_, _, _, _, _, _, _, _, _, _, _, _, _, _, _, _, _, _, _, rfl, { HJ.out with c6 := fun _ => ⟨_, rfl, HSZ.out⟩ }⟩
        · go_simp
          refine HK.out _ _ ⟨_, _, _, _, _, _, _, _, _, _, _, _, _, _, _, _, _, _, _, rfl, ?_⟩
          obtain ⟨o, c1, c4, c7, c11⟩ := HJ.out.blks (only_alloc g W (.cells cs2 9))
          exact { HJ.out with o := o, r := HJ.out.r.alloc _, c1 := c1, c4 := c4, c7 := fun _ => ⟨_, rfl, Blk.new HJ.out.r.lt⟩, c11 := c11 }
        · go_simp
          exact HK.out _ _ ⟨_, _, _, _, _, _, _, _, _, _, _, _, _, _, _, _, _, _, _, rfl, { HJ.out with c8 := fun _ => rfl }⟩
        · obtain rfl := HJ.out.c8 (HDEP.out { on := 8, ground := Ground.data } (by simp) rfl)
          have hr := HJ.out.r
          rw [HD.out] at hr
          have hb3 : (if d 3 then 1 else 0) ≤ 1 := by split <;> omega
          have hqb : q + (if d 3 then 1 else 0) + 0 ≤ 1000000000 := by omega
          have HR5 := Lib.hid (show Rdr W g (q + (if d 3 then 1 else 0) + 0) from hr)
          clear hr hb3
          go_simp
          go_wp2_with (go_at_call 42; refine (pick_any 4 g _ _ HR5.out hqb (by omega)).mono ?_; rintro e w5 ⟨x, rfl, hx, ho, hr2⟩)
          refine HK.out _ _ ⟨_, _, _, _, _, _, _, _, _, _, _, _, _, _, _, _, _, _, _, rfl, ?_⟩
          obtain ⟨o, c1, c4, c7, c11⟩ := HJ.out.blks ho
          exact { HJ.out with o := o, r := hr2, c1 := c1, c9 := fun _ => ⟨x, rfl, by omega⟩, c4 := c4, c7 := c7, c11 := c11 }
        · obtain ⟨x, rfl, hx4⟩ := HJ.out.c9 (HDEP.out { on := 9, ground := Ground.data } (by simp) rfl)
          have e3 : (x : Int) / 3 = ((x / 3 : Nat) : Int) := by omega
          have HE := Lib.hid e3
          have hwr : IntKind.i64.wrap ((x : Int) / 3) = (x : Int) / 3 := IntWalk.i64_in _ (by omega)
          clear e3
          go_simp
          exact HK.out _ _ ⟨_, _, _, _, _, _, _, _, _, _, _, _, _, _, _, _, _, _, _, rfl, { HJ.out with c10 := fun _ => ⟨x / 3, (by rw [← HE.out]), by omega⟩ }⟩
        · obtain ⟨b, rfl, hb⟩ := HJ.out.c7 (HDEP.out { on := 7, ground := Ground.data } (by simp) rfl)
          obtain ⟨x, rfl, hx2⟩ := HJ.out.c10 (HDEP.out { on := 10, ground := Ground.data } (by simp) rfl)
          have HB := Lib.hid hb
          clear hb
          have hx0 : (0 : Int) ≤ (x : Int) := by omega
          have hx1 : (x : Int) < 2 := by omega
          go_simp
          exact HK.out _ _ ⟨_, _, _, _, _, _, _, _, _, _, _, _, _, _, _, _, _, _, _, rfl, { HJ.out with c11 := fun _ => ⟨b, x, rfl, hx2, HB.out⟩ }⟩
        · obtain ⟨b, x, rfl, hx2, hb⟩ := HJ.out.c11 (HDEP.out { on := 11, ground := Ground.data } (by simp) rfl)
          obtain ⟨s, hc, hs⟩ := blk_str (m := 2) hb (by decide) (x := x) hx2
          have HS := Lib.hid hs
          clear hb hs
          go_simp
          exact HK.out _ _ ⟨_, _, _, _, _, _, _, _, _, _, _, _, _, _, _, _, _, _, _, rfl, { HJ.out with c12 := fun _ => ⟨s, rfl, HS.out⟩ }⟩
        · obtain ⟨t, rfl, ht⟩ := HJ.out.c6 (HDEP.out { on := 6, ground := Ground.data } (by simp) rfl)
          obtain ⟨s, rfl, hs⟩ := HJ.out.c12 (HDEP.out { on := 12, ground := Ground.data } (by simp) rfl)
          have hz : ¬ 9223372036854775807 < t.size + s.size := by omega
          have hsz : (t ++ s).size ≤ st.size + 7 := by rw [ByteArray.size_append]; omega
          have HSZ := Lib.hid hsz
          clear hsz
          go_simp
          exact HK.out _ _ ⟨_, _, _, _, _, _, _, _, _, _, _, _, _, _, _, _, _, _, _, rfl, { HJ.out with c13 := fun _ => ⟨_, rfl, HSZ.out⟩ }⟩
        · obtain ⟨t, rfl, ht⟩ := HJ.out.c13 (HDEP.out { on := 13, ground := Ground.data } (by simp) rfl)
          have H0 := Lib.hid (HDEP.out { on := 0, ground := Ground.phase } (by simp) rfl)
          go_simp
          exact HK.out _ _ ⟨_, _, _, _, _, _, _, _, _, _, _, _, _, _, _, _, _, _, _, rfl, { HJ.out with m0 := fun _ => H0.out, ci := nofun, c14 := fun _ => ⟨t, rfl, ht⟩ }⟩
      · intro d a W hd hJ
        obtain ⟨u5, u13, u14, u15, u16, u17, u18, u19, u20, u21, u22, u23, u24, u25, u26, y9, y10, y11, y12, rfl, hj⟩ := hJ
        obtain ⟨s, rfl, hs⟩ := hj.c14 (hd 14 (by decide))
        have h3 := hd 3 (by decide)
        have h9 := hd 9 (by decide)
        have hrr := hj.r
        rw [h3, h9] at hrr
        have HRF := Lib.hid (show Rdr W g (q + 1 + 1) from hrr)
        have HOF := Lib.hid hj.o
        clear hrr hj hd h3 h9
        go_wp2
        go_roundw
        case rel => exact ⟨k - 1, s, q + 1 + 1, by omega, by go_num, rfl, by omega, HOQ.out.trans HOF.out, HRF.out, by omega⟩
        case measure => simp [intOf]; omega
    · have hk00 : k = 0 := by omega
      subst hk00
      go_wp2_with fail
      refine (odd_any _ _ _ _ HRQ.out (by omega) hn).mono ?_
      rintro e w4 ⟨b, p4, rfl, ho4, hr4, hp4⟩
      have HR4 := Lib.hid hr4
      have HO4 := Lib.hid (HOQ.out.trans ho4)
      clear hr4 ho4
      cases b
      · go_wp2_with fail
        go_ret
        exact ⟨_, _, rfl, ⟨st, rfl, by omega⟩, HO4.out, HR4.out, by omega⟩
      · go_wp2_with fail
        refine (l20Text_any _ _ _ _ HR4.out (by omega) (by omega)).mono ?_
        rintro e w5 ⟨v5, p5, rfl, ⟨t, rfl, ht⟩, ho5, hr5, hp5⟩
        have HR5 := Lib.hid hr5
        have HO5 := Lib.hid (HO4.out.trans ho5)
        clear hr5 ho5
        go_wp2_with fail
        go_ret
        exact ⟨_, _, rfl, ⟨t, rfl, ht⟩, HO5.out, HR5.out, by omega⟩
set_option maxHeartbeats 2000000 in
set_option maxRecDepth 100000 in
theorem DrawWordsOf_any (A : Option Addr) (n c : Nat) (w : World) (hb : BytesIn w A n c) :
    Calls Tryd.prog 18 #[.slice A n c] w (Drawn (ShortStr 61) w) := by
  go_enter Tryd.func18, Tryd.ntmps18
  go_wp2_with fail
  refine (l20Open_any _ _ _ _ hb).mono ?_
  rintro e w1 ⟨rfl, hb1, hr1, hz1⟩
  have HR1 := Lib.hid hr1
  have HB1 := Lib.hid hb1
  clear hr1 hb1 hz1
  go_wp2_with fail
  refine (l20Words_any _ _ _ _ HR1.out (by omega) (by omega)).mono ?_
  rintro e w2 ⟨v, p2, rfl, ⟨s, rfl, hs⟩, ho2, hr2, hp2⟩
  have HO2 := Lib.hid ho2
  clear ho2 hr2
  go_wp2_with fail
  go_ret
  exact ⟨_, rfl, ⟨_, rfl, hs⟩, HB1.out.trans (HO2.out.below (Nat.le_refl _) HB1.out.size)⟩
def DrawnSS (w : World) (e : Ending) (w' : World) : Prop := ∃ s t : ByteArray, e = .returned (.tuple #[.string s, .string t]) ∧ s.size ≤ 61 ∧ t.size ≤ 61 ∧ Below w.heap.size w w'
set_option maxHeartbeats 2000000 in
set_option maxRecDepth 100000 in
theorem DrawCommonWords_any (A : Option Addr) (n c : Nat) (w : World) (hb : BytesIn w A n c) :
    Calls Tryd.prog 28 #[.slice A n c] w (DrawnSS w) := by
  go_enter Tryd.func28, Tryd.ntmps28
  go_wp2_with fail
  refine (l20Open_any _ _ _ _ hb).mono ?_
  rintro e w1 ⟨rfl, hb1, hr1, hz1⟩
  have HR1 := Lib.hid hr1
  have HB1 := Lib.hid hb1
  clear hr1 hb1 hz1
  go_wp2_with fail
  refine (l20Words_any _ _ _ _ HR1.out (by omega) (by omega)).mono ?_
  rintro e w2 ⟨v, p2, rfl, ⟨s, rfl, hs⟩, ho2, hr2, hp2⟩
  have HO2 := Lib.hid ho2
  have HR2 := Lib.hid hr2
  clear ho2 hr2
  go_wp2_with fail
  refine (l20Words_any _ _ _ _ HR2.out (by omega) (by omega)).mono ?_
  rintro e w3 ⟨v3, p3, rfl, ⟨t, rfl, ht⟩, ho3, hr3, hp3⟩
  have HO3 := Lib.hid (HO2.out.trans ho3)
  clear ho3 hr3
  go_wp2_with fail
  go_ret2
  exact ⟨_, _, rfl, hs, ht, HB1.out.trans (HO3.out.below (Nat.le_refl _) HB1.out.size)⟩
end Go.Proofs.YthbdcmaloojngaaDoor
