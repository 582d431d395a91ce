/- Drawn inputs: texts, some of which are none; lists of texts. -/
import Derived.Test.YtedcgbmdfmgcgaaGreatDoorGa1
import Derived.Deep.RegionWith
set_option linter.unusedVariables false
namespace Go.Proofs.YtedcgbmdfmgcgaaGreatDoor
open Go.RowKit

/-- Of three the one at place x. -/
def pick3 (x : Nat) (a b c : Value) : Value := match x with | 0 => a | 1 => b | _ => c
theorem pick3_at {x : Nat} (h : x < 3) (a b c : Value) : (#[a, b, c] : Array Value)[x]? = some (pick3 x a b c) := by
  match x, h with
  | 0, _ => rfl
  | 1, _ => rfl
  | 2, _ => rfl
/-- A block of the call's own, which is not the reader's. -/
def Blk (W : World) (g b : Nat) (cs : Array Value) (E : TypeId) : Prop := b ≠ g ∧ W.heap[b]? = some (.cells cs E (0, 0))
theorem Blk.only {W W' : World} {g b : Nat} {cs : Array Value} {E : TypeId} (h : Blk W g b cs E) (ho : Only g W W') : Blk W' g b cs E :=
  ⟨h.1, (ho.block b (Array.getElem?_eq_some_iff.1 h.2).1 (by intro e; injection e with e; exact h.1 e)).trans h.2⟩
theorem Blk.new {W : World} {g : Nat} {cs : Array Value} {E : TypeId} (hg : g < W.heap.size) : Blk (W.alloc (.cells cs E)) g W.heap.size cs E := ⟨by omega, heap_alloc_new W _⟩
theorem Blk.cell {W : World} {g b k : Nat} {cs : Array Value} {E : TypeId} {u : Value} (h : Blk W g b cs E) (hu : cs[k]? = some u) : W.cell? ⟨b, k, none⟩ = some u := by
  rw [cell_of_row W b k cs E _ h.2]; exact hu
theorem only_alloc (g : Nat) (W : World) (o : Obj) : Only g W (W.alloc o) := Only.of_below ((Below.refl _ _).alloc (Nat.le_refl _) o)
theorem make61 (w : World) : (Instr.makeSlice 22 (.int .i64 61) (.int .i64 61)).run Tryz.prog w = .ok (.slice (some ⟨w.heap.size, 0, none⟩) 61 61) (w.alloc (.cells (Array.replicate 61 (.int .u8 0)) 5)) := by kernel_rfl
theorem conv61 {W : World} {g b : Nat} (h : Blk W g b (Array.replicate 61 (.int .u8 0)) 5) : (convert 22 9 (.slice (some ⟨b, 0, none⟩) 61 61)).run Tryz.prog W = .ok (.string (mk (List.replicate 61 0))) W := by
  have h := run_convert_bytes_back (P := Tryz.prog) W 22 9 5 ⟨b, 0, none⟩ 61 (List.replicate 61 0) Tryz.underlying22 Tryz.underlying5 Tryz.underlying9 (by
    intro j hj
    have hj' : j < 61 := by simpa using hj
    have hadd : (⟨b, 0, none⟩ : Addr).add j = ⟨b, j, none⟩ := by unfold Addr.add; split <;> simp_all
    have e : (List.replicate 61 (0 : UInt8))[j]'hj = 0 := List.getElem_replicate ..
    rw [hadd, h.cell (u := .int .u8 0) (by simp [hj']), e]
    rfl)
  exact h
structure TxJ (g p1 : Nat) (w1 : World) (d : Nat → Bool) (u4 u8 u9 u10 u11 u12 u13 u14 : Value) (W : World) : Prop where
  o : Only g w1 W
  r : Rdr W g (if d 4 then p1 + 1 else p1)
  c0 : d 0 = true → ∃ b, u8 = .slice (some ⟨b, 0, none⟩) 61 61 ∧ Blk W g b (Array.replicate 61 (.int .u8 0)) 5
  c1 : d 1 = true → ∃ s : ByteArray, u9 = .string s ∧ s.size ≤ 61
  c2 : d 2 = true → ∃ (b : Nat) (s : ByteArray), u10 = .slice (some ⟨b, 0, none⟩) 3 3 ∧ s.size ≤ 61 ∧ Blk W g b #[.string ⟨#[10]⟩, .string s, .string ⟨#[97, 127]⟩] 9
  c3 : d 3 = true → u11 = .pointer (some ⟨g, 0, none⟩)
  c4 : d 4 = true → ∃ x : Nat, u12 = .int .i64 (x : Int) ∧ x < 3
  c5 : d 5 = true → ∃ (b x : Nat) (s : ByteArray), u13 = .pointer (some ⟨b, x, none⟩) ∧ s.size ≤ 61 ∧ x < 3 ∧ Blk W g b #[.string ⟨#[10]⟩, .string s, .string ⟨#[97, 127]⟩] 9
  c6 : d 6 = true → ∃ s : ByteArray, u14 = .string s ∧ s.size ≤ 61
  c7 : d 7 = true → ∃ s : ByteArray, u4 = .string s ∧ s.size ≤ 61
theorem TxJ.world {g p1 : Nat} {w1 : World} {d : Nat → Bool} {u4 u8 u9 u10 u11 u12 u13 u14 : Value} {W W' : World} (h : TxJ g p1 w1 d u4 u8 u9 u10 u11 u12 u13 u14 W) (ho : Only g W W') (hr : Rdr W' g (if d 4 then p1 + 1 else p1)) : TxJ g p1 w1 d u4 u8 u9 u10 u11 u12 u13 u14 W' :=
  ⟨h.o.trans ho, hr, fun e => let ⟨b, h1, h2⟩ := h.c0 e; ⟨b, h1, h2.only ho⟩, h.c1, fun e => let ⟨b, s, h1, h2, h3⟩ := h.c2 e; ⟨b, s, h1, h2, h3.only ho⟩, h.c3, h.c4, fun e => let ⟨b, x, s, h1, h2, h4, h3⟩ := h.c5 e; ⟨b, x, s, h1, h2, h4, h3.only ho⟩, h.c6, h.c7⟩
theorem pick3_str {x : Nat} {a b c : ByteArray} (hx : x < 3) : ∃ s, pick3 x (.string a) (.string b) (.string c) = .string s ∧ (s = a ∨ s = b ∨ s = c) := by
  match x, hx with
  | 0, _ => exact ⟨_, rfl, .inl rfl⟩
  | 1, _ => exact ⟨_, rfl, .inr (.inl rfl)⟩
  | 2, _ => exact ⟨_, rfl, .inr (.inr rfl)⟩
set_option maxHeartbeats 4000000 in
set_option maxRecDepth 100000 in
theorem l20Text_any (n : Int) (g p : Nat) (w : World) (hr : Rdr w g p) (hp : p ≤ 900000000) (hn : n ≤ 1000000000) :
    Calls Tryz.prog 72 #[.pointer (some ⟨g, 0, none⟩), .int .i64 n] w (Drew (ShortStr 61) 2 w g p) := by
  have HR := Lib.hid hr
  clear hr
  go_enter Tryz.func72, Tryz.ntmps72
  go_wp2_with fail
  refine (odd_any _ _ _ _ HR.out (by omega) hn).mono ?_
  rintro e w1 ⟨x, p1, rfl, ho1, hr1, hp1⟩
  have HR1 := Lib.hid hr1
  have HO1 := Lib.hid ho1
  clear hr1 ho1
  cases x
  · go_wp2_with fail
    refine (pick_str 8 61 HR1.out (by omega) rfl (by omega) (by omega) (by decide)).mono ?_
    rintro e w2 ⟨x, s, rfl, hx, hc, hs, ho2, hr2⟩
    have HR2 := Lib.hid hr2
    have HO2 := Lib.hid ho2
    clear hr2 ho2
    go_wp2_with fail
    go_ret
    exact ⟨_, _, rfl, ⟨_, rfl, hs⟩, HO1.out.trans HO2.out, HR2.out, by omega⟩
  · go_wp2_with fail
    refine wp_region_inv (by kernel_rfl) (by kernel_rfl) (fun a0 d a W => ∃ u4 u8 u9 u10 u11 u12 u13 u14 : Value, a = ⟨#[.pointer (some ⟨g, 0, none⟩), .int .i64 n, undef, undef, u4, .pointer (some ⟨g, 0, none⟩), .int .i64 n, .bool true, u8, u9, u10, u11, u12, u13, u14, undef, undef, undef, undef, undef], []⟩ ∧ TxJ g p1 w1 d u4 u8 u9 u10 u11 u12 u13 u14 W) ?_ ?_ ?_
    · exact ⟨_, _, _, _, _, _, _, _, rfl, (Only.refl g w1).drewN 1, HR1.out, nofun, nofun, nofun, nofun, nofun, nofun, nofun, nofun⟩
    · refine ⟨?_, ?_, ?_, ?_, ?_, ?_, ?_, ?_, trivial⟩
      all_goals
        intro d a W K hd hdep hJ hK
        obtain ⟨u4, u8, u9, u10, u11, u12, u13, u14, rfl, hj⟩ := hJ
        have HJ := Lib.hid hj
        have HK := Lib.hid hK
        have HD := Lib.hid hd
        have hmk := make61
        have HDEP := Lib.hid hdep
        clear hj hK hd hdep
      · go_simp
        refine HK.out _ _ ⟨u4, _, u9, u10, u11, u12, u13, u14, rfl, ?_⟩
        have h := HJ.out.world (only_alloc g W _) (HJ.out.r.alloc (.cells (Array.replicate 61 (.int .u8 0)) 5))
        exact { h with c0 := fun _ => ⟨_, rfl, Blk.new HJ.out.r.lt⟩ }
      · obtain ⟨b, rfl, hb⟩ := HJ.out.c0 (HDEP.out { on := 0, ground := Ground.data } (by simp) rfl)
        have hcv := conv61 hb
        have HB := Lib.hid hb
        clear hb
        go_simp
        exact HK.out _ _ ⟨u4, _, _, u10, u11, u12, u13, u14, rfl, { HJ.out with c1 := fun _ => ⟨_, rfl, by decide⟩ }⟩
      · obtain ⟨s, rfl, hs⟩ := HJ.out.c1 (HDEP.out { on := 1, ground := Ground.data } (by simp) rfl)
        go_simp
        refine HK.out _ _ ⟨u4, u8, _, _, u11, u12, u13, u14, rfl, ?_⟩
        have h := HJ.out.world (only_alloc g W _) (HJ.out.r.alloc (.cells #[.string ⟨#[10]⟩, .string s, .string ⟨#[97, 127]⟩] 9))
        exact { h with c2 := fun _ => ⟨_, s, rfl, hs, Blk.new HJ.out.r.lt⟩ }
      · go_simp
        exact HK.out _ _ ⟨u4, u8, u9, u10, _, u12, u13, u14, rfl, { HJ.out with c3 := fun _ => rfl }⟩
      · obtain rfl := HJ.out.c3 (HDEP.out { on := 3, ground := Ground.data } (by simp) rfl)
        have hr := HJ.out.r
        rw [HD.out] at hr
        have HR4 := Lib.hid (show Rdr W g p1 from hr)
        clear hr
        go_simp
        go_wp2_with (go_at_call 52; refine (pick_any 3 g p1 _ HR4.out (by omega) (by omega)).mono ?_; rintro e w2 ⟨x, rfl, hx, ho, hr2⟩)
        refine HK.out _ _ ⟨u4, u8, u9, u10, _, _, u13, u14, rfl, ?_⟩
        have h0 := HJ.out
        exact ⟨h0.o.trans ho, hr2, fun e => let ⟨b, h1, h2⟩ := h0.c0 e; ⟨b, h1, h2.only ho⟩, h0.c1, fun e => let ⟨b, s, h1, h2, h3⟩ := h0.c2 e; ⟨b, s, h1, h2, h3.only ho⟩, h0.c3, fun _ => ⟨x, rfl, by omega⟩, fun e => let ⟨b, x, s, h1, h2, h4, h3⟩ := h0.c5 e; ⟨b, x, s, h1, h2, h4, h3.only ho⟩, h0.c6, h0.c7⟩
      · obtain ⟨b, s, rfl, hs, hb⟩ := HJ.out.c2 (HDEP.out { on := 2, ground := Ground.data } (by simp) rfl)
        obtain ⟨x, rfl, hx⟩ := HJ.out.c4 (HDEP.out { on := 4, ground := Ground.data } (by simp) rfl)
        have HB := Lib.hid hb
        clear hb
        have hx0 : (0 : Int) ≤ (x : Int) := by omega
        have hx1 : (x : Int) < 3 := by omega
        go_simp
        exact HK.out _ _ ⟨u4, u8, u9, _, u11, _, _, u14, rfl, { HJ.out with c5 := fun _ => ⟨b, x, s, rfl, hs, hx, HB.out⟩ }⟩
      · obtain ⟨b, x, s, rfl, hs, hx, hb⟩ := HJ.out.c5 (HDEP.out { on := 5, ground := Ground.data } (by simp) rfl)
        have hc := hb.cell (pick3_at hx _ _ _)
        obtain ⟨s', he, hs'⟩ := pick3_str (a := ⟨#[10]⟩) (b := s) (c := ⟨#[97, 127]⟩) hx
        rw [he] at hc
        have HS' := Lib.hid (show s'.size ≤ 61 by rcases hs' with rfl | rfl | rfl <;> first | exact hs | decide)
        clear hb he hs'
        go_simp
        exact HK.out _ _ ⟨u4, u8, u9, u10, u11, u12, _, _, rfl, { HJ.out with c6 := fun _ => ⟨s', rfl, HS'.out⟩ }⟩
      · obtain ⟨s, rfl, hs⟩ := HJ.out.c6 (HDEP.out { on := 6, ground := Ground.data } (by simp) rfl)
        go_simp
        exact HK.out _ _ ⟨_, u8, u9, u10, u11, u12, u13, _, rfl, { HJ.out with c7 := fun _ => ⟨s, rfl, hs⟩ }⟩
    · intro d a W hd hJ
      obtain ⟨u4, u8, u9, u10, u11, u12, u13, u14, rfl, hj⟩ := hJ
      obtain ⟨s, rfl, hs⟩ := hj.c7 (hd 7 (by decide))
      have h4 := hd 4 (by decide)
      have hr := hj.r
      rw [h4] at hr
      have HRF := Lib.hid (show Rdr W g (p1 + 1) from hr)
      have HOF := Lib.hid hj.o
      clear hr hj hd h4
      go_wp2
      go_ret
      exact ⟨_, _, rfl, ⟨s, rfl, hs⟩, HO1.out.trans HOF.out, HRF.out, by omega⟩
end Go.Proofs.YtedcgbmdfmgcgaaGreatDoor
