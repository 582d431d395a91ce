/- DrawReadBundle; FnReadBundle, walked: the order of lines does not matter. Written by gen_mb.py. -/
import Derived.Test.YtkglfmgmmnfmbaaDoorZg
import Derived.Test.YtkglfmgmmnfmbaaDoorS4
import Derived.Test.YtkglfmgmmnfmbaaDoorDt
import Derived.Test.YtkglfmgmmnfmbaaDoorM2
import Derived.Test.YtkglfmgmmnfmbaaDoorGa7
set_option linter.unusedVariables false
namespace Go.Proofs.YtkglfmgmmnfmbaaDoor
open Go.RowKit
theorem str_info0 : (Tryd.prog.info? 9).map (fun i => (i.zero, i.size, i.bytes)) = some (some (.string ⟨#[]⟩), 1, 16) := by kernel_rfl
theorem six_at (s0 : ByteArray) {x : Nat} (hx : x < 6) : ∃ u : ByteArray, (#[.string ⟨#[]⟩, .string ⟨#[49, 54, 50, 32, 97]⟩, .string ⟨#[49, 54, 50, 32, 98]⟩, .string ⟨#[49, 54, 50]⟩, .string ⟨#[122, 122, 32, 97]⟩, .string s0] : Array Value)[x]? = some (.string u) ∧ (u ∈ extras5 ∨ u = s0) := by
  match x, hx with
  | 0, _ => exact ⟨_, rfl, .inl (by simp [extras5])⟩
  | 1, _ => exact ⟨_, rfl, .inl (by simp [extras5])⟩
  | 2, _ => exact ⟨_, rfl, .inl (by simp [extras5])⟩
  | 3, _ => exact ⟨_, rfl, .inl (by simp [extras5])⟩
  | 4, _ => exact ⟨_, rfl, .inl (by simp [extras5])⟩
  | 5, _ => exact ⟨_, rfl, .inr rfl⟩
section
variable {w1 : World} {g : Nat} {V : Value} {lines : List ByteArray} {s0 : ByteArray} {b o : Nat} {pm : Nat} {V2 : Value} {u : ByteArray} {gl g1 xx pp : Nat} {d : Nat → Bool} {v0 v1 v2 v3 v4 v5 v6 v7 v8 v9 v10 : Value} {W W' : World}
structure RbJ (w1 : World) (g : Nat) (V : Value) (lines : List ByteArray) (s0 : ByteArray) (b o pm : Nat) (V2 : Value) (u : ByteArray) (gl g1 xx pp : Nat) (d : Nat → Bool) (v0 v1 v2 v3 v4 v5 v6 v7 v8 v9 v10 : Value) (W : World) : Prop where
  onl : Only g w1 W
  r : Rdr W g pp
  lg : g < w1.heap.size
  ne : b ≠ g
  le : pp ≤ pm
  le6 : d 6 = false → pp + 1 ≤ pm
  own : d 10 = false → Own W w1.heap.size 9 1 encS V lines
  hc : d 10 = false → W.cell? ⟨b, o, none⟩ = some (.string s0)
  c0 : d 0 = true → v0 = V
  c1 : d 1 = true → v1 = V
  c2 : d 2 = true → v2 = .pointer (some ⟨b, o, none⟩)
  c3 : d 3 = true → v3 = .string s0
  c4 : d 4 = true → v4 = .slice (some ⟨gl, 0, none⟩) 6 6
  k4 : d 4 = true → d 10 = false → Blk W g gl #[.string ⟨#[]⟩, .string ⟨#[49, 54, 50, 32, 97]⟩, .string ⟨#[49, 54, 50, 32, 98]⟩, .string ⟨#[49, 54, 50]⟩, .string ⟨#[122, 122, 32, 97]⟩, .string s0] 9
  c5 : d 5 = true → v5 = .pointer (some ⟨g, 0, none⟩)
  c6 : d 6 = true → v6 = .int .i64 (xx : Int) ∧ xx < 6
  c7 : d 7 = true → v7 = .pointer (some ⟨gl, xx, none⟩) ∧ xx < 6 ∧ d 4 = true
  c8 : d 8 = true → v8 = .string u ∧ (u ∈ extras5 ∨ u = s0)
  c9 : d 9 = true → v9 = .slice (some ⟨g1, 0, none⟩) 1 1
  k9 : d 9 = true → d 10 = false → W.cell? ⟨g1, 0, none⟩ = some (.string u)
  o9 : d 9 = true → d 8 = true ∧ g1 ≠ g
  o10 : d 10 = true → d 9 = true ∧ d 6 = true ∧ d 4 = true
  o43 : d 4 = true → d 3 = true
  o32 : d 3 = true → d 2 = true
  o21 : d 2 = true → d 1 = true
  o100 : d 10 = true → d 0 = true
  o76 : d 7 = true → d 6 = true
  o87 : d 8 = true → d 7 = true
  c10 : d 10 = true → v10 = V2 ∧ Own W w1.heap.size 9 1 encS V2 (lines ++ [u])
theorem RbJ.n10 (h : RbJ w1 g V lines s0 b o pm V2 u gl g1 xx pp d v0 v1 v2 v3 v4 v5 v6 v7 v8 v9 v10 W) (hn : d 9 = false ∨ d 6 = false ∨ d 4 = false) : d 10 = false := by
  cases e : d 10
  · rfl
  · obtain ⟨h1, h2, h3⟩ := h.o10 e
    rcases hn with h4 | h4 | h4
    · rw [h1] at h4; cases h4
    · rw [h2] at h4; cases h4
    · rw [h3] at h4; cases h4
theorem RbJ.step4 (h : RbJ w1 g V lines s0 b o pm V2 u gl g1 xx pp d v0 v1 v2 v3 v4 v5 v6 v7 v8 v9 v10 W) (h4 : d 4 = false) (h3 : d 3 = true) : RbJ w1 g V lines s0 b o pm V2 u W.heap.size g1 xx pp (fun j => j == 4 || d j) v0 v1 v2 v3 (.slice (some ⟨W.heap.size, 0, none⟩) 6 6) v5 v6 v7 v8 v9 v10 (W.alloc (.cells #[.string ⟨#[]⟩, .string ⟨#[49, 54, 50, 32, 97]⟩, .string ⟨#[49, 54, 50, 32, 98]⟩, .string ⟨#[49, 54, 50]⟩, .string ⟨#[122, 122, 32, 97]⟩, .string s0] 9)) := by
  have h10 := h.n10 (.inr (.inr h4))
  have hb := (Below.refl W.heap.size W).alloc (Nat.le_refl _) (.cells #[.string ⟨#[]⟩, .string ⟨#[49, 54, 50, 32, 97]⟩, .string ⟨#[49, 54, 50, 32, 98]⟩, .string ⟨#[49, 54, 50]⟩, .string ⟨#[122, 122, 32, 97]⟩, .string s0] 9)
  exact { h with
    onl := h.onl.alloc _
    r := h.r.alloc _
    own := fun e => (h.own e).alloc _
    hc := fun e => cell_alloc (h.hc e)
    c4 := fun _ => rfl
    k4 := fun _ _ => Blk.new h.r.lt
    c7 := fun e => by rw [(h.c7 e).2.2] at h4; cases h4
    k9 := fun e e2 => cell_alloc (h.k9 e e2)
    o43 := fun _ => h3
    o10 := fun e => by rw [show d 10 = true from e] at h10; cases h10
    c10 := fun e => by rw [show d 10 = true from e] at h10; cases h10 }
theorem RbJ.step6 (h : RbJ w1 g V lines s0 b o pm V2 u gl g1 xx pp d v0 v1 v2 v3 v4 v5 v6 v7 v8 v9 v10 W) (h6 : d 6 = false) (h7 : d 7 = false) {x : Nat} (hx : x < 6) (ho : Only g W W') (hr : Rdr W' g (pp + 1)) : RbJ w1 g V lines s0 b o pm V2 u gl g1 x (pp + 1) (fun j => j == 6 || d j) v0 v1 v2 v3 v4 v5 (.int .i64 (x : Int)) v7 v8 v9 v10 W' := by
  have h10 := h.n10 (.inr (.inl h6))
  exact { h with
    onl := h.onl.trans ho
    r := hr
    le := h.le6 h6
    le6 := fun e => by cases e
    own := fun e => (h.own e).only ho h.lg
    hc := fun e => ho.cell h.ne (h.hc e)
    k4 := fun e e2 => (h.k4 e e2).only ho
    c6 := fun _ => ⟨rfl, hx⟩
    o76 := fun _ => rfl
    c7 := fun e => by rw [show d 7 = true from e] at h7; cases h7
    k9 := fun e e2 => ho.cell (h.o9 e).2 (h.k9 e e2)
    o10 := fun e => by rw [show d 10 = true from e] at h10; cases h10
    c10 := fun e => by rw [show d 10 = true from e] at h10; cases h10 }
theorem RbJ.step8 (h : RbJ w1 g V lines s0 b o pm V2 u gl g1 xx pp d v0 v1 v2 v3 v4 v5 v6 v7 v8 v9 v10 W) (h8 : d 8 = false) (h7 : d 7 = true) {u2 : ByteArray} (hin : u2 ∈ extras5 ∨ u2 = s0) : RbJ w1 g V lines s0 b o pm V2 u2 gl g1 xx pp (fun j => j == 8 || d j) v0 v1 v2 v3 v4 v5 v6 v7 (.string u2) v9 v10 W := by
  have h9 : d 9 = false := by
    cases e : d 9
    · rfl
    · rw [(h.o9 e).1] at h8; cases h8
  have h10 := h.n10 (.inl h9)
  exact { h with
    c8 := fun _ => ⟨rfl, hin⟩
    k9 := fun e => by rw [show d 9 = true from e] at h9; cases h9
    o9 := fun e => by rw [show d 9 = true from e] at h9; cases h9
    o87 := fun _ => h7
    c10 := fun e => by rw [show d 10 = true from e] at h10; cases h10 }
theorem RbJ.step9 (h : RbJ w1 g V lines s0 b o pm V2 u gl g1 xx pp d v0 v1 v2 v3 v4 v5 v6 v7 v8 v9 v10 W) (h9 : d 9 = false) (h8 : d 8 = true) : RbJ w1 g V lines s0 b o pm V2 u gl W.heap.size xx pp (fun j => j == 9 || d j) v0 v1 v2 v3 v4 v5 v6 v7 v8 (.slice (some ⟨W.heap.size, 0, none⟩) 1 1) v10 (W.alloc (.cells #[.string u] 9)) := by
  have h10 := h.n10 (.inl h9)
  exact { h with
    onl := h.onl.alloc _
    r := h.r.alloc _
    own := fun e => (h.own e).alloc _
    hc := fun e => cell_alloc (h.hc e)
    k4 := fun e e2 => (h.k4 e e2).only (only_alloc g W _)
    c9 := fun _ => rfl
    k9 := fun _ _ => new_cell rfl
    o9 := fun _ => ⟨h8, fun e => Nat.lt_irrefl _ (e ▸ h.r.lt)⟩
    o10 := fun e => by rw [show d 10 = true from e] at h10; cases h10
    c10 := fun e => by rw [show d 10 = true from e] at h10; cases h10 }
theorem RbJ.step10 (h : RbJ w1 g V lines s0 b o pm V2 u gl g1 xx pp d v0 v1 v2 v3 v4 v5 v6 v7 v8 v9 v10 W) (h10 : d 10 = false) (h9 : d 9 = true) (h6 : d 6 = true) (h4 : d 4 = true) (h0 : d 0 = true) {V3 : Value} (hown : Own W' w1.heap.size 9 1 encS V3 (lines ++ [u])) (hb : Below w1.heap.size W W') : RbJ w1 g V lines s0 b o pm V3 u gl g1 xx pp (fun j => j == 10 || d j) v0 v1 v2 v3 v4 v5 v6 v7 v8 v9 V3 W' := by
  exact { h with
    onl := h.onl.and_below hb
    r := h.r.under h.lg hb
    own := fun e => by cases e
    hc := fun e => by cases e
    k4 := fun _ e => by cases e
    k9 := fun _ e => by cases e
    o10 := fun _ => ⟨h9, h6, h4⟩
    o100 := fun _ => h0
    c10 := fun _ => ⟨rfl, hown⟩ }
end
theorem step_str_o {ops : Array Oper} {o : Oper} {a : Act} {K : Act → World → Prop} {Q : Exit → Act → World → Prop} {E' : Prop} {w1 W : World} {l : List ByteArray} {y : ByteArray} {v : Value} {g1 : Nat} {s x : Operand} (hown : Own W w1.heap.size 9 1 encS v l) (hz : w1.heap.size ≤ W.heap.size) (hr : StrAt W g1 y) (hl : l.length ≤ 16777216) (hw : Region.wanted o (yielded ops a.tmps) = true) (ho : o.op = .call { callee := .builtin .append, args := #[s, x], argTypes := #[31, 31] })
    (hs : a.eval s = v) (hx : a.eval x = .slice (some ⟨g1, 0, none⟩) 1 1)
    (h : ∀ v' w', Own w' w1.heap.size 9 1 encS v' (l ++ [y]) → Below w1.heap.size W w' → K (a.put o.dst v') w') : if Region.wanted o (yielded ops a.tmps) = true then Oper.wp Tryd.prog o a W K Q else E' := by
  obtain ⟨i0, hi0, hz0, hz1, hz2⟩ := info_parts str_info
  exact step_appW Tryd.underlying31 hi0 hz0 hz1 hz2 rfl (by decide) (by decide) hw s x ho hown (Below.refl _ _) (Nat.le_refl _) hz (by simp; omega) hr.sl (by intro h; cases h) (fun _ => rfl) oneS hs hx (fun v' w' h1 h2 _ => h v' w' h1 h2)
/-- Lines that are drawn. -/
def LinesGot (w : World) (e : Ending) (w' : World) : Prop :=
  ∃ (v : Value) (ls : List ByteArray), e = .returned v ∧ Own w' w.heap.size 9 1 encS v ls ∧ DrawnL ls ∧ ls.length ≤ 45 ∧ (∀ x ∈ ls, x.size ≤ 67) ∧ Below w.heap.size w w'
theorem extras_size : ∀ x ∈ extras5, x.size ≤ 67 := by decide
set_option maxHeartbeats 8000000 in
set_option maxRecDepth 100000 in
theorem DrawReadBundle_any (A : Option Addr) (n c : Nat) (w : World) (hb : BytesIn w A n c) : Calls Tryd.prog 9 #[.slice A n c] w (LinesGot w) := by
  obtain ⟨i0, hi0, hz0, hz1, hz2⟩ := info_parts str_info0
  go_enter Tryd.func9, Tryd.ntmps9
  go_wp2_with fail
  refine (l20Open_any _ _ _ _ hb).mono ?_
  rintro e w1 ⟨rfl, hb1, hr1, hz1'⟩
  have HR1 := Lib.hid hr1
  have HB1 := Lib.hid hb1
  have hlt1 : w.heap.size < w1.heap.size := by omega
  clear hr1 hb1
  go_wp2_with fail
  refine (l20Store_any _ _ _ _ HR1.out (by omega) (by omega)).mono ?_
  rintro e w2 ⟨v2, l, root, p2, rfl, hown2, hst2, ho2, hr2, hp2⟩
  obtain ⟨dk, hdk, hdr⟩ := hst2.drawn rfl
  have HDR := Lib.hid hdr
  have hpos := hst2.pos
  have hlen := hst2.len
  have HFIT := Lib.hid hst2.fit
  have HFP := Lib.hid hst2.fitP
  obtain ⟨X2, c2, rfl, hle2, hs2, _⟩ := hown2.sl
  have HS2 := Lib.hid hs2
  have HO2 := Lib.hid ho2
  have HR2 := Lib.hid hr2
  clear hown2 hst2 hs2 ho2 hr2 hdr
  have hBL := fun W h => sBundleLines_any X2 c2 l W h (by omega) HFP.out
  unfold OwnRes at hBL
  have hbl : (bundL l).length = l.length := by unfold bundL; rw [if_pos (drawnS_ok HDR.out).1, List.length_map]
  have HSZ := Lib.hid (lineOf_size HFIT.out)
  have HDL := Lib.hid (fun more (h : ∀ x ∈ more, x ∈ extras5 ∨ x ∈ bundL l) => show DrawnL (bundL l ++ more) from ⟨dk, l, root, more, hdk, HDR.out, rfl, h⟩)
  generalize bundL l = L at *
  have HBL := Lib.hid hBL
  clear hBL
  go_wp2_with fail
  refine (HBL.out _ HS2.out).mono ?_
  rintro e w3 ⟨v3', rfl, hown3, hb3⟩
  have hlt3 : w.heap.size < w2.heap.size := Nat.lt_of_lt_of_le hlt1 HO2.out.size
  have HW3 := Lib.hid hown3
  have HO3 := Lib.hid (HO2.out.trans (Only.of_below hb3))
  have HX3 := Lib.hid (Only.of_below (g := w.heap.size) hb3)
  have HR3 := Lib.hid (HR2.out.below hb3)
  clear hown3 hb3
  go_wp2_with fail
  refine (pick_any 4 _ _ _ HR3.out (by omega) (by omega)).mono ?_
  rintro e w4 ⟨k0, rfl, hk0, ho4, hr4⟩
  have HW4 := Lib.hid (HW3.out.only ho4 hlt3)
  have HX4 := Lib.hid (HX3.out.trans ho4)
  have HR4 := Lib.hid hr4
  clear ho4 hr4 HW3 HX3 HR3
  go_wp2_with fail
  go_loopw [6, 7] (fun vo vk wr => ∃ (k : Nat) (more : List ByteArray) (p1 : Nat), k + more.length ≤ 3 ∧ vk = .int .i64 k ∧ p1 + k ≤ p2 + 5 ∧ Hid (∀ x ∈ more, x ∈ extras5 ∨ x ∈ L) ∧ Hid (Own wr w2.heap.size 9 1 encS vo (L ++ more)) ∧ Hid (Only w.heap.size w2 wr) ∧ Hid (Rdr wr w.heap.size p1)) (fun _ vk _ => (intOf vk).toNat)
  case atStart => exact ⟨k0, [], p2 + 1, by simp; omega, rfl, by omega, (fun x hx => by cases hx), (by have h := HW4.out; rwa [List.append_nil]), HX4.out, HR4.out⟩
  case round =>
    obtain ⟨k, more, p1, hk, rfl, hp1, HM, HW, HX, HRD⟩ := hrel
    by_cases hk0 : k = 0
    · subst hk0
      have hkz : ¬ (0 : Int) > 0 := by decide
      have HEND := Lib.hid (HDL.out more HM.out)
      have HBE := Lib.hid (HB1.out.trans ((HO2.out.trans HX.out).below (Nat.le_refl _) (by omega)))
      have HWE := Lib.hid (HW.out.mono (show w.heap.size ≤ w2.heap.size by omega))
      go_wp2
      go_ret
      refine ⟨_, _, rfl, HWE.out, HEND.out, by rw [List.length_append]; omega, fun x hx => ?_, HBE.out⟩
      rcases List.mem_append.1 hx with h | h
      · exact HSZ.out x h
      · rcases HM.out x h with h2 | h2
        · exact extras_size x h2
        · exact HSZ.out x h2
    · have hkp : (k : Int) > 0 := by omega
      have hll : (L ++ more).length = L.length + more.length := List.length_append
      obtain ⟨X6, c6, e6, hle6, hs6, hg6⟩ := HW.out.sl
      have hp0 : 0 < (L ++ more).length := by omega
      obtain ⟨b6, o6, e7, hcell⟩ := hs6.getS hp0
      have hs0 : (L ++ more)[0] ∈ L := by
        rw [List.getElem_append_left (show 0 < L.length by omega)]; exact List.getElem_mem _
      subst e7
      have hbne : b6 ≠ w.heap.size := by
        rcases hg6 with ⟨_, h⟩ | ⟨gg, h, h2, h3⟩
        · cases h
        · injection h with h; injection h with h _ _; omega
      rw [Nat.add_zero] at hcell
      subst e6
      have HS0 := Lib.hid hs0
      have HLL := Lib.hid hll
      have hl45 : (L ++ more).length ≤ 44 := by omega
      have HMORE := Lib.hid (fun u (h : u ∈ extras5 ∨ u = (L ++ more)[0]) => show (∀ x ∈ more ++ [u], x ∈ extras5 ∨ x ∈ L) from fun x hx => by
        rcases List.mem_append.1 hx with h1 | h1
        · exact HM.out x h1
        · rw [List.mem_singleton] at h1
          subst h1
          rcases h with h | h
          · exact .inl h
          · exact .inr (by rw [h]; exact HS0.out))
      have HAS := Lib.hid (fun u : ByteArray => show (L ++ more) ++ [u] = L ++ (more ++ [u]) from List.append_assoc _ _ _)
      have hp1' : p1 ≤ 1000000 := by omega
      clear hs6 hg6 hs0
      generalize (L ++ more)[0] = s0 at *
      generalize hLM : L ++ more = LM at *
      have HOLD := Lib.hid hcell
      have HWL := Lib.hid (show Own wr w2.heap.size 9 1 encS (.slice (some ⟨b6, o6, none⟩) LM.length c6) LM from HW.out)
      have hlm : (0 : Int) < (LM.length : Int) := by omega
      clear hll hLM hcell HW
      go_wp2_with fail
      generalize decide (0 < k) = bk
      refine wp_region_inv (by kernel_rfl) (by kernel_rfl) (fun a0 d a W => ∃ (z6 v0 v1 v2 v3 v4 v5 v6 v7 v8 v9 v10 V2 : Value) (u : ByteArray) (gl g1 xx pp : Nat), a = ⟨#[.slice A n c, undef, .slice none 0 0, .pointer (some ⟨w.heap.size, 0, none⟩), .slice X2 l.length c2, .int .i64 root, z6, .int .i64 (k : Int), .slice A n c, .pointer (some ⟨w.heap.size, 0, none⟩), .tuple #[.slice X2 l.length c2, .int .i64 root], .pointer (some ⟨w.heap.size, 0, none⟩), .tuple #[.slice X2 l.length c2, .int .i64 root], .slice X2 l.length c2, .int .i64 root, .slice X2 l.length c2, v3', .pointer (some ⟨w.heap.size, 0, none⟩), .int .i64 (k0 : Int), .int .i64 (k : Int), .bool bk, u21, u22, v0, v1, v2, v3, v4, v5, v6, v7, v8, v9, v10, undef], []⟩ ∧ ((d 11 = false → z6 = .slice (some ⟨b6, o6, none⟩) LM.length c6) ∧ (d 11 = true → z6 = v10 ∧ d 10 = true)) ∧ RbJ w2 w.heap.size (.slice (some ⟨b6, o6, none⟩) LM.length c6) LM s0 b6 o6 (p1 + 1) V2 u gl g1 xx pp d v0 v1 v2 v3 v4 v5 v6 v7 v8 v9 v10 W) ?_ ?_ ?_
      · refine ⟨_, _, _, _, _, _, _, _, _, _, _, _, .slice none 0 0, ⟨#[]⟩, 0, 0, 0, p1, rfl, ⟨fun _ => rfl, nofun⟩, ?_⟩
        exact { onl := HX.out.drewN 1, r := HRD.out.below (Below_drewN (Below.refl _ _) 1), lg := hlt3, ne := hbne, le := Nat.le_succ _, le6 := fun _ => Nat.le_refl _, own := fun _ => HWL.out.drew, hc := fun _ => HOLD.out, c0 := nofun, c1 := nofun, c2 := nofun, c3 := nofun, c4 := nofun, k4 := nofun, c5 := nofun, c6 := nofun, c7 := nofun, c8 := nofun, c9 := nofun, k9 := nofun, o9 := nofun, o10 := nofun, o43 := nofun, o32 := nofun, o21 := nofun, o100 := nofun, o76 := nofun, o87 := nofun, c10 := nofun }
      · refine ⟨?_, ?_, ?_, ?_, ?_, ?_, ?_, ?_, ?_, ?_, ?_, ?_, trivial⟩
        all_goals
          intro d a W K hd hdep hJ hK
          obtain ⟨z6, v0, v1, v2, v3, v4, v5, v6, v7, v8, v9, v10, V2, u, gl, g1, xx, pp, rfl, hz, hj⟩ := hJ
          have HZ := Lib.hid hz
          have HJ := Lib.hid hj
          have HK := Lib.hid hK
          have HD := Lib.hid hd
          have HDEP := Lib.hid hdep
          clear hz hj hK hd hdep
        · have h11 : d 11 = false := by
            cases e : d 11
            · rfl
            · exact absurd (HJ.out.o100 (HZ.out.2 e).2) (by rw [HD.out]; simp)
          obtain rfl := HZ.out.1 h11
          go_simp
          exact HK.out _ _ ⟨_, _, _, _, _, _, _, _, _, _, _, _, _, _, _, _, _, _, rfl, HZ.out, { HJ.out with c0 := fun _ => rfl, o100 := fun _ => rfl }⟩
        · have h11 : d 11 = false := by
            cases e : d 11
            · rfl
            · exact absurd (HJ.out.o21 (HJ.out.o32 (HJ.out.o43 (HJ.out.o10 (HZ.out.2 e).2).2.2))) (by rw [HD.out]; simp)
          obtain rfl := HZ.out.1 h11
          go_simp
          exact HK.out _ _ ⟨_, _, _, _, _, _, _, _, _, _, _, _, _, _, _, _, _, _, rfl, HZ.out, { HJ.out with c1 := fun _ => rfl, o21 := fun _ => rfl }⟩
        · obtain rfl := HJ.out.c1 (HDEP.out { on := 1, ground := Ground.data } (by simp) rfl)
          have h1 := (HDEP.out { on := 1, ground := Ground.data } (by simp) rfl)
          go_simp
          exact HK.out _ _ ⟨_, _, _, _, _, _, _, _, _, _, _, _, _, _, _, _, _, _, rfl, HZ.out, { HJ.out with c2 := fun _ => rfl, o21 := fun _ => h1, o32 := fun _ => rfl }⟩
        · obtain rfl := HJ.out.c2 (HDEP.out { on := 2, ground := Ground.data } (by simp) rfl)
          have h2 := (HDEP.out { on := 2, ground := Ground.data } (by simp) rfl)
          have hn4 : d 4 = false := by
            cases e : d 4
            · rfl
            · exact absurd (HJ.out.o43 e) (by rw [HD.out]; simp)
          have hcw := HJ.out.hc (HJ.out.n10 (.inr (.inr hn4)))
          go_simp
          exact HK.out _ _ ⟨_, _, _, _, _, _, _, _, _, _, _, _, _, _, _, _, _, _, rfl, HZ.out, { HJ.out with c3 := fun _ => rfl, o32 := fun _ => h2, o43 := fun _ => rfl }⟩
        · obtain rfl := HJ.out.c3 (HDEP.out { on := 3, ground := Ground.data } (by simp) rfl)
          have h3 := (HDEP.out { on := 3, ground := Ground.data } (by simp) rfl)
          go_simp
          exact HK.out _ _ ⟨_, _, _, _, _, _, _, _, _, _, _, _, _, _, _, _, _, _, rfl, HZ.out, HJ.out.step4 HD.out h3⟩
        · go_simp
          exact HK.out _ _ ⟨_, _, _, _, _, _, _, _, _, _, _, _, _, _, _, _, _, _, rfl, HZ.out, { HJ.out with c5 := fun _ => rfl }⟩
        · obtain rfl := HJ.out.c5 (HDEP.out { on := 5, ground := Ground.data } (by simp) rfl)
          have hle := HJ.out.le6 HD.out
          have h7 : d 7 = false := by
            cases e : d 7
            · rfl
            · exact absurd (HJ.out.o76 e) (by rw [HD.out]; simp)
          go_simp
          refine (pick_any 6 _ _ _ HJ.out.r (by omega) (by omega)).mono ?_
          rintro e w5 ⟨x, rfl, hx, ho5, hr5⟩
          go_simp
          exact HK.out _ _ ⟨_, _, _, _, _, _, _, _, _, _, _, _, _, _, _, _, _, _, rfl, HZ.out, HJ.out.step6 HD.out h7 (by omega) ho5 hr5⟩
        · have h4 := (HDEP.out { on := 4, ground := Ground.data } (by simp) rfl)
          have h6 := (HDEP.out { on := 6, ground := Ground.data } (by simp) rfl)
          obtain rfl := HJ.out.c4 h4
          obtain ⟨rfl, hx6⟩ := HJ.out.c6 h6
          have hx6i : (xx : Int) < 6 := by omega
          go_simp
          exact HK.out _ _ ⟨_, _, _, _, _, _, _, _, _, _, _, _, _, _, _, _, _, _, rfl, HZ.out, { HJ.out with c7 := fun _ => ⟨rfl, hx6, h4⟩, o76 := fun _ => h6, o87 := fun _ => rfl }⟩
        · have h7 := (HDEP.out { on := 7, ground := Ground.data } (by simp) rfl)
          obtain ⟨rfl, hx6, h4⟩ := HJ.out.c7 h7
          have h9 : d 9 = false := by
            cases e : d 9
            · rfl
            · exact absurd (HJ.out.o9 e).1 (by rw [HD.out]; simp)
          have h10 := HJ.out.n10 (.inl h9)
          obtain ⟨u2, hu2, hin⟩ := six_at s0 hx6
          have hcw := (HJ.out.k4 h4 h10).cell hu2
          go_simp
          exact HK.out _ _ ⟨_, _, _, _, _, _, _, _, _, _, _, _, _, u2, gl, g1, xx, pp, rfl, HZ.out, HJ.out.step8 HD.out h7 hin⟩
        · have h8 := (HDEP.out { on := 8, ground := Ground.data } (by simp) rfl)
          obtain ⟨rfl, hin⟩ := HJ.out.c8 h8
          go_simp
          exact HK.out _ _ ⟨_, _, _, _, _, _, _, _, _, _, _, _, _, _, _, _, _, _, rfl, HZ.out, HJ.out.step9 HD.out h8⟩
        · have h0 := (HDEP.out { on := 0, ground := Ground.data } (by simp) rfl)
          have h9 := (HDEP.out { on := 9, ground := Ground.data } (by simp) rfl)
          obtain rfl := HJ.out.c0 h0
          obtain rfl := HJ.out.c9 h9
          have h7 := HJ.out.o87 (HJ.out.o9 h9).1
          have h4 := (HJ.out.c7 h7).2.2
          have h6 := HJ.out.o76 h7
          refine step_str_o (w1 := w2) (l := LM) (y := u) (g1 := g1) (HJ.out.own HD.out) HJ.out.onl.size (HJ.out.k9 h9 HD.out) (by omega) rfl rfl rfl rfl ?_
          intro v' w' hown' hb'
          go_simp
          exact HK.out _ _ ⟨_, _, _, _, _, _, _, _, _, _, _, _, _, _, _, _, _, _, rfl, ⟨HZ.out.1, fun e => absurd (HZ.out.2 e).2 (by rw [HD.out]; simp)⟩, HJ.out.step10 HD.out h9 h6 h4 h0 hown' hb'⟩
        · have h10 := (HDEP.out { on := 10, ground := Ground.data } (by simp) rfl)
          go_simp
          exact HK.out _ _ ⟨_, _, _, _, _, _, _, _, _, _, _, _, _, _, _, _, _, _, rfl, ⟨fun e => (by cases e), fun _ => ⟨rfl, h10⟩⟩, { HJ.out with onl := HJ.out.onl }⟩
      · intro d a W hd hJ
        obtain ⟨z6, v0, v1, v2, v3, v4, v5, v6, v7, v8, v9, v10, V2, u, gl, g1, xx, pp, rfl, hz, hj⟩ := hJ
        obtain ⟨rfl, h10⟩ := hz.2 (hd 11 (by decide))
        obtain ⟨rfl, hown⟩ := hj.c10 h10
        have hin := (hj.c8 (hd 8 (by decide))).2
        have hle := hj.le
        rw [HAS.out u] at hown
        have HOWN := Lib.hid hown
        have HONL := Lib.hid hj.onl
        have HRR := Lib.hid hj.r
        have HMM := Lib.hid (HMORE.out u hin)
        have hw1 : IntKind.i64.wrap ((k : Int) - 1) = (k : Int) - 1 := IntWalk.i64_in _ (by omega)
        clear hz hj hd hown hin
        go_wp2
        go_roundw
        case rel => exact ⟨k - 1, more ++ [u], pp, by rw [List.length_append, List.length_singleton]; omega, by go_num, by omega, HMM.out, HOWN.out, HONL.out, HRR.out⟩
        case measure => first | (simp [intOf]; done) | (simp [intOf]; omega)
end Go.Proofs.YtkglfmgmmnfmbaaDoor
