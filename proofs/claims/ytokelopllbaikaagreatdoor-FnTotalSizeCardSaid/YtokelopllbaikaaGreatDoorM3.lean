/- Drawn stores with roots and paths: l20Where, l20Rooted; the inputs of four laws. Written by gen_where.py. -/
import Derived.Test.YtokelopllbaikaaGreatDoorS4
import Derived.Test.YtokelopllbaikaaGreatDoorVd
import Derived.Test.YtokelopllbaikaaGreatDoorWk4
import Derived.Test.YtokelopllbaikaaGreatDoorGb2
import Derived.Test.YtokelopllbaikaaGreatDoorGa6
import Derived.Test.YtokelopllbaikaaGreatDoorGa9
set_option linter.unusedVariables false
namespace Go.Proofs.YtokelopllbaikaaGreatDoor
open Go.RowKit
/-- What is known of a store that is drawn with a root. -/
structure StG (l : List Pc) : Prop where
  good : storeV l = true → Good NoZ l
  fit : ∀ q ∈ l, q.2.size ≤ 60
  len : l.length ≤ 41
theorem StG.sweep {l : List Pc} (h : StG l) (roots : List Int) : StG (sweepR l roots) :=
  ⟨fun _ => sweep_good h.good roots, fun q hq => h.fit q ((sweep_sub l roots).subset hq), Nat.le_trans (sweep_sub l roots).length_le h.len⟩
structure WhJ (w w1 : World) (base p : Nat) (vs : Value) (rt : Int) (l : List Pc) (f : Addr) (fc : Nat) (F : List ByteArray) (d : Nat → Bool) (v0 v1 v2 v3 v4 v5 v6 v7 v8 v9 v10 v11 : Value) (W : World) : Prop where
  only : Only w.heap.size w1 W
  own : Own W w1.heap.size 38 2 encP vs l
  ownF : Own W base 9 1 encS (.slice (some f) F.length fc) F
  rdr : d 6 = false → Rdr W w.heap.size p
  c0 : d 0 = true → v0 = vs
  c1 : d 1 = true → v1 = .int .i64 rt
  c2 : d 2 = true → v2 = .slice (some f) F.length fc
  c3 : d 3 = true → v3 = .pointer (some ⟨w.heap.size, 0, none⟩)
  c4 : d 4 = true → v4 = .slice (some f) F.length fc
  c5 : d 5 = true → v5 = .int .i64 (F.length : Int)
  c6 : d 6 = true → ∃ y : Nat, y < F.length ∧ v6 = .int .i64 (y : Int)
  c7 : d 7 = true → ∃ y : Nat, y < F.length ∧ v7 = .pointer (some ⟨f.block, f.off + y, none⟩)
  c8 : d 8 = true → ∃ s : ByteArray, v8 = .string s ∧ s.size ≤ 27
  c9 : d 9 = true → v9 = vs
  c10 : d 10 = true → v10 = .int .i64 rt
  c11 : d 11 = true → ∃ s : ByteArray, v11 = .string s ∧ s.size ≤ 27
def WhereRes (w : World) (e : Ending) (w' : World) : Prop :=
  ∃ (v : Value) (l : List Pc) (root : Int) (s : ByteArray), e = .returned (.tuple #[v, .int .i64 root, .string s]) ∧ Own w' w.heap.size 38 2 encP v l ∧ StG l ∧ s.size ≤ 27 ∧ Below w.heap.size w w'
set_option maxHeartbeats 4000000 in
set_option maxRecDepth 100000 in
theorem l20Where_any (A : Option Addr) (n c : Nat) (w : World) (hb : BytesIn w A n c) : Calls Tryz.prog 27 #[.slice A n c] w (WhereRes w) := by
  go_enter Tryz.func27, Tryz.ntmps27
  go_wp2_with fail
  refine (l20Open_any _ _ _ _ hb).mono ?_
  rintro e w1 ⟨rfl, hb1, hr1, hz1⟩
  have HR1 := Lib.hid hr1
  have HB1 := Lib.hid hb1
  have hg1 : w.heap.size < w1.heap.size := by omega
  have hz0 : w.heap.size ≤ w1.heap.size := by omega
  clear hr1 hb1
  go_wp2_with fail
  refine (l20Store_any _ _ _ _ HR1.out (by omega) (by omega)).mono ?_
  rintro e w2 ⟨v2, l, root, p2, rfl, hown2, hst2, ho2, hr2, hp2⟩
  have HW2 := Lib.hid hown2
  have HO2 := Lib.hid ho2
  have HR2 := Lib.hid hr2
  have HG0 := Lib.hid (show StG l from ⟨hst2.good, hst2.fit, hst2.len⟩)
  clear hown2 ho2 hr2 hst2
  go_wp2_with fail
  refine (odd_any _ _ _ _ HR2.out (by omega) (by omega)).mono ?_
  rintro e wa ⟨ba, pa, rfl, hoa, hra, hpa⟩
  have HWa := Lib.hid (HW2.out.only hoa hg1)
  have HOa := Lib.hid (HO2.out.trans hoa)
  have HRa := Lib.hid hra
  clear hoa hra
  cases ba
  · generalize root = rt at *
    go_wp2_with fail
    refine (odd_any _ _ _ _ HRa.out (by omega) (by omega)).mono ?_
    rintro e wb ⟨bb, pb, rfl, hob, hrb, hpb⟩
    have HWb := Lib.hid (HWa.out.only hob hg1)
    have HOb := Lib.hid (HOa.out.trans hob)
    have HRb := Lib.hid hrb
    clear hob hrb
    cases bb
    · have HWd := HWb
      have HOd := HOb
      have HRd := HRb
      revert HWd HOd HRd
      generalize hwd : wb = wd
      intro HWd HOd HRd
      obtain ⟨LL, hLL⟩ : ∃ LL, LL = l := ⟨_, rfl⟩
      rw [← hLL] at HWd
      have HG := Lib.hid (show StG LL by rw [hLL]; exact HG0.out)
      clear hLL
      obtain ⟨A5, c5, rfl, hle5, hs5, _⟩ := HWd.out.sl
      have HS5 := Lib.hid hs5
      have hl5 := HG.out.len
      have hAF := fun w h => sAllFiles_any A5 c5 LL rt w h (by omega) (fun q hq => Nat.le_trans (HG.out.fit q hq) (by omega))
      have hFS := filesB_size LL rt
      have hFL := filesB_len LL rt
      unfold filesB at hFS hFL
      generalize (allF LL rt).map mk = F at *
      unfold OwnRes at hAF
      have HAF := Lib.hid hAF
      clear hAF hs5
      go_wp2_with fail
      refine (HAF.out _ HS5.out).mono ?_
      rintro e w6 ⟨v6, rfl, hown6, hb6⟩
      obtain ⟨FA, fc, rfl, hlf, hsf, _⟩ := hown6.sl
      have HF6 := Lib.hid hown6
      have HW6 := Lib.hid (HWd.out.below hb6)
      have HO6 := Lib.hid (HOd.out.trans (Only.of_below hb6))
      have HR6 := Lib.hid (HRd.out.below hb6)
      have hgd : w.heap.size < wd.heap.size := HRd.out.lt
      clear hown6 hb6 hsf
      by_cases hF : 0 < F.length
      · have hF' : (0 : Int) < (F.length : Int) := by omega
        go_wp2_with fail
        refine (pick_any 2 _ _ _ HR6.out (by omega) (by omega)).mono ?_
        rintro e w7 ⟨x, rfl, hx, ho7, hr7⟩
        have HR7 := Lib.hid hr7
        have HO7 := Lib.hid (HO6.out.trans ho7)
        have HW7 := Lib.hid (HW6.out.only ho7 hg1)
        have HF7 := Lib.hid (HF6.out.only ho7 hgd)
        clear hr7 ho7
        by_cases hx0 : x = 0
        · have hx0' : ((x : Int) == 0) = true := by rw [beq_iff_eq]; omega
          go_wp2_with fail
          obtain ⟨fb, fo, hFA, _⟩ := HF7.out.sl'.getS hF
          subst hFA
          refine wp_region_inv (by kernel_rfl) (by kernel_rfl) (fun a0 d a W => ∃ v0 v1 v2 v3 v4 v5 v6 v7 v8 v9 v10 v11 : Value, a = ⟨#[Value.slice A n c, undef, v9, v10, v11, Value.pointer (some { block := w.heap.size, off := 0 }), Value.slice A5 LL.length c5, Value.int IntKind.i64 rt, Value.slice (some { block := fb, off := fo }) F.length fc, Value.slice A n c, Value.pointer (some { block := w.heap.size, off := 0 }), Value.tuple #[Value.slice A5 LL.length c5, Value.int IntKind.i64 rt], Value.pointer (some { block := w.heap.size, off := 0 }), Value.tuple #[Value.slice A5 LL.length c5, Value.int IntKind.i64 rt], Value.slice A5 LL.length c5, Value.int IntKind.i64 rt, Value.pointer (some { block := w.heap.size, off := 0 }), Value.bool false, undef, undef, Value.pointer (some { block := w.heap.size, off := 0 }), Value.bool false, undef, undef, undef, undef, Value.slice A5 LL.length c5, Value.int IntKind.i64 rt, Value.slice (some { block := fb, off := fo }) F.length fc, Value.slice (some { block := fb, off := fo }) F.length fc, Value.int IntKind.i64 ↑F.length, Value.bool true, Value.bool true, Value.pointer (some { block := w.heap.size, off := 0 }), Value.int IntKind.i64 0, Value.bool true, Value.bool true, v0, v1, v2, v3, v4, v5, v6, v7, v8, undef, undef, undef, undef], []⟩ ∧ WhJ w w1 wd.heap.size (pb + 1) (.slice A5 LL.length c5) rt LL ⟨fb, fo, none⟩ fc F d v0 v1 v2 v3 v4 v5 v6 v7 v8 v9 v10 v11 W) ?_ ?_ ?_
          · exact ⟨_, _, _, _, _, _, _, _, _, _, _, _, rfl, ⟨HO7.out.drewN 1, HW7.out.drew, HF7.out.drew, fun _ => HR7.out.below (Below_drewN (Below.refl _ _) 1), nofun, nofun, nofun, nofun, nofun, nofun, nofun, nofun, nofun, nofun, nofun, nofun⟩⟩
          · refine ⟨?_, ?_, ?_, ?_, ?_, ?_, ?_, ?_, ?_, ?_, ?_, ?_, trivial⟩
            all_goals
              intro d a W K hd hdep hJ hK
              obtain ⟨v0, v1, v2, v3, v4, v5, v6, v7, v8, v9, v10, v11, rfl, hj⟩ := hJ
              have HJ := Lib.hid hj
              have HK := Lib.hid hK
              have HD := Lib.hid hd
              have HDEP := Lib.hid hdep
              clear hj hK hd hdep
            · go_simp
              exact HK.out _ _ ⟨_, _, _, _, _, _, _, _, _, _, _, _, rfl, { HJ.out with c0 := fun _ => rfl }⟩
            · go_simp
              exact HK.out _ _ ⟨_, _, _, _, _, _, _, _, _, _, _, _, rfl, { HJ.out with c1 := fun _ => rfl }⟩
            · go_simp
              exact HK.out _ _ ⟨_, _, _, _, _, _, _, _, _, _, _, _, rfl, { HJ.out with c2 := fun _ => rfl }⟩
            · go_simp
              exact HK.out _ _ ⟨_, _, _, _, _, _, _, _, _, _, _, _, rfl, { HJ.out with c3 := fun _ => rfl }⟩
            · go_simp
              exact HK.out _ _ ⟨_, _, _, _, _, _, _, _, _, _, _, _, rfl, { HJ.out with c4 := fun _ => rfl }⟩
            · obtain rfl := HJ.out.c4 (HDEP.out { on := 4, ground := Ground.data } (by simp) rfl)
              go_simp
              exact HK.out _ _ ⟨_, _, _, _, _, _, _, _, _, _, _, _, rfl, { HJ.out with c5 := fun _ => rfl }⟩
            · obtain rfl := HJ.out.c3 (HDEP.out { on := 3, ground := Ground.data } (by simp) rfl)
              obtain rfl := HJ.out.c5 (HDEP.out { on := 5, ground := Ground.data } (by simp) rfl)
              go_simp
              refine (pick_any (F.length : Int) _ _ _ (HJ.out.rdr HD.out) (by omega) (by omega)).mono ?_
              rintro e W2 ⟨y, rfl, hy, ho, hr⟩
              go_simp
              exact HK.out _ _ ⟨_, _, _, _, _, _, _, _, _, _, _, _, rfl, { HJ.out with only := HJ.out.only.trans ho, own := HJ.out.own.only ho hg1, ownF := HJ.out.ownF.only ho hgd, rdr := fun h => (by cases h), c6 := fun _ => ⟨y, by omega, rfl⟩ }⟩
            · obtain rfl := HJ.out.c2 (HDEP.out { on := 2, ground := Ground.data } (by simp) rfl)
              obtain ⟨y, hy, rfl⟩ := HJ.out.c6 (HDEP.out { on := 6, ground := Ground.data } (by simp) rfl)
              have hy' : (y : Int) < (F.length : Int) := by omega
              go_simp
              exact HK.out _ _ ⟨_, _, _, _, _, _, _, _, _, _, _, _, rfl, { HJ.out with c7 := fun _ => ⟨y, hy, rfl⟩ }⟩
            · obtain ⟨y, hy, rfl⟩ := HJ.out.c7 (HDEP.out { on := 7, ground := Ground.data } (by simp) rfl)
              obtain ⟨b5, o5, e5, hc5⟩ := HJ.out.ownF.sl'.getS hy
              injection e5 with e5
              injection e5 with e6 e7
              subst e6 e7
              have hz5 := hFS _ (List.getElem_mem hy)
              generalize F[y] = sy at *
              go_simp
              exact HK.out _ _ ⟨_, _, _, _, _, _, _, _, _, _, _, _, rfl, { HJ.out with c8 := fun _ => ⟨sy, rfl, hz5⟩ }⟩
            · obtain rfl := HJ.out.c0 (HDEP.out { on := 0, ground := Ground.data } (by simp) rfl)
              go_simp
              exact HK.out _ _ ⟨_, _, _, _, _, _, _, _, _, _, _, _, rfl, { HJ.out with c9 := fun _ => rfl }⟩
            · obtain rfl := HJ.out.c1 (HDEP.out { on := 1, ground := Ground.data } (by simp) rfl)
              go_simp
              exact HK.out _ _ ⟨_, _, _, _, _, _, _, _, _, _, _, _, rfl, { HJ.out with c10 := fun _ => rfl }⟩
            · obtain ⟨sy, rfl, hz5⟩ := HJ.out.c8 (HDEP.out { on := 8, ground := Ground.data } (by simp) rfl)
              go_simp
              exact HK.out _ _ ⟨_, _, _, _, _, _, _, _, _, _, _, _, rfl, { HJ.out with c11 := fun _ => ⟨sy, rfl, hz5⟩ }⟩
          · intro d a W hd hJ
            obtain ⟨v0, v1, v2, v3, v4, v5, v6, v7, v8, v9, v10, v11, rfl, hj⟩ := hJ
            obtain rfl := hj.c9 (hd 9 (by decide))
            obtain rfl := hj.c10 (hd 10 (by decide))
            obtain ⟨sy, rfl, hz5⟩ := hj.c11 (hd 11 (by decide))
            have HW8 := Lib.hid hj.own
            have HO8 := Lib.hid hj.only
            clear hj hd
            go_wp2
            go_ret3
            exact ⟨_, _, _, _, rfl, HW8.out.mono hz0, HG.out, hz5, HB1.out.trans (HO8.out.below (by omega) HB1.out.size)⟩
        · have hx0' : ((x : Int) == 0) = false := by rw [beq_eq_false_iff_ne]; omega
          go_wp2_with fail
          refine (l20Path_any _ _ _ _ HR7.out (by omega) (by omega)).mono ?_
          rintro e w9 ⟨v9, p9, rfl, ⟨s, rfl, hs⟩, ho9, hr9, hp9⟩
          have HW9 := Lib.hid (HW7.out.only ho9 hg1)
          have HO9 := Lib.hid (HO7.out.trans ho9)
          clear hr9 ho9
          go_wp2
          go_ret3
          exact ⟨_, _, _, s, rfl, HW9.out.mono hz0, HG.out, by omega, HB1.out.trans (HO9.out.below (by omega) HB1.out.size)⟩
      · have hF' : ¬ (0 : Int) < (F.length : Int) := by omega
        go_wp2_with fail
        refine (l20Path_any _ _ _ _ HR6.out (by omega) (by omega)).mono ?_
        rintro e w9 ⟨v9, p9, rfl, ⟨s, rfl, hs⟩, ho9, hr9, hp9⟩
        have HW9 := Lib.hid (HW6.out.only ho9 hg1)
        have HO9 := Lib.hid (HO6.out.trans ho9)
        clear hr9 ho9
        go_wp2
        go_ret3
        exact ⟨_, _, _, s, rfl, HW9.out.mono hz0, HG.out, by omega, HB1.out.trans (HO9.out.below (by omega) HB1.out.size)⟩
    · obtain ⟨A4, c4, hv4, hle4, hs4, _⟩ := HWb.out.sl
      subst hv4
      have HS4 := Lib.hid hs4
      have hl4 := HG0.out.len
      have HSW := Lib.hid (fun W RA h h2 => sSweepStore_any A4 RA c4 2 l [rt, 354] W h (by omega) (fun q hq => Nat.le_trans (HG0.out.fit q hq) (by omega)) h2 (by simp))
      have HLIT := Lib.hid (show Sl (wb.alloc (.cells #[.int .i64 rt, .int .i64 354] 3)) encI 1 (some ⟨wb.heap.size, 0, none⟩) [rt, 354] from (own_lit (enc := encI) (E := 3) (base := wb.heap.size) (l := [rt, 354]) (fun _ => rfl) (heap_alloc_new wb _) (Nat.le_refl _) (by unfold maxLen; simp)).sl')
      have HG := Lib.hid (HG0.out.sweep [rt, 354])
      have HSW2 := Lib.hid (fun W RA (h : Sl W encP 2 A4 l) (h2 : Sl W encI 1 RA [rt, 354]) => show Calls Tryz.prog 52 #[.slice A4 l.length c4, .slice RA 2 2] W (OwnRes 38 2 encP (sweepR l [rt, 354]) W) from HSW.out W RA h h2)
      generalize sweepR l [rt, 354] = LL at *
      clear hs4
      go_wp2_with fail
      refine (HSW2.out _ _ (HS4.out.alloc _) HLIT.out).mono ?_
      rintro e wd ⟨v5, rfl, hown5, hb5⟩
      have hzb := HOb.out.size
      have HWd := Lib.hid (hown5.mono (show w1.heap.size ≤ _ by simp; omega))
      have HOd := Lib.hid (HOb.out.trans (Only.of_below (Below_of_alloc hb5)))
      have HRd := Lib.hid (HRb.out.below (Below_of_alloc hb5))
      clear hown5 hb5
      obtain ⟨A5, c5, rfl, hle5, hs5, _⟩ := HWd.out.sl
      have HS5 := Lib.hid hs5
      have hl5 := HG.out.len
      have hAF := fun w h => sAllFiles_any A5 c5 LL rt w h (by omega) (fun q hq => Nat.le_trans (HG.out.fit q hq) (by omega))
      have hFS := filesB_size LL rt
      have hFL := filesB_len LL rt
      unfold filesB at hFS hFL
      generalize (allF LL rt).map mk = F at *
      unfold OwnRes at hAF
      have HAF := Lib.hid hAF
      clear hAF hs5
      go_wp2_with fail
      refine (HAF.out _ HS5.out).mono ?_
      rintro e w6 ⟨v6, rfl, hown6, hb6⟩
      obtain ⟨FA, fc, rfl, hlf, hsf, _⟩ := hown6.sl
      have HF6 := Lib.hid hown6
      have HW6 := Lib.hid (HWd.out.below hb6)
      have HO6 := Lib.hid (HOd.out.trans (Only.of_below hb6))
      have HR6 := Lib.hid (HRd.out.below hb6)
      have hgd : w.heap.size < wd.heap.size := HRd.out.lt
      clear hown6 hb6 hsf
      by_cases hF : 0 < F.length
      · have hF' : (0 : Int) < (F.length : Int) := by omega
        go_wp2_with fail
        refine (pick_any 2 _ _ _ HR6.out (by omega) (by omega)).mono ?_
        rintro e w7 ⟨x, rfl, hx, ho7, hr7⟩
        have HR7 := Lib.hid hr7
        have HO7 := Lib.hid (HO6.out.trans ho7)
        have HW7 := Lib.hid (HW6.out.only ho7 hg1)
        have HF7 := Lib.hid (HF6.out.only ho7 hgd)
        clear hr7 ho7
        by_cases hx0 : x = 0
        · have hx0' : ((x : Int) == 0) = true := by rw [beq_iff_eq]; omega
          go_wp2_with fail
          obtain ⟨fb, fo, hFA, _⟩ := HF7.out.sl'.getS hF
          subst hFA
          refine wp_region_inv (by kernel_rfl) (by kernel_rfl) (fun a0 d a W => ∃ v0 v1 v2 v3 v4 v5 v6 v7 v8 v9 v10 v11 : Value, a = ⟨#[Value.slice A n c, undef, v9, v10, v11, Value.pointer (some { block := w.heap.size, off := 0 }), Value.slice A5 LL.length c5, Value.int IntKind.i64 rt, Value.slice (some { block := fb, off := fo }) F.length fc, Value.slice A n c, Value.pointer (some { block := w.heap.size, off := 0 }), Value.tuple #[Value.slice A4 l.length c4, Value.int IntKind.i64 rt], Value.pointer (some { block := w.heap.size, off := 0 }), Value.tuple #[Value.slice A4 l.length c4, Value.int IntKind.i64 rt], Value.slice A4 l.length c4, Value.int IntKind.i64 rt, Value.pointer (some { block := w.heap.size, off := 0 }), Value.bool false, undef, undef, Value.pointer (some { block := w.heap.size, off := 0 }), Value.bool true, Value.slice A4 l.length c4, Value.int IntKind.i64 rt, Value.slice (some { block := wb.heap.size, off := 0 }) 2 2, Value.slice A5 LL.length c5, Value.slice A5 LL.length c5, Value.int IntKind.i64 rt, Value.slice (some { block := fb, off := fo }) F.length fc, Value.slice (some { block := fb, off := fo }) F.length fc, Value.int IntKind.i64 ↑F.length, Value.bool true, Value.bool true, Value.pointer (some { block := w.heap.size, off := 0 }), Value.int IntKind.i64 0, Value.bool true, Value.bool true, v0, v1, v2, v3, v4, v5, v6, v7, v8, undef, undef, undef, undef], []⟩ ∧ WhJ w w1 wd.heap.size (pb + 1) (.slice A5 LL.length c5) rt LL ⟨fb, fo, none⟩ fc F d v0 v1 v2 v3 v4 v5 v6 v7 v8 v9 v10 v11 W) ?_ ?_ ?_
          · exact ⟨_, _, _, _, _, _, _, _, _, _, _, _, rfl, ⟨HO7.out.drewN 1, HW7.out.drew, HF7.out.drew, fun _ => HR7.out.below (Below_drewN (Below.refl _ _) 1), nofun, nofun, nofun, nofun, nofun, nofun, nofun, nofun, nofun, nofun, nofun, nofun⟩⟩
          · refine ⟨?_, ?_, ?_, ?_, ?_, ?_, ?_, ?_, ?_, ?_, ?_, ?_, trivial⟩
            all_goals
              intro d a W K hd hdep hJ hK
              obtain ⟨v0, v1, v2, v3, v4, v5, v6, v7, v8, v9, v10, v11, rfl, hj⟩ := hJ
              have HJ := Lib.hid hj
              have HK := Lib.hid hK
              have HD := Lib.hid hd
              have HDEP := Lib.hid hdep
              clear hj hK hd hdep
            · go_simp
              exact HK.out _ _ ⟨_, _, _, _, _, _, _, _, _, _, _, _, rfl, { HJ.out with c0 := fun _ => rfl }⟩
            · go_simp
              exact HK.out _ _ ⟨_, _, _, _, _, _, _, _, _, _, _, _, rfl, { HJ.out with c1 := fun _ => rfl }⟩
            · go_simp
              exact HK.out _ _ ⟨_, _, _, _, _, _, _, _, _, _, _, _, rfl, { HJ.out with c2 := fun _ => rfl }⟩
            · go_simp
              exact HK.out _ _ ⟨_, _, _, _, _, _, _, _, _, _, _, _, rfl, { HJ.out with c3 := fun _ => rfl }⟩
            · go_simp
              exact HK.out _ _ ⟨_, _, _, _, _, _, _, _, _, _, _, _, rfl, { HJ.out with c4 := fun _ => rfl }⟩
            · obtain rfl := HJ.out.c4 (HDEP.out { on := 4, ground := Ground.data } (by simp) rfl)
              go_simp
              exact HK.out _ _ ⟨_, _, _, _, _, _, _, _, _, _, _, _, rfl, { HJ.out with c5 := fun _ => rfl }⟩
            · obtain rfl := HJ.out.c3 (HDEP.out { on := 3, ground := Ground.data } (by simp) rfl)
              obtain rfl := HJ.out.c5 (HDEP.out { on := 5, ground := Ground.data } (by simp) rfl)
              go_simp
              refine (pick_any (F.length : Int) _ _ _ (HJ.out.rdr HD.out) (by omega) (by omega)).mono ?_
              rintro e W2 ⟨y, rfl, hy, ho, hr⟩
              go_simp
              exact HK.out _ _ ⟨_, _, _, _, _, _, _, _, _, _, _, _, rfl, { HJ.out with only := HJ.out.only.trans ho, own := HJ.out.own.only ho hg1, ownF := HJ.out.ownF.only ho hgd, rdr := fun h => (by cases h), c6 := fun _ => ⟨y, by omega, rfl⟩ }⟩
            · obtain rfl := HJ.out.c2 (HDEP.out { on := 2, ground := Ground.data } (by simp) rfl)
              obtain ⟨y, hy, rfl⟩ := HJ.out.c6 (HDEP.out { on := 6, ground := Ground.data } (by simp) rfl)
              have hy' : (y : Int) < (F.length : Int) := by omega
              go_simp
              exact HK.out _ _ ⟨_, _, _, _, _, _, _, _, _, _, _, _, rfl, { HJ.out with c7 := fun _ => ⟨y, hy, rfl⟩ }⟩
            · obtain ⟨y, hy, rfl⟩ := HJ.out.c7 (HDEP.out { on := 7, ground := Ground.data } (by simp) rfl)
              obtain ⟨b5, o5, e5, hc5⟩ := HJ.out.ownF.sl'.getS hy
              injection e5 with e5
              injection e5 with e6 e7
              subst e6 e7
              have hz5 := hFS _ (List.getElem_mem hy)
              generalize F[y] = sy at *
              go_simp
              exact HK.out _ _ ⟨_, _, _, _, _, _, _, _, _, _, _, _, rfl, { HJ.out with c8 := fun _ => ⟨sy, rfl, hz5⟩ }⟩
            · obtain rfl := HJ.out.c0 (HDEP.out { on := 0, ground := Ground.data } (by simp) rfl)
              go_simp
              exact HK.out _ _ ⟨_, _, _, _, _, _, _, _, _, _, _, _, rfl, { HJ.out with c9 := fun _ => rfl }⟩
            · obtain rfl := HJ.out.c1 (HDEP.out { on := 1, ground := Ground.data } (by simp) rfl)
              go_simp
              exact HK.out _ _ ⟨_, _, _, _, _, _, _, _, _, _, _, _, rfl, { HJ.out with c10 := fun _ => rfl }⟩
            · obtain ⟨sy, rfl, hz5⟩ := HJ.out.c8 (HDEP.out { on := 8, ground := Ground.data } (by simp) rfl)
              go_simp
              exact HK.out _ _ ⟨_, _, _, _, _, _, _, _, _, _, _, _, rfl, { HJ.out with c11 := fun _ => ⟨sy, rfl, hz5⟩ }⟩
          · intro d a W hd hJ
            obtain ⟨v0, v1, v2, v3, v4, v5, v6, v7, v8, v9, v10, v11, rfl, hj⟩ := hJ
            obtain rfl := hj.c9 (hd 9 (by decide))
            obtain rfl := hj.c10 (hd 10 (by decide))
            obtain ⟨sy, rfl, hz5⟩ := hj.c11 (hd 11 (by decide))
            have HW8 := Lib.hid hj.own
            have HO8 := Lib.hid hj.only
            clear hj hd
            go_wp2
            go_ret3
            exact ⟨_, _, _, _, rfl, HW8.out.mono hz0, HG.out, hz5, HB1.out.trans (HO8.out.below (by omega) HB1.out.size)⟩
        · have hx0' : ((x : Int) == 0) = false := by rw [beq_eq_false_iff_ne]; omega
          go_wp2_with fail
          refine (l20Path_any _ _ _ _ HR7.out (by omega) (by omega)).mono ?_
          rintro e w9 ⟨v9, p9, rfl, ⟨s, rfl, hs⟩, ho9, hr9, hp9⟩
          have HW9 := Lib.hid (HW7.out.only ho9 hg1)
          have HO9 := Lib.hid (HO7.out.trans ho9)
          clear hr9 ho9
          go_wp2
          go_ret3
          exact ⟨_, _, _, s, rfl, HW9.out.mono hz0, HG.out, by omega, HB1.out.trans (HO9.out.below (by omega) HB1.out.size)⟩
      · have hF' : ¬ (0 : Int) < (F.length : Int) := by omega
        go_wp2_with fail
        refine (l20Path_any _ _ _ _ HR6.out (by omega) (by omega)).mono ?_
        rintro e w9 ⟨v9, p9, rfl, ⟨s, rfl, hs⟩, ho9, hr9, hp9⟩
        have HW9 := Lib.hid (HW6.out.only ho9 hg1)
        have HO9 := Lib.hid (HO6.out.trans ho9)
        clear hr9 ho9
        go_wp2
        go_ret3
        exact ⟨_, _, _, s, rfl, HW9.out.mono hz0, HG.out, by omega, HB1.out.trans (HO9.out.below (by omega) HB1.out.size)⟩
  · go_wp2_with fail
    refine (l20Print_any _ _ _ _ HRa.out (by omega) (by omega)).mono ?_
    rintro e w4 ⟨v4, p4, rfl, hP4, ho4, hr4, hp4⟩
    obtain ⟨rt, rfl, _, _⟩ := hP4
    replace HWa := Lib.hid (HWa.out.only ho4 hg1)
    replace HOa := Lib.hid (HOa.out.trans ho4)
    replace HRa := Lib.hid hr4
    clear ho4 hr4
    go_wp2_with fail
    refine (odd_any _ _ _ _ HRa.out (by omega) (by omega)).mono ?_
    rintro e wb ⟨bb, pb, rfl, hob, hrb, hpb⟩
    have HWb := Lib.hid (HWa.out.only hob hg1)
    have HOb := Lib.hid (HOa.out.trans hob)
    have HRb := Lib.hid hrb
    clear hob hrb
    cases bb
    · have HWd := HWb
      have HOd := HOb
      have HRd := HRb
      revert HWd HOd HRd
      generalize hwd : wb = wd
      intro HWd HOd HRd
      obtain ⟨LL, hLL⟩ : ∃ LL, LL = l := ⟨_, rfl⟩
      rw [← hLL] at HWd
      have HG := Lib.hid (show StG LL by rw [hLL]; exact HG0.out)
      clear hLL
      obtain ⟨A5, c5, rfl, hle5, hs5, _⟩ := HWd.out.sl
      have HS5 := Lib.hid hs5
      have hl5 := HG.out.len
      have hAF := fun w h => sAllFiles_any A5 c5 LL rt w h (by omega) (fun q hq => Nat.le_trans (HG.out.fit q hq) (by omega))
      have hFS := filesB_size LL rt
      have hFL := filesB_len LL rt
      unfold filesB at hFS hFL
      generalize (allF LL rt).map mk = F at *
      unfold OwnRes at hAF
      have HAF := Lib.hid hAF
      clear hAF hs5
      go_wp2_with fail
      refine (HAF.out _ HS5.out).mono ?_
      rintro e w6 ⟨v6, rfl, hown6, hb6⟩
      obtain ⟨FA, fc, rfl, hlf, hsf, _⟩ := hown6.sl
      have HF6 := Lib.hid hown6
      have HW6 := Lib.hid (HWd.out.below hb6)
      have HO6 := Lib.hid (HOd.out.trans (Only.of_below hb6))
      have HR6 := Lib.hid (HRd.out.below hb6)
      have hgd : w.heap.size < wd.heap.size := HRd.out.lt
      clear hown6 hb6 hsf
      by_cases hF : 0 < F.length
      · have hF' : (0 : Int) < (F.length : Int) := by omega
        go_wp2_with fail
        refine (pick_any 2 _ _ _ HR6.out (by omega) (by omega)).mono ?_
        rintro e w7 ⟨x, rfl, hx, ho7, hr7⟩
        have HR7 := Lib.hid hr7
        have HO7 := Lib.hid (HO6.out.trans ho7)
        have HW7 := Lib.hid (HW6.out.only ho7 hg1)
        have HF7 := Lib.hid (HF6.out.only ho7 hgd)
        clear hr7 ho7
        by_cases hx0 : x = 0
        · have hx0' : ((x : Int) == 0) = true := by rw [beq_iff_eq]; omega
          go_wp2_with fail
          obtain ⟨fb, fo, hFA, _⟩ := HF7.out.sl'.getS hF
          subst hFA
          refine wp_region_inv (by kernel_rfl) (by kernel_rfl) (fun a0 d a W => ∃ v0 v1 v2 v3 v4 v5 v6 v7 v8 v9 v10 v11 : Value, a = ⟨#[Value.slice A n c, undef, v9, v10, v11, Value.pointer (some { block := w.heap.size, off := 0 }), Value.slice A5 LL.length c5, Value.int IntKind.i64 rt, Value.slice (some { block := fb, off := fo }) F.length fc, Value.slice A n c, Value.pointer (some { block := w.heap.size, off := 0 }), Value.tuple #[Value.slice A5 LL.length c5, Value.int IntKind.i64 root], Value.pointer (some { block := w.heap.size, off := 0 }), Value.tuple #[Value.slice A5 LL.length c5, Value.int IntKind.i64 root], Value.slice A5 LL.length c5, Value.int IntKind.i64 root, Value.pointer (some { block := w.heap.size, off := 0 }), Value.bool true, Value.pointer (some { block := w.heap.size, off := 0 }), Value.int IntKind.i64 rt, Value.pointer (some { block := w.heap.size, off := 0 }), Value.bool false, undef, undef, undef, undef, Value.slice A5 LL.length c5, Value.int IntKind.i64 rt, Value.slice (some { block := fb, off := fo }) F.length fc, Value.slice (some { block := fb, off := fo }) F.length fc, Value.int IntKind.i64 ↑F.length, Value.bool true, Value.bool true, Value.pointer (some { block := w.heap.size, off := 0 }), Value.int IntKind.i64 0, Value.bool true, Value.bool true, v0, v1, v2, v3, v4, v5, v6, v7, v8, undef, undef, undef, undef], []⟩ ∧ WhJ w w1 wd.heap.size (pb + 1) (.slice A5 LL.length c5) rt LL ⟨fb, fo, none⟩ fc F d v0 v1 v2 v3 v4 v5 v6 v7 v8 v9 v10 v11 W) ?_ ?_ ?_
          · exact ⟨_, _, _, _, _, _, _, _, _, _, _, _, rfl, ⟨HO7.out.drewN 1, HW7.out.drew, HF7.out.drew, fun _ => HR7.out.below (Below_drewN (Below.refl _ _) 1), nofun, nofun, nofun, nofun, nofun, nofun, nofun, nofun, nofun, nofun, nofun, nofun⟩⟩
          · refine ⟨?_, ?_, ?_, ?_, ?_, ?_, ?_, ?_, ?_, ?_, ?_, ?_, trivial⟩
            all_goals
              intro d a W K hd hdep hJ hK
              obtain ⟨v0, v1, v2, v3, v4, v5, v6, v7, v8, v9, v10, v11, rfl, hj⟩ := hJ
              have HJ := Lib.hid hj
              have HK := Lib.hid hK
              have HD := Lib.hid hd
              have HDEP := Lib.hid hdep
              clear hj hK hd hdep
            · go_simp
              exact HK.out _ _ ⟨_, _, _, _, _, _, _, _, _, _, _, _, rfl, { HJ.out with c0 := fun _ => rfl }⟩
            · go_simp
              exact HK.out _ _ ⟨_, _, _, _, _, _, _, _, _, _, _, _, rfl, { HJ.out with c1 := fun _ => rfl }⟩
            · go_simp
              exact HK.out _ _ ⟨_, _, _, _, _, _, _, _, _, _, _, _, rfl, { HJ.out with c2 := fun _ => rfl }⟩
            · go_simp
              exact HK.out _ _ ⟨_, _, _, _, _, _, _, _, _, _, _, _, rfl, { HJ.out with c3 := fun _ => rfl }⟩
            · go_simp
              exact HK.out _ _ ⟨_, _, _, _, _, _, _, _, _, _, _, _, rfl, { HJ.out with c4 := fun _ => rfl }⟩
            · obtain rfl := HJ.out.c4 (HDEP.out { on := 4, ground := Ground.data } (by simp) rfl)
              go_simp
              exact HK.out _ _ ⟨_, _, _, _, _, _, _, _, _, _, _, _, rfl, { HJ.out with c5 := fun _ => rfl }⟩
            · obtain rfl := HJ.out.c3 (HDEP.out { on := 3, ground := Ground.data } (by simp) rfl)
              obtain rfl := HJ.out.c5 (HDEP.out { on := 5, ground := Ground.data } (by simp) rfl)
              go_simp
              refine (pick_any (F.length : Int) _ _ _ (HJ.out.rdr HD.out) (by omega) (by omega)).mono ?_
              rintro e W2 ⟨y, rfl, hy, ho, hr⟩
              go_simp
              exact HK.out _ _ ⟨_, _, _, _, _, _, _, _, _, _, _, _, rfl, { HJ.out with only := HJ.out.only.trans ho, own := HJ.out.own.only ho hg1, ownF := HJ.out.ownF.only ho hgd, rdr := fun h => (by cases h), c6 := fun _ => ⟨y, by omega, rfl⟩ }⟩
            · obtain rfl := HJ.out.c2 (HDEP.out { on := 2, ground := Ground.data } (by simp) rfl)
              obtain ⟨y, hy, rfl⟩ := HJ.out.c6 (HDEP.out { on := 6, ground := Ground.data } (by simp) rfl)
              have hy' : (y : Int) < (F.length : Int) := by omega
              go_simp
              exact HK.out _ _ ⟨_, _, _, _, _, _, _, _, _, _, _, _, rfl, { HJ.out with c7 := fun _ => ⟨y, hy, rfl⟩ }⟩
            · obtain ⟨y, hy, rfl⟩ := HJ.out.c7 (HDEP.out { on := 7, ground := Ground.data } (by simp) rfl)
              obtain ⟨b5, o5, e5, hc5⟩ := HJ.out.ownF.sl'.getS hy
              injection e5 with e5
              injection e5 with e6 e7
              subst e6 e7
              have hz5 := hFS _ (List.getElem_mem hy)
              generalize F[y] = sy at *
              go_simp
              exact HK.out _ _ ⟨_, _, _, _, _, _, _, _, _, _, _, _, rfl, { HJ.out with c8 := fun _ => ⟨sy, rfl, hz5⟩ }⟩
            · obtain rfl := HJ.out.c0 (HDEP.out { on := 0, ground := Ground.data } (by simp) rfl)
              go_simp
              exact HK.out _ _ ⟨_, _, _, _, _, _, _, _, _, _, _, _, rfl, { HJ.out with c9 := fun _ => rfl }⟩
            · obtain rfl := HJ.out.c1 (HDEP.out { on := 1, ground := Ground.data } (by simp) rfl)
              go_simp
              exact HK.out _ _ ⟨_, _, _, _, _, _, _, _, _, _, _, _, rfl, { HJ.out with c10 := fun _ => rfl }⟩
            · obtain ⟨sy, rfl, hz5⟩ := HJ.out.c8 (HDEP.out { on := 8, ground := Ground.data } (by simp) rfl)
              go_simp
              exact HK.out _ _ ⟨_, _, _, _, _, _, _, _, _, _, _, _, rfl, { HJ.out with c11 := fun _ => ⟨sy, rfl, hz5⟩ }⟩
          · intro d a W hd hJ
            obtain ⟨v0, v1, v2, v3, v4, v5, v6, v7, v8, v9, v10, v11, rfl, hj⟩ := hJ
            obtain rfl := hj.c9 (hd 9 (by decide))
            obtain rfl := hj.c10 (hd 10 (by decide))
            obtain ⟨sy, rfl, hz5⟩ := hj.c11 (hd 11 (by decide))
            have HW8 := Lib.hid hj.own
            have HO8 := Lib.hid hj.only
            clear hj hd
            go_wp2
            go_ret3
            exact ⟨_, _, _, _, rfl, HW8.out.mono hz0, HG.out, hz5, HB1.out.trans (HO8.out.below (by omega) HB1.out.size)⟩
        · have hx0' : ((x : Int) == 0) = false := by rw [beq_eq_false_iff_ne]; omega
          go_wp2_with fail
          refine (l20Path_any _ _ _ _ HR7.out (by omega) (by omega)).mono ?_
          rintro e w9 ⟨v9, p9, rfl, ⟨s, rfl, hs⟩, ho9, hr9, hp9⟩
          have HW9 := Lib.hid (HW7.out.only ho9 hg1)
          have HO9 := Lib.hid (HO7.out.trans ho9)
          clear hr9 ho9
          go_wp2
          go_ret3
          exact ⟨_, _, _, s, rfl, HW9.out.mono hz0, HG.out, by omega, HB1.out.trans (HO9.out.below (by omega) HB1.out.size)⟩
      · have hF' : ¬ (0 : Int) < (F.length : Int) := by omega
        go_wp2_with fail
        refine (l20Path_any _ _ _ _ HR6.out (by omega) (by omega)).mono ?_
        rintro e w9 ⟨v9, p9, rfl, ⟨s, rfl, hs⟩, ho9, hr9, hp9⟩
        have HW9 := Lib.hid (HW6.out.only ho9 hg1)
        have HO9 := Lib.hid (HO6.out.trans ho9)
        clear hr9 ho9
        go_wp2
        go_ret3
        exact ⟨_, _, _, s, rfl, HW9.out.mono hz0, HG.out, by omega, HB1.out.trans (HO9.out.below (by omega) HB1.out.size)⟩
    · obtain ⟨A4, c4, hv4, hle4, hs4, _⟩ := HWb.out.sl
      subst hv4
      have HS4 := Lib.hid hs4
      have hl4 := HG0.out.len
      have HSW := Lib.hid (fun W RA h h2 => sSweepStore_any A4 RA c4 2 l [rt, 354] W h (by omega) (fun q hq => Nat.le_trans (HG0.out.fit q hq) (by omega)) h2 (by simp))
      have HLIT := Lib.hid (show Sl (wb.alloc (.cells #[.int .i64 rt, .int .i64 354] 3)) encI 1 (some ⟨wb.heap.size, 0, none⟩) [rt, 354] from (own_lit (enc := encI) (E := 3) (base := wb.heap.size) (l := [rt, 354]) (fun _ => rfl) (heap_alloc_new wb _) (Nat.le_refl _) (by unfold maxLen; simp)).sl')
      have HG := Lib.hid (HG0.out.sweep [rt, 354])
      have HSW2 := Lib.hid (fun W RA (h : Sl W encP 2 A4 l) (h2 : Sl W encI 1 RA [rt, 354]) => show Calls Tryz.prog 52 #[.slice A4 l.length c4, .slice RA 2 2] W (OwnRes 38 2 encP (sweepR l [rt, 354]) W) from HSW.out W RA h h2)
      generalize sweepR l [rt, 354] = LL at *
      clear hs4
      go_wp2_with fail
      refine (HSW2.out _ _ (HS4.out.alloc _) HLIT.out).mono ?_
      rintro e wd ⟨v5, rfl, hown5, hb5⟩
      have hzb := HOb.out.size
      have HWd := Lib.hid (hown5.mono (show w1.heap.size ≤ _ by simp; omega))
      have HOd := Lib.hid (HOb.out.trans (Only.of_below (Below_of_alloc hb5)))
      have HRd := Lib.hid (HRb.out.below (Below_of_alloc hb5))
      clear hown5 hb5
      obtain ⟨A5, c5, rfl, hle5, hs5, _⟩ := HWd.out.sl
      have HS5 := Lib.hid hs5
      have hl5 := HG.out.len
      have hAF := fun w h => sAllFiles_any A5 c5 LL rt w h (by omega) (fun q hq => Nat.le_trans (HG.out.fit q hq) (by omega))
      have hFS := filesB_size LL rt
      have hFL := filesB_len LL rt
      unfold filesB at hFS hFL
      generalize (allF LL rt).map mk = F at *
      unfold OwnRes at hAF
      have HAF := Lib.hid hAF
      clear hAF hs5
      go_wp2_with fail
      refine (HAF.out _ HS5.out).mono ?_
      rintro e w6 ⟨v6, rfl, hown6, hb6⟩
      obtain ⟨FA, fc, rfl, hlf, hsf, _⟩ := hown6.sl
      have HF6 := Lib.hid hown6
      have HW6 := Lib.hid (HWd.out.below hb6)
      have HO6 := Lib.hid (HOd.out.trans (Only.of_below hb6))
      have HR6 := Lib.hid (HRd.out.below hb6)
      have hgd : w.heap.size < wd.heap.size := HRd.out.lt
      clear hown6 hb6 hsf
      by_cases hF : 0 < F.length
      · have hF' : (0 : Int) < (F.length : Int) := by omega
        go_wp2_with fail
        refine (pick_any 2 _ _ _ HR6.out (by omega) (by omega)).mono ?_
        rintro e w7 ⟨x, rfl, hx, ho7, hr7⟩
        have HR7 := Lib.hid hr7
        have HO7 := Lib.hid (HO6.out.trans ho7)
        have HW7 := Lib.hid (HW6.out.only ho7 hg1)
        have HF7 := Lib.hid (HF6.out.only ho7 hgd)
        clear hr7 ho7
        by_cases hx0 : x = 0
        · have hx0' : ((x : Int) == 0) = true := by rw [beq_iff_eq]; omega
          go_wp2_with fail
          obtain ⟨fb, fo, hFA, _⟩ := HF7.out.sl'.getS hF
          subst hFA
          refine wp_region_inv (by kernel_rfl) (by kernel_rfl) (fun a0 d a W => ∃ v0 v1 v2 v3 v4 v5 v6 v7 v8 v9 v10 v11 : Value, a = ⟨#[Value.slice A n c, undef, v9, v10, v11, Value.pointer (some { block := w.heap.size, off := 0 }), Value.slice A5 LL.length c5, Value.int IntKind.i64 rt, Value.slice (some { block := fb, off := fo }) F.length fc, Value.slice A n c, Value.pointer (some { block := w.heap.size, off := 0 }), Value.tuple #[Value.slice A4 l.length c4, Value.int IntKind.i64 root], Value.pointer (some { block := w.heap.size, off := 0 }), Value.tuple #[Value.slice A4 l.length c4, Value.int IntKind.i64 root], Value.slice A4 l.length c4, Value.int IntKind.i64 root, Value.pointer (some { block := w.heap.size, off := 0 }), Value.bool true, Value.pointer (some { block := w.heap.size, off := 0 }), Value.int IntKind.i64 rt, Value.pointer (some { block := w.heap.size, off := 0 }), Value.bool true, Value.slice A4 l.length c4, Value.int IntKind.i64 rt, Value.slice (some { block := wb.heap.size, off := 0 }) 2 2, Value.slice A5 LL.length c5, Value.slice A5 LL.length c5, Value.int IntKind.i64 rt, Value.slice (some { block := fb, off := fo }) F.length fc, Value.slice (some { block := fb, off := fo }) F.length fc, Value.int IntKind.i64 ↑F.length, Value.bool true, Value.bool true, Value.pointer (some { block := w.heap.size, off := 0 }), Value.int IntKind.i64 0, Value.bool true, Value.bool true, v0, v1, v2, v3, v4, v5, v6, v7, v8, undef, undef, undef, undef], []⟩ ∧ WhJ w w1 wd.heap.size (pb + 1) (.slice A5 LL.length c5) rt LL ⟨fb, fo, none⟩ fc F d v0 v1 v2 v3 v4 v5 v6 v7 v8 v9 v10 v11 W) ?_ ?_ ?_
          · exact ⟨_, _, _, _, _, _, _, _, _, _, _, _, rfl, ⟨HO7.out.drewN 1, HW7.out.drew, HF7.out.drew, fun _ => HR7.out.below (Below_drewN (Below.refl _ _) 1), nofun, nofun, nofun, nofun, nofun, nofun, nofun, nofun, nofun, nofun, nofun, nofun⟩⟩
          · refine ⟨?_, ?_, ?_, ?_, ?_, ?_, ?_, ?_, ?_, ?_, ?_, ?_, trivial⟩
            all_goals
              intro d a W K hd hdep hJ hK
              obtain ⟨v0, v1, v2, v3, v4, v5, v6, v7, v8, v9, v10, v11, rfl, hj⟩ := hJ
              have HJ := Lib.hid hj
              have HK := Lib.hid hK
              have HD := Lib.hid hd
              have HDEP := Lib.hid hdep
              clear hj hK hd hdep
            · go_simp
              exact HK.out _ _ ⟨_, _, _, _, _, _, _, _, _, _, _, _, rfl, { HJ.out with c0 := fun _ => rfl }⟩
            · go_simp
              exact HK.out _ _ ⟨_, _, _, _, _, _, _, _, _, _, _, _, rfl, { HJ.out with c1 := fun _ => rfl }⟩
            · go_simp
              exact HK.out _ _ ⟨_, _, _, _, _, _, _, _, _, _, _, _, rfl, { HJ.out with c2 := fun _ => rfl }⟩
            · go_simp
              exact HK.out _ _ ⟨_, _, _, _, _, _, _, _, _, _, _, _, rfl, { HJ.out with c3 := fun _ => rfl }⟩
            · go_simp
              exact HK.out _ _ ⟨_, _, _, _, _, _, _, _, _, _, _, _, rfl, { HJ.out with c4 := fun _ => rfl }⟩
            · obtain rfl := HJ.out.c4 (HDEP.out { on := 4, ground := Ground.data } (by simp) rfl)
              go_simp
              exact HK.out _ _ ⟨_, _, _, _, _, _, _, _, _, _, _, _, rfl, { HJ.out with c5 := fun _ => rfl }⟩
            · obtain rfl := HJ.out.c3 (HDEP.out { on := 3, ground := Ground.data } (by simp) rfl)
              obtain rfl := HJ.out.c5 (HDEP.out { on := 5, ground := Ground.data } (by simp) rfl)
              go_simp
              refine (pick_any (F.length : Int) _ _ _ (HJ.out.rdr HD.out) (by omega) (by omega)).mono ?_
              rintro e W2 ⟨y, rfl, hy, ho, hr⟩
              go_simp
              exact HK.out _ _ ⟨_, _, _, _, _, _, _, _, _, _, _, _, rfl, { HJ.out with only := HJ.out.only.trans ho, own := HJ.out.own.only ho hg1, ownF := HJ.out.ownF.only ho hgd, rdr := fun h => (by cases h), c6 := fun _ => ⟨y, by omega, rfl⟩ }⟩
            · obtain rfl := HJ.out.c2 (HDEP.out { on := 2, ground := Ground.data } (by simp) rfl)
              obtain ⟨y, hy, rfl⟩ := HJ.out.c6 (HDEP.out { on := 6, ground := Ground.data } (by simp) rfl)
              have hy' : (y : Int) < (F.length : Int) := by omega
              go_simp
              exact HK.out _ _ ⟨_, _, _, _, _, _, _, _, _, _, _, _, rfl, { HJ.out with c7 := fun _ => ⟨y, hy, rfl⟩ }⟩
            · obtain ⟨y, hy, rfl⟩ := HJ.out.c7 (HDEP.out { on := 7, ground := Ground.data } (by simp) rfl)
              obtain ⟨b5, o5, e5, hc5⟩ := HJ.out.ownF.sl'.getS hy
              injection e5 with e5
              injection e5 with e6 e7
              subst e6 e7
              have hz5 := hFS _ (List.getElem_mem hy)
              generalize F[y] = sy at *
              go_simp
              exact HK.out _ _ ⟨_, _, _, _, _, _, _, _, _, _, _, _, rfl, { HJ.out with c8 := fun _ => ⟨sy, rfl, hz5⟩ }⟩
            · obtain rfl := HJ.out.c0 (HDEP.out { on := 0, ground := Ground.data } (by simp) rfl)
              go_simp
              exact HK.out _ _ ⟨_, _, _, _, _, _, _, _, _, _, _, _, rfl, { HJ.out with c9 := fun _ => rfl }⟩
            · obtain rfl := HJ.out.c1 (HDEP.out { on := 1, ground := Ground.data } (by simp) rfl)
              go_simp
              exact HK.out _ _ ⟨_, _, _, _, _, _, _, _, _, _, _, _, rfl, { HJ.out with c10 := fun _ => rfl }⟩
            · obtain ⟨sy, rfl, hz5⟩ := HJ.out.c8 (HDEP.out { on := 8, ground := Ground.data } (by simp) rfl)
              go_simp
              exact HK.out _ _ ⟨_, _, _, _, _, _, _, _, _, _, _, _, rfl, { HJ.out with c11 := fun _ => ⟨sy, rfl, hz5⟩ }⟩
          · intro d a W hd hJ
            obtain ⟨v0, v1, v2, v3, v4, v5, v6, v7, v8, v9, v10, v11, rfl, hj⟩ := hJ
            obtain rfl := hj.c9 (hd 9 (by decide))
            obtain rfl := hj.c10 (hd 10 (by decide))
            obtain ⟨sy, rfl, hz5⟩ := hj.c11 (hd 11 (by decide))
            have HW8 := Lib.hid hj.own
            have HO8 := Lib.hid hj.only
            clear hj hd
            go_wp2
            go_ret3
            exact ⟨_, _, _, _, rfl, HW8.out.mono hz0, HG.out, hz5, HB1.out.trans (HO8.out.below (by omega) HB1.out.size)⟩
        · have hx0' : ((x : Int) == 0) = false := by rw [beq_eq_false_iff_ne]; omega
          go_wp2_with fail
          refine (l20Path_any _ _ _ _ HR7.out (by omega) (by omega)).mono ?_
          rintro e w9 ⟨v9, p9, rfl, ⟨s, rfl, hs⟩, ho9, hr9, hp9⟩
          have HW9 := Lib.hid (HW7.out.only ho9 hg1)
          have HO9 := Lib.hid (HO7.out.trans ho9)
          clear hr9 ho9
          go_wp2
          go_ret3
          exact ⟨_, _, _, s, rfl, HW9.out.mono hz0, HG.out, by omega, HB1.out.trans (HO9.out.below (by omega) HB1.out.size)⟩
      · have hF' : ¬ (0 : Int) < (F.length : Int) := by omega
        go_wp2_with fail
        refine (l20Path_any _ _ _ _ HR6.out (by omega) (by omega)).mono ?_
        rintro e w9 ⟨v9, p9, rfl, ⟨s, rfl, hs⟩, ho9, hr9, hp9⟩
        have HW9 := Lib.hid (HW6.out.only ho9 hg1)
        have HO9 := Lib.hid (HO6.out.trans ho9)
        clear hr9 ho9
        go_wp2
        go_ret3
        exact ⟨_, _, _, s, rfl, HW9.out.mono hz0, HG.out, by omega, HB1.out.trans (HO9.out.below (by omega) HB1.out.size)⟩
end Go.Proofs.YtokelopllbaikaaGreatDoor
