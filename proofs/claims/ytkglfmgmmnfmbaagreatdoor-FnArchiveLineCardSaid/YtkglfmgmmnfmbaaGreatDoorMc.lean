/- DrawArchiveLine; FnReadBack, walked: written words are read. -/
import Derived.Test.YtkglfmgmmnfmbaaGreatDoorMa
import Derived.Test.YtkglfmgmmnfmbaaGreatDoorAli
import Derived.Test.YtkglfmgmmnfmbaaGreatDoorSq
set_option linter.unusedVariables false
namespace Go.Proofs.YtkglfmgmmnfmbaaGreatDoor
open Go.RowKit
/-- An archive and a line that are drawn. -/
def ArLGot (w : World) (e : Ending) (w' : World) : Prop :=
  ∃ (v : Value) (a : Ar) (line : ByteArray), e = .returned (.tuple #[v, .string line]) ∧ ArV w' w.heap.size a v ∧ ArOk a ∧ line.size ≤ 40 ∧ Below w.heap.size w w'
theorem Only.undrew {g : Nat} {w w' : World} (h : Only g w.drew w') : Only g w w' := ⟨h.os, h.tape, h.output, h.size, h.block⟩
theorem Only.unalloc {g : Nat} {w w' : World} {o : Obj} (h : Only g (w.alloc o) w') : Only g w w' := (Only.of_below ((Below.refl _ _).alloc (Nat.le_refl _) o)).trans h
set_option maxHeartbeats 4000000 in
set_option maxRecDepth 100000 in
theorem DrawArchiveLine_any (A : Option Addr) (n c : Nat) (w : World) (hb : BytesIn w A n c) : Calls Tryz.prog 23 #[.slice A n c] w (ArLGot w) := by
  have HBI := Lib.hid (BytesIn.al hb (.cells #[.slice none 0 0, .int .i64 0, .slice none 0 0] 30))
  clear hb
  go_enter Tryz.func23, Tryz.ntmps23
  go_wp2_with fail
  refine (l20Open_any _ _ _ _ HBI.out).mono ?_
  rintro e w1 ⟨rfl, hb1, hr1, hz1⟩
  rw [World.alloc_size_] at hr1 hz1
  have HR1 := Lib.hid hr1
  have hr0 := Row3.new.below (w' := w1) hb1
  have HR0 := Lib.hid hr0
  have HB1 := Lib.hid (Below_of_alloc hb1)
  have hz2 : w.heap.size + 1 < w1.heap.size := by omega
  clear hr1 hb1 hr0
  go_wp2_with fail
  refine (l20Archive_any _ _ _ _ HR1.out (by omega) (by omega)).mono ?_
  rintro e w2 ⟨v2, ⟨l, x, m⟩, p2, rfl, ⟨P, Q, rfl, hp2, hq2, hap2⟩, hok2, ho2, hr2, hle2⟩
  obtain ⟨X, k, e1, _⟩ := hp2.sl
  obtain ⟨Y, j, e2, _⟩ := hq2.sl
  subst e1 e2
  simp only at *
  replace HR0 := Lib.hid (HR0.out.only ho2 (by simp))
  have HP2 := Lib.hid hp2
  have HQ2 := Lib.hid hq2
  have HO2 := Lib.hid (HB1.out.trans (ho2.below (show w.heap.size ≤ w.heap.size + 1 by omega) (show w.heap.size ≤ w1.heap.size by omega)))
  have HOK := Lib.hid hok2
  have hz3 : w1.heap.size ≤ w2.heap.size := ho2.size
  have HR2 := Lib.hid hr2
  have HN := Lib.hid (Row3.new (w := w2) (v0 := .slice X l.length k) (v1 := .int .i64 x) (v2 := .slice Y m.length j) (E := 30))
  have HR0b := Lib.hid (HR0.out.below ((Below.refl _ _).alloc (Nat.le_refl _) (.cells #[.slice X l.length k, .int .i64 x, .slice Y m.length j] 30)))
  clear hr2 hp2 hq2
  obtain ⟨⟨n0, n1, n2⟩, _, _⟩ := HN.out
  have hne : w2.heap.size ≠ w.heap.size := by omega
  go_wp2_with fail
  go_region_held3 (fun W => W.cell? ⟨w2.heap.size, 0, none⟩ = some (.slice X l.length k) ∧ W.cell? ⟨w2.heap.size, 1, none⟩ = some (.int .i64 x) ∧ W.cell? ⟨w2.heap.size, 2, none⟩ = some (.slice Y m.length j))
    (first | exact ⟨n0, n1, n2⟩ | exact ⟨m0, m1, m2⟩ | exact ⟨keep_set hne m0, keep_set hne m1, keep_set hne m2⟩ | exact ⟨keep_set hne (keep_set hne m0), keep_set hne (keep_set hne m1), keep_set hne (keep_set hne m2)⟩ | exact ⟨keep_set hne (keep_set hne (keep_set hne m0)), keep_set hne (keep_set hne (keep_set hne m1)), keep_set hne (keep_set hne (keep_set hne m2))⟩)
    ((go_at_call 64; refine (l20Line_any _ _ _ (by first | exact HR2.out.alloc _ | exact (HR2.out.alloc _).below (Below_drewN (Below.refl _ _) 1)) (by omega)).mono ?_; rintro e w4 ⟨v4, p4, rfl, ⟨ln, rfl, hln⟩, ho4, hr4, hp4⟩; have ho4' := (show Only (w.heap.size + 1) (w2.alloc (.cells #[.slice X l.length k, .int .i64 x, .slice Y m.length j] 30)) w4 from (by first | exact ho4 | exact ho4.undrew)); have HO4 := Lib.hid ho4'; obtain ⟨⟨m0, m1, m2⟩, _, _⟩ := HN.out.only ho4' (by omega); obtain ⟨⟨y0, y1, y2⟩, yf, ylt⟩ := HR0b.out.only ho4' (by simp); clear ho4 ho4' hr4))
  all_goals
    have HP4 := Lib.hid ((HP2.out.alloc _).only HO4.out (by omega))
    have HQ4 := Lib.hid ((HQ2.out.alloc _).only HO4.out (by omega))
    have HB4 := Lib.hid (HO2.out.trans (HO4.out.unalloc.below (show w.heap.size ≤ w.heap.size + 1 by omega) (show w.heap.size ≤ w2.heap.size by omega)))
    have hzl : w.heap.size < w1.heap.size := by omega
    go_wp2_with fail
    exact bodyPost_ret (v := .tuple #[.agg #[.slice X l.length k, .int .i64 x, .slice Y m.length j], .string ln]) (by simp [results, Tryz.results23, go_sem, y0, y1, y2]) rfl
      ⟨_, ⟨l, x, m⟩, ln, rfl, ⟨_, _, rfl, (((HP4.out.setBelow hzl _).setBelow hzl _).setBelow hzl _).mono (by omega), (((HQ4.out.setBelow hzl _).setBelow hzl _).setBelow hzl _).mono (by omega), hap2⟩, HOK.out, hln, ((HB4.out.setCell (Nat.le_refl _) _).setCell (Nat.le_refl _) _).setCell (Nat.le_refl _) _⟩
/-- What the program makes of a line, for a law: an archive in memory of its own, and its answer. -/
theorem line_law {X Y : Option Addr} {k j : Nat} {l : List Pc} {m : List Vr} {x : Int} (line : ByteArray) (hcz : X = none → k = 0) (hl : l.length ≤ 16777216) (hf : FitP l) (hcz2 : Y = none → j = 0) (hl2 : m.length ≤ 16777216) (hf2 : FitV m) (hline : line.size ≤ 1048576) {l2 : List Pc} {x2 : Int} {m2 : List Vr} {ans : Bs} (hR : archL ⟨l, x, m⟩ (bs line) = (⟨l2, x2, m2⟩, ans)) (W : World) (h1 : Sl W encP 2 X l) (h2 : Sl W encV 3 Y m) (htz : TzL W) (hmx : MaxL W) :
    Calls Tryz.prog 12 #[.agg #[.slice X l.length k, .int .i64 x, .slice Y m.length j], .string line] W fun e w' => ∃ (X2 : Option Addr) (k2 : Nat) (Y2 : Option Addr) (j2 : Nat), e = .returned (.tuple #[.agg #[.slice X2 l2.length k2, .int .i64 x2, .slice Y2 m2.length j2], .string (mk ans)]) ∧ Own w' W.heap.size 107 2 encP (.slice X2 l2.length k2) l2 ∧ Own w' W.heap.size 63 3 encV (.slice Y2 m2.length j2) m2 ∧ Below W.heap.size W w' := by
  have h := iArchiveLine_any X Y k j l m x line W h1 hcz hl hf h2 hcz2 hl2 hf2 hline htz hmx
  rw [hR] at h
  refine h.mono fun e w' ⟨v, he, ⟨p, q, hv, hp, hq, _⟩, hb⟩ => ?_
  obtain ⟨X2, k2, e1, _⟩ := hp.sl
  obtain ⟨Y2, j2, e2, _⟩ := hq.sl
  subst e1 e2 hv
  exact ⟨X2, k2, Y2, j2, he, hp, hq, hb⟩
set_option maxHeartbeats 4000000 in
set_option maxRecDepth 100000 in
theorem wFnReadBack (A : Option Addr) (n c : Nat) (w : World) (hb : BytesIn w A n c) (hm : MaxL w) (ht : TzL w) : Calls Tryz.prog 6 #[.slice A n c] w (LawOk w) := by
  by_cases h : n ≤ 1048576
  case neg =>
    go_enter Tryz.func6, Tryz.ntmps6
    go_wp2
    go_ret
    exact ⟨rfl, Below.refl _ _⟩
  have HBI := Lib.hid hb
  have HM := Lib.hid hm
  have HT := Lib.hid ht
  clear hb hm ht
  go_enter Tryz.func6, Tryz.ntmps6
  go_wp2_with fail
  refine (DrawArchiveLine_any _ _ _ _ HBI.out).mono ?_
  rintro e w1 ⟨v1, ⟨l, x, m⟩, ln, rfl, ⟨P, Q, rfl, hp1, hq1, hap1⟩, hok1, hln1, hb1⟩
  simp only at *
  obtain ⟨X, k, e1, _, hs1, _⟩ := hp1.sl
  obtain ⟨Y, j, e2, _, hs2, _⟩ := hq1.sl
  subst e1 e2
  have HS1 := Lib.hid hs1
  have HQ1 := Lib.hid hs2
  have HB1 := Lib.hid hb1
  have HM1 := Lib.hid (HM.out.below hb1)
  have HT1 := Lib.hid (HT.out.below hb1)
  have hl40 : l.length ≤ 40 := hok1.lp
  have hm13 : m.length ≤ 13 := hok1.lv
  have hrb := readBackL (a := ⟨l, x, m⟩)
  have hlen := archL_len ⟨l, x, m⟩ lineWrite
  have hav := fun h => (archL_ok (a := ⟨l, x, m⟩) h lineWrite).valid
  have hbad := fun h => archL_bad (a := ⟨l, x, m⟩) h lineWrite
  cases hR : archL ⟨l, x, m⟩ lineWrite with
  | mk a2 ans =>
  obtain ⟨l2, x2, m2⟩ := a2
  rw [hR] at hrb hlen hav hbad
  simp only at hrb hlen hav hbad
  have HI := Lib.hid (fun W h1 h2 h3 h4 => line_law (l := l) (x := x) (m := m) (k := k) (j := j) ⟨#[119, 114, 105, 116, 101, 32, 47, 113, 32, 119, 111, 114, 100]⟩ hp1.cz (by omega) hok1.fit hq1.cz (by omega) hok1.fitV (by decide) hR W h1 h2 h3 h4)
  clear hp1 hq1 hs1 hs2 hb1 hR
  go_wp2_with fail
  refine (HI.out _ (HS1.out.alloc _) (HQ1.out.alloc _) (HT1.out.below ((Below.refl _ _).alloc (Nat.le_refl _) _)) (HM1.out.below ((Below.refl _ _).alloc (Nat.le_refl _) _))).mono ?_
  rintro e w2 ⟨X2, k2, Y2, j2, rfl, hp2, hq2, hb2⟩
  have HB2 := Lib.hid (Below_then HB1.out (Below_of_alloc hb2) (Nat.le_refl _))
  have HM2 := Lib.hid (HM1.out.below (Below_of_alloc hb2))
  have HT2 := Lib.hid (HT1.out.below (Below_of_alloc hb2))
  have HP2 := Lib.hid hp2
  have HQ2 := Lib.hid hq2
  clear hp2 hq2 hb2
  by_cases hans : ans = wOk
  · have hAV : archV ⟨l2, x2, m2⟩ = true := by
      cases h : archV ⟨l, x, m⟩
      · have := hbad h
        injection this with _ h2
        rw [hans] at h2; cases h2
      · exact hav h
    have hst : (mk ans).toList = [111, 107] := by rw [mk_toList, hans]; rfl
    have HI2 := Lib.hid (fun W h1 h2 h3 h4 => line_law (l := l2) (x := x2) (m := m2) (k := k2) (j := j2) ⟨#[114, 101, 97, 100, 32, 47, 113]⟩ HP2.out.cz (by omega) (fitP_of_store (archV_iff.1 hAV).1) HQ2.out.cz (by omega) (fitV_valid (archV_iff.1 hAV).2.1) (by decide) (hrb hans) W h1 h2 h3 h4)
    have hw0 : (mk (61 :: wWord)).toList = [61, 119, 111, 114, 100] := by rw [mk_toList]; rfl
    have hl2 : l2.length ≤ 40 := hlen.1
    have hm2 : m2.length ≤ 12 := hlen.2
    generalize mk ans = s2 at *
    generalize mk (61 :: wWord) = s3 at *
    have hne : (s2.toList == [111, 107]) = true := by rw [hst]; decide
    have hne3 : (s3.toList == [61, 119, 111, 114, 100]) = true := by rw [hw0]; decide
    clear hrb hav hbad hans hAV hst hw0 hlen
    go_wp2_with fail
    refine (HI2.out _ (HP2.out.alloc _).sl' (HQ2.out.alloc _).sl' (HT2.out.below ((Below.refl _ _).alloc (Nat.le_refl _) _)) (HM2.out.below ((Below.refl _ _).alloc (Nat.le_refl _) _))).mono ?_
    rintro e w3 ⟨X3, k3, Y3, j3, rfl, hp3, hq3, hb3⟩
    have HB3 := Lib.hid (Below_then HB2.out (Below_of_alloc hb3) (Nat.le_refl _))
    have HP2b := Lib.hid (HP2.out.below (Below_of_alloc hb3))
    have HQ2b := Lib.hid (HQ2.out.below (Below_of_alloc hb3))
    obtain ⟨⟨z0, z1, z2⟩, _, _⟩ := Row3.new.below hb3
    have zz0 := fun o => cell_alloc (x := o) z0
    have zz1 := fun o => cell_alloc (x := o) z1
    have zz2 := fun o => cell_alloc (x := o) z2
    have HP3 := Lib.hid hp3
    have HQ3 := Lib.hid hq3
    clear hp3 hq3 hb3
    go_wp2_with (go_at_call 28; refine (sameArchive_same X3 Y3 X2 Y2 k3 j3 k2 j2 l2 m2 x2 _ (HP3.out.alloc _).sl' (HP2b.out.alloc _).sl' (by omega) (HQ3.out.alloc _).sl' (HQ2b.out.alloc _).sl' (by omega)).mono ?_; rintro e w4 ⟨rfl, hb4⟩; have HB4 := Lib.hid (Below_then HB3.out (Below_of_alloc hb4) (Nat.le_refl _)); clear hb4)
    go_ret
    exact ⟨rfl, HB4.out⟩
  · have hst : (mk ans).toList ≠ [111, 107] := fun e => hans (by rw [mk_toList] at e; exact e)
    generalize mk ans = s2 at *
    have hne : (s2.toList == [111, 107]) = false := beq_eq_false_iff_ne.2 hst
    clear hrb hav hbad hans hst hlen
    go_wp2_with (go_at_call 24; refine (alive_any _).mono ?_; rintro e w' ⟨rfl, rfl⟩)
    go_ret
    exact ⟨rfl, HB2.out.alloc HB2.out.size _⟩
end Go.Proofs.YtkglfmgmmnfmbaaGreatDoor
