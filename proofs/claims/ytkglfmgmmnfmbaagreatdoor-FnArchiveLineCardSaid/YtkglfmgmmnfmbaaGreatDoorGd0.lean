/- Texts in one: Mc, Md. -/
import Derived.Test.YtkglfmgmmnfmbaaGreatDoorMa
import Derived.Test.YtkglfmgmmnfmbaaGreatDoorAli
import Derived.Test.YtkglfmgmmnfmbaaGreatDoorSq
/- DrawArchiveLine; FnReadBack, walked: written words are read. -/
set_option linter.unusedVariables false
namespace Go.Proofs.YtkglfmgmmnfmbaaGreatDoor
open Go.RowKit
/-- An archive and a line that are drawn. -/
def ArLGot (w : World) (e : Ending) (w' : World) : Prop :=
  ∃ (v : Value) (a : Ar) (line : ByteArray), e = .returned (.tuple #[v, .string line]) ∧ ArV w' w.heap.size a v ∧ ArOk a ∧ line.size ≤ 40 ∧ Below w.heap.size w w'
theorem Only.undrew {g : Nat} {w w' : World} (h : Only g w.drew w') : Only g w w' := ⟨h.os, h.tape, h.output, h.size, h.block⟩
theorem Only.unalloc {g : Nat} {w w' : World} {o : Obj} (h : Only g (w.alloc o) w') : Only g w w' := (Only.of_below ((Below.refl _ _).alloc (Nat.le_refl _) o)).trans h
set_option maxHeartbeats 4000000 in
set_option maxRecDepth 100000 in
theorem DrawArchiveLine_any (A : Option Addr) (n c : Nat) (w : World) (hb : BytesIn w A n c) : Calls Tryz.prog 23 #[.slice A n c] w (ArLGot w) := by
  have HBI := Lib.hid (BytesIn.al hb (.cells #[.slice none 0 0, .int .i64 0, .slice none 0 0] 30))
  clear hb
  go_enter Tryz.func23, Tryz.ntmps23
  go_wp2_with fail
  refine (l20Open_any _ _ _ _ HBI.out).mono ?_
  rintro e w1 ⟨rfl, hb1, hr1, hz1⟩
  rw [World.alloc_size_] at hr1 hz1
  have HR1 := Lib.hid hr1
  have hr0 := Row3.new.below (w' := w1) hb1
  have HR0 := Lib.hid hr0
  have HB1 := Lib.hid (Below_of_alloc hb1)
  have hz2 : w.heap.size + 1 < w1.heap.size := by omega
  clear hr1 hb1 hr0
  go_wp2_with fail
  refine (l20Archive_any _ _ _ _ HR1.out (by omega) (by omega)).mono ?_
  rintro e w2 ⟨v2, ⟨l, x, m⟩, p2, rfl, ⟨P, Q, rfl, hp2, hq2, hap2⟩, hok2, ho2, hr2, hle2⟩
  obtain ⟨X, k, e1, _⟩ := hp2.sl
  obtain ⟨Y, j, e2, _⟩ := hq2.sl
  subst e1 e2
  simp only at *
  replace HR0 := Lib.hid (HR0.out.only ho2 (by simp))
  have HP2 := Lib.hid hp2
  have HQ2 := Lib.hid hq2
  have HO2 := Lib.hid (HB1.out.trans (ho2.below (show w.heap.size ≤ w.heap.size + 1 by omega) (show w.heap.size ≤ w1.heap.size by omega)))
  have HOK := Lib.hid hok2
  have hz3 : w1.heap.size ≤ w2.heap.size := ho2.size
  have HR2 := Lib.hid hr2
  have HN := Lib.hid (Row3.new (w := w2) (v0 := .slice X l.length k) (v1 := .int .i64 x) (v2 := .slice Y m.length j) (E := 30))
  have HR0b := Lib.hid (HR0.out.below ((Below.refl _ _).alloc (Nat.le_refl _) (.cells #[.slice X l.length k, .int .i64 x, .slice Y m.length j] 30)))
  clear hr2 hp2 hq2
  obtain ⟨⟨n0, n1, n2⟩, _, _⟩ := HN.out
  have hne : w2.heap.size ≠ w.heap.size := by omega
  go_wp2_with fail
  go_region_held3 (fun W => W.cell? ⟨w2.heap.size, 0, none⟩ = some (.slice X l.length k) ∧ W.cell? ⟨w2.heap.size, 1, none⟩ = some (.int .i64 x) ∧ W.cell? ⟨w2.heap.size, 2, none⟩ = some (.slice Y m.length j))
    (first | exact ⟨n0, n1, n2⟩ | exact ⟨m0, m1, m2⟩ | exact ⟨keep_set hne m0, keep_set hne m1, keep_set hne m2⟩ | exact ⟨keep_set hne (keep_set hne m0), keep_set hne (keep_set hne m1), keep_set hne (keep_set hne m2)⟩ | exact ⟨keep_set hne (keep_set hne (keep_set hne m0)), keep_set hne (keep_set hne (keep_set hne m1)), keep_set hne (keep_set hne (keep_set hne m2))⟩)
    ((go_at_call 64; refine (l20Line_any _ _ _ (by first | exact HR2.out.alloc _ | exact (HR2.out.alloc _).below (Below_drewN (Below.refl _ _) 1)) (by omega)).mono ?_; rintro e w4 ⟨v4, p4, rfl, ⟨ln, rfl, hln⟩, ho4, hr4, hp4⟩; have ho4' := (show Only (w.heap.size + 1) (w2.alloc (.cells #[.slice X l.length k, .int .i64 x, .slice Y m.length j] 30)) w4 from (by first | exact ho4 | exact ho4.undrew)); have HO4 := Lib.hid ho4'; obtain ⟨⟨m0, m1, m2⟩, _, _⟩ := HN.out.only ho4' (by omega); obtain ⟨⟨y0, y1, y2⟩, yf, ylt⟩ := HR0b.out.only ho4' (by simp); clear ho4 ho4' hr4))
  all_goals
    have HP4 := Lib.hid ((HP2.out.alloc _).only HO4.out (by omega))
    have HQ4 := Lib.hid ((HQ2.out.alloc _).only HO4.out (by omega))
    have HB4 := Lib.hid (HO2.out.trans (HO4.out.unalloc.below (show w.heap.size ≤ w.heap.size + 1 by omega) (show w.heap.size ≤ w2.heap.size by omega)))
    have hzl : w.heap.size < w1.heap.size := by omega
    go_wp2_with fail
    exact bodyPost_ret (v := .tuple #[.agg #[.slice X l.length k, .int .i64 x, .slice Y m.length j], .string ln]) (by simp [results, Tryz.results23, go_sem, y0, y1, y2]) rfl
      ⟨_, ⟨l, x, m⟩, ln, rfl, ⟨_, _, rfl, (((HP4.out.setBelow hzl _).setBelow hzl _).setBelow hzl _).mono (by omega), (((HQ4.out.setBelow hzl _).setBelow hzl _).setBelow hzl _).mono (by omega), hap2⟩, HOK.out, hln, ((HB4.out.setCell (Nat.le_refl _) _).setCell (Nat.le_refl _) _).setCell (Nat.le_refl _) _⟩
/-- What the program makes of a line, for a law: an archive in memory of its own, and its answer. -/
theorem line_law {X Y : Option Addr} {k j : Nat} {l : List Pc} {m : List Vr} {x : Int} (line : ByteArray) (hcz : X = none → k = 0) (hl : l.length ≤ 16777216) (hf : FitP l) (hcz2 : Y = none → j = 0) (hl2 : m.length ≤ 16777216) (hf2 : FitV m) (hline : line.size ≤ 1048576) {l2 : List Pc} {x2 : Int} {m2 : List Vr} {ans : Bs} (hR : archL ⟨l, x, m⟩ (bs line) = (⟨l2, x2, m2⟩, ans)) (W : World) (h1 : Sl W encP 2 X l) (h2 : Sl W encV 3 Y m) (htz : TzL W) (hmx : MaxL W) :
    Calls Tryz.prog 12 #[.agg #[.slice X l.length k, .int .i64 x, .slice Y m.length j], .string line] W fun e w' => ∃ (X2 : Option Addr) (k2 : Nat) (Y2 : Option Addr) (j2 : Nat), e = .returned (.tuple #[.agg #[.slice X2 l2.length k2, .int .i64 x2, .slice Y2 m2.length j2], .string (mk ans)]) ∧ Own w' W.heap.size 107 2 encP (.slice X2 l2.length k2) l2 ∧ Own w' W.heap.size 63 3 encV (.slice Y2 m2.length j2) m2 ∧ Below W.heap.size W w' := by
  have h := iArchiveLine_any X Y k j l m x line W h1 hcz hl hf h2 hcz2 hl2 hf2 hline htz hmx
  rw [hR] at h
  refine h.mono fun e w' ⟨v, he, ⟨p, q, hv, hp, hq, _⟩, hb⟩ => ?_
  obtain ⟨X2, k2, e1, _⟩ := hp.sl
  obtain ⟨Y2, j2, e2, _⟩ := hq.sl
  subst e1 e2 hv
  exact ⟨X2, k2, Y2, j2, he, hp, hq, hb⟩
set_option maxHeartbeats 4000000 in
set_option maxRecDepth 100000 in
theorem wFnReadBack (A : Option Addr) (n c : Nat) (w : World) (hb : BytesIn w A n c) (hm : MaxL w) (ht : TzL w) : Calls Tryz.prog 6 #[.slice A n c] w (LawOk w) := by
  by_cases h : n ≤ 1048576
  case neg =>
    go_enter Tryz.func6, Tryz.ntmps6
    go_wp2
    go_ret
    exact ⟨rfl, Below.refl _ _⟩
  have HBI := Lib.hid hb
  have HM := Lib.hid hm
  have HT := Lib.hid ht
  clear hb hm ht
  go_enter Tryz.func6, Tryz.ntmps6
  go_wp2_with fail
  refine (DrawArchiveLine_any _ _ _ _ HBI.out).mono ?_
  rintro e w1 ⟨v1, ⟨l, x, m⟩, ln, rfl, ⟨P, Q, rfl, hp1, hq1, hap1⟩, hok1, hln1, hb1⟩
  simp only at *
  obtain ⟨X, k, e1, _, hs1, _⟩ := hp1.sl
  obtain ⟨Y, j, e2, _, hs2, _⟩ := hq1.sl
  subst e1 e2
  have HS1 := Lib.hid hs1
  have HQ1 := Lib.hid hs2
  have HB1 := Lib.hid hb1
  have HM1 := Lib.hid (HM.out.below hb1)
  have HT1 := Lib.hid (HT.out.below hb1)
  have hl40 : l.length ≤ 40 := hok1.lp
  have hm13 : m.length ≤ 13 := hok1.lv
  have hrb := readBackL (a := ⟨l, x, m⟩)
  have hlen := archL_len ⟨l, x, m⟩ lineWrite
  have hav := fun h => (archL_ok (a := ⟨l, x, m⟩) h lineWrite).valid
  have hbad := fun h => archL_bad (a := ⟨l, x, m⟩) h lineWrite
  cases hR : archL ⟨l, x, m⟩ lineWrite with
  | mk a2 ans =>
  obtain ⟨l2, x2, m2⟩ := a2
  rw [hR] at hrb hlen hav hbad
  simp only at hrb hlen hav hbad
  have HI := Lib.hid (fun W h1 h2 h3 h4 => line_law (l := l) (x := x) (m := m) (k := k) (j := j) ⟨#[119, 114, 105, 116, 101, 32, 47, 113, 32, 119, 111, 114, 100]⟩ hp1.cz (by omega) hok1.fit hq1.cz (by omega) hok1.fitV (by decide) hR W h1 h2 h3 h4)
  clear hp1 hq1 hs1 hs2 hb1 hR
  go_wp2_with fail
  refine (HI.out _ (HS1.out.alloc _) (HQ1.out.alloc _) (HT1.out.below ((Below.refl _ _).alloc (Nat.le_refl _) _)) (HM1.out.below ((Below.refl _ _).alloc (Nat.le_refl _) _))).mono ?_
  rintro e w2 ⟨X2, k2, Y2, j2, rfl, hp2, hq2, hb2⟩
  have HB2 := Lib.hid (Below_then HB1.out (Below_of_alloc hb2) (Nat.le_refl _))
  have HM2 := Lib.hid (HM1.out.below (Below_of_alloc hb2))
  have HT2 := Lib.hid (HT1.out.below (Below_of_alloc hb2))
  have HP2 := Lib.hid hp2
  have HQ2 := Lib.hid hq2
  clear hp2 hq2 hb2
  by_cases hans : ans = wOk
  · have hAV : archV ⟨l2, x2, m2⟩ = true := by
      cases h : archV ⟨l, x, m⟩
      · have := hbad h
        injection this with _ h2
        rw [hans] at h2; cases h2
      · exact hav h
    have hst : (mk ans).toList = [111, 107] := by rw [mk_toList, hans]; rfl
    have HI2 := Lib.hid (fun W h1 h2 h3 h4 => line_law (l := l2) (x := x2) (m := m2) (k := k2) (j := j2) ⟨#[114, 101, 97, 100, 32, 47, 113]⟩ HP2.out.cz (by omega) (fitP_of_store (archV_iff.1 hAV).1) HQ2.out.cz (by omega) (fitV_valid (archV_iff.1 hAV).2.1) (by decide) (hrb hans) W h1 h2 h3 h4)
    have hw0 : (mk (61 :: wWord)).toList = [61, 119, 111, 114, 100] := by rw [mk_toList]; rfl
    have hl2 : l2.length ≤ 40 := hlen.1
    have hm2 : m2.length ≤ 12 := hlen.2
    generalize mk ans = s2 at *
    generalize mk (61 :: wWord) = s3 at *
    have hne : (s2.toList == [111, 107]) = true := by rw [hst]; decide
    have hne3 : (s3.toList == [61, 119, 111, 114, 100]) = true := by rw [hw0]; decide
    clear hrb hav hbad hans hAV hst hw0 hlen
    go_wp2_with fail
    refine (HI2.out _ (HP2.out.alloc _).sl' (HQ2.out.alloc _).sl' (HT2.out.below ((Below.refl _ _).alloc (Nat.le_refl _) _)) (HM2.out.below ((Below.refl _ _).alloc (Nat.le_refl _) _))).mono ?_
    rintro e w3 ⟨X3, k3, Y3, j3, rfl, hp3, hq3, hb3⟩
    have HB3 := Lib.hid (Below_then HB2.out (Below_of_alloc hb3) (Nat.le_refl _))
    have HP2b := Lib.hid (HP2.out.below (Below_of_alloc hb3))
    have HQ2b := Lib.hid (HQ2.out.below (Below_of_alloc hb3))
    obtain ⟨⟨z0, z1, z2⟩, _, _⟩ := Row3.new.below hb3
    have zz0 := fun o => cell_alloc (x := o) z0
    have zz1 := fun o => cell_alloc (x := o) z1
    have zz2 := fun o => cell_alloc (x := o) z2
    have HP3 := Lib.hid hp3
    have HQ3 := Lib.hid hq3
    clear hp3 hq3 hb3
    go_wp2_with (go_at_call 28; refine (sameArchive_same X3 Y3 X2 Y2 k3 j3 k2 j2 l2 m2 x2 _ (HP3.out.alloc _).sl' (HP2b.out.alloc _).sl' (by omega) (HQ3.out.alloc _).sl' (HQ2b.out.alloc _).sl' (by omega)).mono ?_; rintro e w4 ⟨rfl, hb4⟩; have HB4 := Lib.hid (Below_then HB3.out (Below_of_alloc hb4) (Nat.le_refl _)); clear hb4)
    go_ret
    exact ⟨rfl, HB4.out⟩
  · have hst : (mk ans).toList ≠ [111, 107] := fun e => hans (by rw [mk_toList] at e; exact e)
    generalize mk ans = s2 at *
    have hne : (s2.toList == [111, 107]) = false := beq_eq_false_iff_ne.2 hst
    clear hrb hav hbad hans hst hlen
    go_wp2_with (go_at_call 24; refine (alive_any _).mono ?_; rintro e w' ⟨rfl, rfl⟩)
    go_ret
    exact ⟨rfl, HB2.out.alloc HB2.out.size _⟩
end Go.Proofs.YtkglfmgmmnfmbaaGreatDoor

/- FnArchiveLine, walked: lines keep archives valid. -/
set_option linter.unusedVariables false
namespace Go.Proofs.YtkglfmgmmnfmbaaGreatDoor
open Go.RowKit
/-- What the reference makes of a line, for a law. -/
theorem sline_law {X Y : Option Addr} {k j : Nat} {l : List Pc} {m : List Vr} {x : Int} (line : ByteArray) (hcz : X = none → k = 0) (hle : l.length ≤ k) (hl : l.length ≤ 16777216) (hf : FitP l) (hcz2 : Y = none → j = 0) (hl2 : m.length ≤ 16777216) (hf2 : FitV m) (hline : line.size ≤ 1048576) {l2 : List Pc} {x2 : Int} {m2 : List Vr} {ans : Bs} (hR : archL ⟨l, x, m⟩ (bs line) = (⟨l2, x2, m2⟩, ans)) (W : World) (h1 : Sl W encP 2 X l) (h2 : Sl W encV 3 Y m) :
    Calls Tryz.prog 10 #[.agg #[.slice X l.length k, .int .i64 x, .slice Y m.length j], .string line] W fun e w' => ∃ (X2 : Option Addr) (k2 : Nat) (Y2 : Option Addr) (j2 : Nat), e = .returned (.tuple #[.agg #[.slice X2 l2.length k2, .int .i64 x2, .slice Y2 m2.length j2], .string (mk ans)]) ∧ Own w' W.heap.size 107 2 encP (.slice X2 l2.length k2) l2 ∧ Own w' W.heap.size 63 3 encV (.slice Y2 m2.length j2) m2 ∧ Below W.heap.size W w' := by
  have h := sArchiveLine_any X Y k j l m x line W h1 hcz hle hl hf h2 hcz2 hl2 hf2 hline
  rw [hR] at h
  refine h.mono fun e w' ⟨v, he, ⟨p, q, hv, hp, hq, _⟩, hb⟩ => ?_
  obtain ⟨X2, k2, e1, _⟩ := hp.sl
  obtain ⟨Y2, j2, e2, _⟩ := hq.sl
  subst e1 e2 hv
  exact ⟨X2, k2, Y2, j2, he, hp, hq, hb⟩
theorem sameArchive_empty (A B : Option Addr) (c d : Nat) (w : World) : Calls Tryz.prog 28 #[.agg #[.slice A 0 c, .int .i64 0, .slice B 0 d], .agg #[.slice none 0 0, .int .i64 0, .slice none 0 0]] w fun e w' => e = .returned (.bool true) ∧ Below w.heap.size w w' :=
  sameArchive_same A B none none c d 0 0 [] [] 0 w (Sl.gone rfl) Sl.none_ (by simp) (Sl.gone rfl) Sl.none_ (by simp)
set_option maxHeartbeats 4000000 in
set_option maxRecDepth 100000 in
theorem wFnArchiveLine (A : Option Addr) (n c : Nat) (w : World) (hb : BytesIn w A n c) (hm : MaxL w) (ht : TzL w) : Calls Tryz.prog 7 #[.slice A n c] w (LawOk w) := by
  by_cases h : n ≤ 1048576
  case neg =>
    go_enter Tryz.func7, Tryz.ntmps7
    go_wp2
    go_ret
    exact ⟨rfl, Below.refl _ _⟩
  have HBI := Lib.hid hb
  have HM := Lib.hid hm
  have HT := Lib.hid ht
  clear hb hm ht
  go_enter Tryz.func7, Tryz.ntmps7
  go_wp2_with fail
  refine (DrawArchiveLine_any _ _ _ _ HBI.out).mono ?_
  rintro e w1 ⟨v1, ⟨l, x, m⟩, ln, rfl, ⟨P, Q, rfl, hp1, hq1, hap1⟩, hok1, hln1, hb1⟩
  simp only at *
  obtain ⟨X, k, e1, hlk, hs1, _⟩ := hp1.sl
  obtain ⟨Y, j, e2, hmj, hs2, _⟩ := hq1.sl
  subst e1 e2
  have HS1 := Lib.hid hs1
  have HQ1 := Lib.hid hs2
  have HB1 := Lib.hid hb1
  have HM1 := Lib.hid (HM.out.below hb1)
  have HT1 := Lib.hid (HT.out.below hb1)
  have hl40 : l.length ≤ 40 := hok1.lp
  have hm13 : m.length ≤ 13 := hok1.lv
  have hlen := archL_len ⟨l, x, m⟩ (bs ln)
  have hok := fun h => archL_ok (a := ⟨l, x, m⟩) h (bs ln)
  have hbad := fun h => archL_bad (a := ⟨l, x, m⟩) h (bs ln)
  have HAV := Lib.hid (fun W h h2 h3 h4 => iArchiveValid_any X Y k j l m x W h (by omega) hok1.fit h2 (by omega) hok1.fitV h3 h4)
  cases hR : archL ⟨l, x, m⟩ (bs ln) with
  | mk a2 ans =>
  obtain ⟨l2, x2, m2⟩ := a2
  rw [hR] at hlen hok hbad
  simp only at hlen hok
  have hl2 : l2.length ≤ 40 := hlen.1
  have hm2 : m2.length ≤ 12 := hlen.2
  have HI := Lib.hid (fun W h1 h2 h3 h4 => line_law (l := l) (x := x) (m := m) (k := k) (j := j) ln hp1.cz (by omega) hok1.fit hq1.cz (by omega) hok1.fitV (by omega) hR W h1 h2 h3 h4)
  have HSL := Lib.hid (fun W h1 h2 => sline_law (l := l) (x := x) (m := m) (k := k) (j := j) ln hp1.cz hlk (by omega) hok1.fit hq1.cz (by omega) hok1.fitV (by omega) hR W h1 h2)
  have HOK := Lib.hid hok
  have HBAD := Lib.hid hbad
  have HSA := Lib.hid (fun A B A' B' c d c' d' w h1 h2 h3 h4 => sameArchive_same A B A' B' c d c' d' l2 m2 x2 w h1 h2 (by omega) h3 h4 (by omega))
  clear hp1 hq1 hs1 hs2 hb1 hR hok hbad hlen hok1 hap1
  generalize hst0 : mk ans = s2 at *
  have HST := Lib.hid (show s2.toList = ans by rw [← hst0, mk_toList])
  clear hst0
  go_wp2_with fail
  refine (HI.out _ (HS1.out.alloc _) (HQ1.out.alloc _) (HT1.out.below ((Below.refl _ _).alloc (Nat.le_refl _) _)) (HM1.out.below ((Below.refl _ _).alloc (Nat.le_refl _) _))).mono ?_
  rintro e w2 ⟨X2, k2, Y2, j2, rfl, hp2, hq2, hb2⟩
  have HRA := Lib.hid (Row3.new.below hb2)
  have HB2 := Lib.hid (Below_then HB1.out (Below_of_alloc hb2) (Nat.le_refl _))
  have HM2 := Lib.hid (HM1.out.below (Below_of_alloc hb2))
  have HT2 := Lib.hid (HT1.out.below (Below_of_alloc hb2))
  have HS2 := Lib.hid (HS1.out.below (Below_of_alloc hb2))
  have HQ2 := Lib.hid (HQ1.out.below (Below_of_alloc hb2))
  have HP2 := Lib.hid hp2.sl'
  have HV2 := Lib.hid hq2.sl'
  have hjm : m2.length ≤ j2 := by
    obtain ⟨Y', j', e1, hle, _⟩ := hq2.sl
    injection e1 with _ _ e1; omega
  clear hp2 hq2 hb2
  obtain ⟨⟨a0, a1, a2⟩, _, _⟩ := HRA.out
  have za0 := fun o => cell_alloc (x := o) a0
  have za1 := fun o => cell_alloc (x := o) a1
  have za2 := fun o => cell_alloc (x := o) a2
  clear a0 a1 a2
  go_wp2_with fail
  refine (HSL.out _ (HS2.out.alloc _) (HQ2.out.alloc _)).mono ?_
  rintro e w3 ⟨X3, k3, Y3, j3, rfl, hp3, hq3, hb3⟩
  have HRX := Lib.hid (Row3.new.below hb3)
  replace HRA := Lib.hid (HRA.out.below (Below_of_alloc hb3))
  have HB3 := Lib.hid (Below_then HB2.out (Below_of_alloc hb3) (Nat.le_refl _))
  have HM3 := Lib.hid (HM2.out.below (Below_of_alloc hb3))
  have HT3 := Lib.hid (HT2.out.below (Below_of_alloc hb3))
  have HS3 := Lib.hid (HS2.out.below (Below_of_alloc hb3))
  have HQ3 := Lib.hid (HQ2.out.below (Below_of_alloc hb3))
  have HP3 := Lib.hid (HP2.out.below (Below_of_alloc hb3))
  have HV3 := Lib.hid (HV2.out.below (Below_of_alloc hb3))
  have HP3' := Lib.hid hp3.sl'
  have HV3' := Lib.hid hq3.sl'
  clear hp3 hq3 hb3 za0 za1 za2
  obtain ⟨⟨x0, x1, x2'⟩, _, _⟩ := HRX.out
  have zx0 := fun o => cell_alloc (x := o) x0
  have zx1 := fun o => cell_alloc (x := o) x1
  have zx2 := fun o => cell_alloc (x := o) x2'
  clear x0 x1 x2'
  go_wp2_with fail
  refine (HSA.out X2 Y2 X3 Y3 k2 j2 k3 j3 _ (HP3.out.alloc _) (HP3'.out.alloc _) (HV3.out.alloc _) (HV3'.out.alloc _)).mono ?_
  rintro e w4 ⟨rfl, hb4⟩
  replace HRA := Lib.hid (HRA.out.below (Below_of_alloc hb4))
  replace HRX := Lib.hid (HRX.out.below (Below_of_alloc hb4))
  have HB4 := Lib.hid (Below_then HB3.out (Below_of_alloc hb4) (Nat.le_refl _))
  have HM4 := Lib.hid (HM3.out.below (Below_of_alloc hb4))
  have HT4 := Lib.hid (HT3.out.below (Below_of_alloc hb4))
  have HS4 := Lib.hid (HS3.out.below (Below_of_alloc hb4))
  have HQ4 := Lib.hid (HQ3.out.below (Below_of_alloc hb4))
  have HP4 := Lib.hid (HP3.out.below (Below_of_alloc hb4))
  have HV4 := Lib.hid (HV3.out.below (Below_of_alloc hb4))
  clear hb4 zx0 zx1 zx2 HP3' HV3' HSL HI
  obtain ⟨⟨a0, a1, a2⟩, _, _⟩ := HRA.out
  have heq : (s2.toList == s2.toList) = true := by simp
  have hav := HAV.out
  cases hv : archV ⟨l, x, m⟩
  · rw [hv] at hav
    have HAV2 := Lib.hid hav
    have hz := HBAD.out hv
    injection hz with hz1 hz2
    injection hz1 with hz3 hz4 hz5
    subst hz3 hz4 hz5
    have hst := HST.out
    rw [hz2] at hst
    have e0 : (s2.toList == []) = true := by rw [hst]; rfl
    clear hav hst hz2 hv HOK HBAD HAV
    go_wp2_with fail
    refine (HAV2.out _ HS4.out HQ4.out HT4.out HM4.out).mono ?_
    rintro e w5 ⟨rfl, hb5⟩
    replace HRX := Lib.hid (HRX.out.below hb5)
    have HB5 := Lib.hid (Below_then HB4.out hb5 (Nat.le_refl _))
    clear hb5 a0 a1 a2
    obtain ⟨⟨x0, x1, x2'⟩, _, _⟩ := HRX.out
    simp only [List.length_nil] at x0 x2'
    go_wp2_with fail
    refine (sameArchive_empty _ _ _ _ _).mono ?_
    rintro e w6 ⟨rfl, hb6⟩
    have HB6 := Lib.hid (Below_then HB5.out hb6 (Nat.le_refl _))
    clear hb6
    go_wp2_with (go_at_call 24; refine (alive_any _).mono ?_; rintro e w' ⟨rfl, rfl⟩)
    go_ret
    exact ⟨rfl, HB6.out⟩
  · rw [hv] at hav
    have HAV2 := Lib.hid hav
    have hok := HOK.out hv
    have hVX := fun W h h2 h3 h4 => iArchiveValid_any X2 Y2 k2 j2 l2 m2 x2 W h (by omega) (fitP_of_store (archV_iff.1 hok.valid).1) h2 (by omega) (fitV_valid (archV_iff.1 hok.valid).2.1) h3 h4
    rw [hok.valid] at hVX
    have HVX := Lib.hid hVX
    obtain ⟨rr, hrr0⟩ := hok.vers
    have hrr : m2 = m ++ rr := hrr0
    have htk : m2.take m.length = m := by rw [hrr, List.take_left]
    have hge : m.length ≤ m2.length := by rw [hrr, List.length_append]; omega
    have hgi : (m.length : Int) ≤ (m2.length : Int) := by omega
    have hmj2 : m.length ≤ j2 := by omega
    have HTK := Lib.hid (fun W (h : Sl W encV 3 Y2 m2) => show Sl W encV 3 Y2 m by have h2 := h.take m.length; rwa [htk] at h2)
    have HSV := Lib.hid (fun W h1 h2 => sameVersions_same Y2 Y j2 j m W h1 h2 (by omega))
    have hne0 : (s2.toList == []) = false := by rw [HST.out]; exact beq_eq_false_iff_ne.2 hok.some
    have HSAME := Lib.hid hok.same
    clear hav hVX hv HOK HBAD HAV hok hrr hrr0 htk rr
    go_wp2_with fail
    refine (HAV2.out _ HS4.out HQ4.out HT4.out HM4.out).mono ?_
    rintro e w5 ⟨rfl, hb5⟩
    replace HRA := Lib.hid (HRA.out.below hb5)
    replace HRX := Lib.hid (HRX.out.below hb5)
    have HB5 := Lib.hid (Below_then HB4.out hb5 (Nat.le_refl _))
    have HM5 := Lib.hid (HM4.out.below hb5)
    have HT5 := Lib.hid (HT4.out.below hb5)
    have HS5 := Lib.hid (HS4.out.below hb5)
    have HQ5 := Lib.hid (HQ4.out.below hb5)
    have HP5 := Lib.hid (HP4.out.below hb5)
    have HV5 := Lib.hid (HV4.out.below hb5)
    clear hb5 a0 a1 a2
    obtain ⟨⟨a0, a1, a2⟩, _, _⟩ := HRA.out
    obtain ⟨⟨x0, x1, x2'⟩, _, _⟩ := HRX.out
    replace a0 := far_cell a0
    replace a1 := far_cell a1
    replace a2 := far_cell a2
    replace x0 := far_cell x0
    replace x1 := far_cell x1
    replace x2' := far_cell x2'
    by_cases hans : ans = wOk
    · have hok2 : (s2.toList == [111, 107]) = true := by rw [HST.out, hans]; rfl
      clear HSAME hans
      go_wp2_with fail
      refine wp_region_far (by kernel_rfl) (by kernel_rfl) ?_
      repeat (go_big_quiet_step ((first | (go_at_call 29; exact far_call (HVX.out _ (HP5.out.far _) (HV5.out.far _) (HT5.out.below (far_below _ _)) (HM5.out.below (far_below _ _)))) | (go_at_call 30; exact far_call (HSV.out _ (HTK.out _ (HV5.out.far _)) (HQ5.out.far _))))))
      refine wpQuiet_nil ?_
      intro _ hwF
      obtain ⟨pF, hwF⟩ := hwF
      subst hwF
      go_wp2
      go_ret
      exact ⟨rfl, Below_then HB5.out (far_below _ _) (Nat.le_refl _)⟩
    · have hno2 : (s2.toList == [111, 107]) = false := by rw [HST.out]; exact beq_eq_false_iff_ne.2 hans
      have hxa := HSAME.out.resolve_left hans
      injection hxa with e1 e2 e3
      subst e1 e2 e3
      clear HSAME hans
      go_wp2_with fail
      refine wp_region_far (by kernel_rfl) (by kernel_rfl) ?_
      repeat (go_big_quiet_step ((first | (go_at_call 29; exact far_call (HVX.out _ (HP5.out.far _) (HV5.out.far _) (HT5.out.below (far_below _ _)) (HM5.out.below (far_below _ _)))) | (go_at_call 30; exact far_call (HSV.out _ (HTK.out _ (HV5.out.far _)) (HQ5.out.far _))) | (go_at_call 28; exact far_call (HSA.out _ _ _ _ _ _ _ _ _ (HP5.out.far _) (HS5.out.far _) (HV5.out.far _) (HQ5.out.far _))))))
      refine wpQuiet_nil ?_
      intro _ hwF
      obtain ⟨pF, hwF⟩ := hwF
      subst hwF
      go_wp2
      go_ret
      exact ⟨rfl, Below_then HB5.out (far_below _ _) (Nat.le_refl _)⟩
end Go.Proofs.YtkglfmgmmnfmbaaGreatDoor
