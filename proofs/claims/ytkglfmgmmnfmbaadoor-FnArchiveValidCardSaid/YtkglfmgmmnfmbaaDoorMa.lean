/- DrawArchiveValid; FnArchiveValid, walked: archives have an open root. -/
import Derived.Test.YtkglfmgmmnfmbaaDoorLr
import Derived.Test.YtkglfmgmmnfmbaaDoorGc0
import Derived.Test.YtkglfmgmmnfmbaaDoorGc1
import Derived.Test.YtkglfmgmmnfmbaaDoorGc3
import Derived.Test.YtkglfmgmmnfmbaaDoorGa5
set_option linter.unusedVariables false
namespace Go.Proofs.YtkglfmgmmnfmbaaDoor
open Go.RowKit
theorem BytesIn.al {w : World} {A : Option Addr} {n c : Nat} (h : BytesIn w A n c) (o : Obj) : BytesIn (w.alloc o) A n c := by
  obtain ⟨l, h1, h2, h3, h4⟩ := h
  exact ⟨l, h1, h2, h3, h4.alloc o⟩
/-- An archive that is drawn. -/
def ArGot (w : World) (e : Ending) (w' : World) : Prop :=
  ∃ (v : Value) (a : Ar), e = .returned v ∧ ArV w' w.heap.size a v ∧ ArOk a ∧ Below w.heap.size w w'
theorem ArOk.fit {a : Ar} (h : ArOk a) : FitP a.ps := fun q hq => Nat.le_trans (h.fitP q hq) (by omega)
set_option maxHeartbeats 1000000 in
set_option maxRecDepth 100000 in
theorem DrawArchiveValid_any (A : Option Addr) (n c : Nat) (w : World) (hb : BytesIn w A n c) : Calls Tryd.prog 5 #[.slice A n c] w (ArGot w) := by
  have HBI := Lib.hid (BytesIn.al hb (.cells #[.slice none 0 0, .int .i64 0, .slice none 0 0] 26))
  clear hb
  go_enter Tryd.func5, Tryd.ntmps5
  go_wp2_with fail
  refine (l20Open_any _ _ _ _ HBI.out).mono ?_
  rintro e w1 ⟨rfl, hb1, hr1, hz1⟩
  rw [World.alloc_size_] at hr1 hz1
  have HR1 := Lib.hid hr1
  have hr0 := Row3.new.below (w' := w1) hb1
  have HR0 := Lib.hid hr0
  have HB1 := Lib.hid (Below_of_alloc hb1)
  have hz2 : w.heap.size + 1 < w1.heap.size := by omega
  clear hr1 hb1 hr0
  go_wp2_with fail
  refine (l20Archive_any _ _ _ _ HR1.out (by omega) (by omega)).mono ?_
  rintro e w2 ⟨v2, a, p2, rfl, ⟨P, Q, rfl, hp2, hq2, hap2⟩, hok2, ho2, hr2, hle2⟩
  obtain ⟨X, k, e1, _⟩ := hp2.sl
  obtain ⟨Y, j, e2, _⟩ := hq2.sl
  subst e1 e2
  obtain ⟨⟨y0, y1, y2⟩, yf, ylt⟩ := HR0.out.only ho2 (by simp)
  have HP2 := Lib.hid hp2
  have HQ2 := Lib.hid hq2
  have HO2 := Lib.hid (HB1.out.trans (ho2.below (show w.heap.size ≤ w.heap.size + 1 by omega) (show w.heap.size ≤ w1.heap.size by omega)))
  have hzl : w.heap.size < w1.heap.size := by omega
  have HOK := Lib.hid hok2
  clear hr2 hp2 hq2
  go_wp2_with fail
  exact bodyPost_ret (v := .agg #[.slice X a.ps.length k, .int .i64 a.op, .slice Y a.vs.length j]) (by simp [results, Tryd.results5, go_sem, y0, y1, y2]) rfl
    ⟨_, a, rfl, ⟨_, _, rfl, (((HP2.out.setBelow hzl _).setBelow hzl _).setBelow hzl _).mono (by omega), (((HQ2.out.setBelow hzl _).setBelow hzl _).setBelow hzl _).mono (by omega), hap2⟩, HOK.out, ((HO2.out.setCell (Nat.le_refl _) _).setCell (Nat.le_refl _) _).setCell (Nat.le_refl _) _⟩
set_option maxHeartbeats 4000000 in
set_option maxRecDepth 100000 in
theorem wFnArchiveValid (A : Option Addr) (n c : Nat) (w : World) (hb : BytesIn w A n c) (hm : MaxL w) (ht : TzL w) : Calls Tryd.prog 3 #[.slice A n c] w (LawOk w) := by
  by_cases h : n ≤ 1048576
  case neg =>
    go_enter Tryd.func3, Tryd.ntmps3
    go_wp2
    go_ret
    exact ⟨rfl, Below.refl _ _⟩
  have HBI := Lib.hid hb
  have HM := Lib.hid hm
  have HT := Lib.hid ht
  clear hb hm ht
  go_enter Tryd.func3, Tryd.ntmps3
  go_wp2_with fail
  refine (DrawArchiveValid_any _ _ _ _ HBI.out).mono ?_
  rintro e w1 ⟨v1, ⟨l, x, m⟩, rfl, ⟨P, Q, rfl, hp1, hq1, hap1⟩, hok1, hb1⟩
  simp only at *
  obtain ⟨X, k, e1, _, hs1, _⟩ := hp1.sl
  obtain ⟨Y, j, e2, _, hs2, _⟩ := hq1.sl
  subst e1 e2
  have HS1 := Lib.hid hs1
  have HQ1 := Lib.hid hs2
  have HB1 := Lib.hid hb1
  have HM1 := Lib.hid (HM.out.below hb1)
  have HT1 := Lib.hid (HT.out.below hb1)
  have HFP := Lib.hid (show FitP l from hok1.fit)
  have HFV := Lib.hid (show FitV m from hok1.fitV)
  have hl := hok1.lp
  have hl2 := hok1.lv
  simp only at hl hl2
  clear hp1 hq1 hs1 hs2 hb1 hok1
  have hIV := fun w h h2 h3 h4 => iArchiveValid_any X Y k j l m x w h (by omega) HFP.out h2 (by omega) HFV.out h3 h4
  have hSV := fun w h h2 => sArchiveValid_any X Y k j l m x w h (by omega) HFP.out h2 (by omega) HFV.out
  have hI0 := fun w h3 h4 => iArchiveValid_any none none 0 0 [] [] x w Sl.none_ (by simp) (by intro q hq; cases hq) Sl.none_ (by simp) (by intro q hq; cases hq) h3 h4
  rw [archV_nopieces] at hI0
  have HI0 := Lib.hid (fun w h3 h4 => show Calls Tryd.prog 6 #[.agg #[.slice none 0 0, .int .i64 x, .slice none 0 0]] w fun e w' => e = .returned (.bool false) ∧ Below w.heap.size w w' from hI0 w h3 h4)
  have hI2 := fun w h h3 h4 => iArchiveValid_any X none k 0 l [] x w h (by omega) HFP.out Sl.none_ (by simp) (by intro q hq; cases hq) h3 h4
  have HNV := Lib.hid (fun h => archV_novers (a := ⟨l, x, m⟩) h)
  clear hI0
  cases hv : archV ⟨l, x, m⟩
  · rw [hv] at hIV hSV
    have HIV := Lib.hid hIV
    have HSV := Lib.hid hSV
    clear hIV hSV hI2 hv
    go_wp2_with fail
    refine (HIV.out _ (HS1.out.alloc _) (HQ1.out.alloc _) (HT1.out.below ((Below.refl _ _).alloc (Nat.le_refl _) _)) (HM1.out.below ((Below.refl _ _).alloc (Nat.le_refl _) _))).mono ?_
    rintro e w2 ⟨rfl, hb2⟩
    have hr2 := Row3.new.below hb2
    have HR2 := Lib.hid hr2
    have HY2 := Lib.hid (Below_of_alloc hb2)
    obtain ⟨⟨y0, y1, y2⟩, _, _⟩ := hr2
    have HB2 := Lib.hid (Below_then HB1.out HY2.out (Nat.le_refl _))
    clear hb2
    go_wp2_with fail
    refine (HSV.out _ (HS1.out.below HY2.out) (HQ1.out.below HY2.out)).mono ?_
    rintro e w3 ⟨rfl, hb3⟩
    replace HR2 := Lib.hid (HR2.out.below hb3)
    have HB3 := Lib.hid (Below_then HB2.out hb3 (Nat.le_refl _))
    have HT3 := Lib.hid ((HT1.out.below HY2.out).below hb3)
    have HM3 := Lib.hid ((HM1.out.below HY2.out).below hb3)
    clear hb3 y0 y1 y2
    obtain ⟨⟨y0, y1, y2⟩, _, _⟩ := HR2.out
    go_wp2_with fail
    refine (HI0.out _ HT3.out HM3.out).mono ?_
    rintro e w4 ⟨rfl, hb4⟩
    have HB4 := Lib.hid (Below_then HB3.out hb4 (Nat.le_refl _))
    clear hb4
    go_wp2_with (go_at_call 8; refine (alive_any _).mono ?_; rintro e w' ⟨rfl, rfl⟩)
    go_ret
    exact ⟨rfl, HB4.out⟩
  · rw [hv] at hIV hSV
    have hnv : archV ⟨l, x, []⟩ = true := HNV.out hv
    rw [hnv] at hI2
    have HIV := Lib.hid hIV
    have HSV := Lib.hid hSV
    have HI2 := Lib.hid (fun w h h3 h4 => show Calls Tryd.prog 6 #[.agg #[.slice X l.length k, .int .i64 x, .slice none 0 0]] w fun e w' => e = .returned (.bool true) ∧ Below w.heap.size w w' from hI2 w h h3 h4)
    clear hIV hSV hI2 hv hnv
    go_wp2_with fail
    refine (HIV.out _ (HS1.out.alloc _) (HQ1.out.alloc _) (HT1.out.below ((Below.refl _ _).alloc (Nat.le_refl _) _)) (HM1.out.below ((Below.refl _ _).alloc (Nat.le_refl _) _))).mono ?_
    rintro e w2 ⟨rfl, hb2⟩
    have hr2 := Row3.new.below hb2
    have HR2 := Lib.hid hr2
    have HY2 := Lib.hid (Below_of_alloc hb2)
    obtain ⟨⟨y0, y1, y2⟩, _, _⟩ := hr2
    have HB2 := Lib.hid (Below_then HB1.out HY2.out (Nat.le_refl _))
    clear hb2
    go_wp2_with fail
    refine (HSV.out _ (HS1.out.below HY2.out) (HQ1.out.below HY2.out)).mono ?_
    rintro e w3 ⟨rfl, hb3⟩
    replace HR2 := Lib.hid (HR2.out.below hb3)
    have HB3 := Lib.hid (Below_then HB2.out hb3 (Nat.le_refl _))
    have HT3 := Lib.hid ((HT1.out.below HY2.out).below hb3)
    have HM3 := Lib.hid ((HM1.out.below HY2.out).below hb3)
    have HS3 := Lib.hid ((HS1.out.below HY2.out).below hb3)
    clear hb3 y0 y1 y2
    obtain ⟨⟨y0, y1, y2⟩, _, _⟩ := HR2.out
    go_wp2_with fail
    refine (HI0.out _ HT3.out HM3.out).mono ?_
    rintro e w4 ⟨rfl, hb4⟩
    replace HR2 := Lib.hid (HR2.out.below hb4)
    have HB4 := Lib.hid (Below_then HB3.out hb4 (Nat.le_refl _))
    have HT4 := Lib.hid (HT3.out.below hb4)
    have HM4 := Lib.hid (HM3.out.below hb4)
    have HS4 := Lib.hid (HS3.out.below hb4)
    clear hb4 y0 y1 y2
    obtain ⟨⟨y0, y1, y2⟩, _, _⟩ := HR2.out
    go_wp2_with fail
    refine (HI2.out _ HS4.out HT4.out HM4.out).mono ?_
    rintro e w5 ⟨rfl, hb5⟩
    have HB5 := Lib.hid (Below_then HB4.out hb5 (Nat.le_refl _))
    clear hb5
    go_wp2_with (go_at_call 8; refine (alive_any _).mono ?_; rintro e w' ⟨rfl, rfl⟩)
    go_ret
    exact ⟨rfl, HB5.out⟩
end Go.Proofs.YtkglfmgmmnfmbaaDoor
