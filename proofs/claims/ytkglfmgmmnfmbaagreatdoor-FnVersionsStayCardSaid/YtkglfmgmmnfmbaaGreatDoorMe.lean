/- FnVersionsStay, walked: kept versions can be opened again. -/
import Derived.Test.YtkglfmgmmnfmbaaGreatDoorGd0
import Derived.Test.YtkglfmgmmnfmbaaGreatDoorGd1
import Derived.Test.YtkglfmgmmnfmbaaGreatDoorGa3
import Derived.Test.YtkglfmgmmnfmbaaGreatDoorGa5
import Derived.Test.YtkglfmgmmnfmbaaGreatDoorGa7
set_option linter.unusedVariables false
namespace Go.Proofs.YtkglfmgmmnfmbaaGreatDoor
open Go.RowKit
/-- line_law, telling besides that the two rows lie apart. -/
theorem line_law2 {X Y : Option Addr} {k j : Nat} {l : List Pc} {m : List Vr} {x : Int} (line : ByteArray) (hcz : X = none → k = 0) (hl : l.length ≤ 16777216) (hf : FitP l) (hcz2 : Y = none → j = 0) (hl2 : m.length ≤ 16777216) (hf2 : FitV m) (hline : line.size ≤ 1048576) {l2 : List Pc} {x2 : Int} {m2 : List Vr} {ans : Bs} (hR : archL ⟨l, x, m⟩ (bs line) = (⟨l2, x2, m2⟩, ans)) (W : World) (h1 : Sl W encP 2 X l) (h2 : Sl W encV 3 Y m) (htz : TzL W) (hmx : MaxL W) :
    Calls Tryz.prog 12 #[.agg #[.slice X l.length k, .int .i64 x, .slice Y m.length j], .string line] W fun e w' => ∃ (X2 : Option Addr) (k2 : Nat) (Y2 : Option Addr) (j2 : Nat), e = .returned (.tuple #[.agg #[.slice X2 l2.length k2, .int .i64 x2, .slice Y2 m2.length j2], .string (mk ans)]) ∧ Own w' W.heap.size 107 2 encP (.slice X2 l2.length k2) l2 ∧ Own w' W.heap.size 63 3 encV (.slice Y2 m2.length j2) m2 ∧ ApartV (.slice X2 l2.length k2) (.slice Y2 m2.length j2) ∧ Below W.heap.size W w' := by
  have h := iArchiveLine_any X Y k j l m x line W h1 hcz hl hf h2 hcz2 hl2 hf2 hline htz hmx
  rw [hR] at h
  refine h.mono fun e w' ⟨v, he, ⟨p, q, hv, hp, hq, hap⟩, hb⟩ => ?_
  obtain ⟨X2, k2, e1, _⟩ := hp.sl
  obtain ⟨Y2, j2, e2, _⟩ := hq.sl
  subst e1 e2 hv
  exact ⟨X2, k2, Y2, j2, he, hp, hq, hap, hb⟩
/-- The files of an archive at hand, for all worlds after one. -/
def AfIn (F : List ByteArray) (w0 : World) (A : Option Addr) (c : Nat) (l : List Pc) (r : Int) : Prop :=
  ∀ W, Below w0.heap.size w0 W → Calls Tryz.prog 27 #[.slice A l.length c, .int .i64 r] W (OwnRes 9 1 encS F W)
theorem AfIn.go {F : List ByteArray} {w0 : World} {A : Option Addr} {c : Nat} {l : List Pc} {r : Int} (h : AfIn F w0 A c l r) {W : World} (hb : Below w0.heap.size w0 W) :
    Calls Tryz.prog 27 #[.slice A l.length c, .int .i64 r] W fun e w' => ∃ v, e = .returned v ∧ Own w' W.heap.size 9 1 encS v F ∧ Below W.heap.size W w' := h W hb
theorem backLine (n : Int) : (⟨#[98, 97, 99, 107, 32]⟩ : ByteArray) ++ mk (hexT n) = mk (backTo n) := mk_append [98, 97, 99, 107, 32] (hexT n)
set_option maxHeartbeats 8000000 in
set_option maxRecDepth 100000 in
theorem wFnVersionsStay (A : Option Addr) (n c : Nat) (w : World) (hb : BytesIn w A n c) (hm : MaxL w) (ht : TzL w) : Calls Tryz.prog 5 #[.slice A n c] w (LawOk w) := by
  by_cases h : n ≤ 1048576
  case neg =>
    go_enter Tryz.func5, Tryz.ntmps5
    go_wp2
    go_ret
    exact ⟨rfl, Below.refl _ _⟩
  have HBI := Lib.hid hb
  have HM := Lib.hid hm
  have HT := Lib.hid ht
  clear hb hm ht
  go_enter Tryz.func5, Tryz.ntmps5
  go_wp2_with fail
  refine (DrawArchiveLine_any _ _ _ _ HBI.out).mono ?_
  rintro e w1 ⟨v1, ⟨l, x, m⟩, ln, rfl, ⟨P, Q, rfl, hp1, hq1, hap1⟩, hok1, hln1, hb1⟩
  simp only at *
  obtain ⟨X, k, e1, hlk, hs1, _⟩ := hp1.sl
  obtain ⟨Y, j, e2, hmj, hs2, _⟩ := hq1.sl
  subst e1 e2
  have HS1 := Lib.hid hs1
  have HQ1 := Lib.hid hs2
  have HB1 := Lib.hid hb1
  have HM1 := Lib.hid (HM.out.below hb1)
  have HT1 := Lib.hid (HT.out.below hb1)
  have hl40 : l.length ≤ 40 := hok1.lp
  have hm13 : m.length ≤ 13 := hok1.lv
  have HFP := Lib.hid (show FitP l from hok1.fit)
  have hlen := archL_len ⟨l, x, m⟩ lineKeep
  have hav := fun h => (archL_ok (a := ⟨l, x, m⟩) h lineKeep).valid
  have hbad := fun h => archL_bad (a := ⟨l, x, m⟩) h lineKeep
  have hvs := fun h => versionsStay (a := ⟨l, x, m⟩) (N := fun _ => True) (fun _ => hok1.good) h (bs ln)
  cases hR : archL ⟨l, x, m⟩ lineKeep with
  | mk a2 ans =>
  obtain ⟨l2, x2, m2⟩ := a2
  rw [hR] at hlen hav hbad hvs
  simp only at hlen hav hvs
  have hl2 : l2.length ≤ 40 := hlen.1
  have hm2 : m2.length ≤ 12 := hlen.2
  have HI := Lib.hid (fun W h1 h2 h3 h4 => line_law (l := l) (x := x) (m := m) (k := k) (j := j) ⟨#[107, 101, 101, 112, 32, 104, 101, 114, 101]⟩ hp1.cz (by omega) hok1.fit hq1.cz (by omega) hok1.fitV (by decide) hR W h1 h2 h3 h4)
  clear hp1 hq1 hs1 hs2 hb1 hR hok1 hap1 hlen
  go_wp2_with fail
  refine (HI.out _ (HS1.out.alloc _) (HQ1.out.alloc _) (HT1.out.below ((Below.refl _ _).alloc (Nat.le_refl _) _)) (HM1.out.below ((Below.refl _ _).alloc (Nat.le_refl _) _))).mono ?_
  rintro e w2 ⟨X2, k2, Y2, j2, rfl, hp2, hq2, hb2⟩
  have HRA := Lib.hid (Row3.new.below hb2)
  have HB2 := Lib.hid (Below_then HB1.out (Below_of_alloc hb2) (Nat.le_refl _))
  have HM2 := Lib.hid (HM1.out.below (Below_of_alloc hb2))
  have HT2 := Lib.hid (HT1.out.below (Below_of_alloc hb2))
  have HS2 := Lib.hid (HS1.out.below (Below_of_alloc hb2))
  have HP2 := Lib.hid hp2
  have HQ2 := Lib.hid hq2
  clear hp2 hq2 hb2
  by_cases hans : ans = wOk
  case neg =>
    have hst : (mk ans).toList ≠ [111, 107] := fun e => hans (by rw [mk_toList] at e; exact e)
    generalize mk ans = s2 at *
    have hne : (s2.toList == [111, 107]) = false := beq_eq_false_iff_ne.2 hst
    clear hav hbad hans hst hvs
    go_wp2_with (go_at_call 24; refine (alive_any _).mono ?_; rintro e w' ⟨rfl, rfl⟩)
    go_ret
    exact ⟨rfl, HB2.out.alloc HB2.out.size _⟩
  case pos =>
    have hA1 : archV ⟨l, x, m⟩ = true := by
      cases h : archV ⟨l, x, m⟩
      · have := hbad h
        injection this with _ h2
        rw [hans] at h2; cases h2
      · rfl
    have hA2 : archV ⟨l2, x2, m2⟩ = true := hav hA1
    have hst : (mk ans).toList = [111, 107] := by rw [mk_toList, hans]; rfl
    have hvs2 := hvs hans
    have hlen3 := archL_len ⟨l2, x2, m2⟩ (bs ln)
    have hA3 := (archL_ok hA2 (bs ln)).valid
    cases hR3 : archL ⟨l2, x2, m2⟩ (bs ln) with
    | mk a3 ans3 =>
    obtain ⟨l3, x3, m3⟩ := a3
    rw [hR3] at hvs2 hlen3 hA3
    simp only at hvs2 hlen3 hA3
    have hlen4 := archL_len ⟨l3, x3, m3⟩ (backTo ((m2.length : Int) - 1))
    have hA4 := (archL_ok hA3 (backTo ((m2.length : Int) - 1))).valid
    cases hR4 : archL ⟨l3, x3, m3⟩ (backTo ((m2.length : Int) - 1)) with
    | mk a4 ans4 =>
    obtain ⟨l4, x4, m4⟩ := a4
    rw [hR4] at hvs2 hlen4 hA4
    simp only at hvs2 hlen4 hA4
    obtain ⟨hans4, hx4, hfl⟩ := hvs2
    subst hx4
    have hl3 : l3.length ≤ 40 := hlen3.1
    have hm3 : m3.length ≤ 12 := hlen3.2
    have hl4 : l4.length ≤ 40 := hlen4.1
    have hm4 : m4.length ≤ 12 := hlen4.2
    have hst4 : (mk ans4).toList = [111, 107] := by rw [mk_toList, hans4]; rfl
    have HI2 := Lib.hid (fun W h1 h2 h3 h4 => line_law (l := l2) (x := x2) (m := m2) (k := k2) (j := j2) ln HP2.out.cz (by omega) (fitP_of_store (archV_iff.1 hA2).1) HQ2.out.cz (by omega) (fitV_valid (archV_iff.1 hA2).2.1) (by omega) hR3 W h1 h2 h3 h4)
    have hsb : (mk (backTo ((m2.length : Int) - 1))).size ≤ 1048576 := by
      have h1 := hexT_len ((m2.length : Int) - 1)
      have h2 : (mk (backTo ((m2.length : Int) - 1))).size = 5 + (hexT ((m2.length : Int) - 1)).length := by rw [mk_size]; unfold backTo; rw [List.length_append]; rfl
      omega
    have HI3 := Lib.hid (fun (k j : Nat) (Xa Ya : Option Addr) W h1 h2 h3 h4 h5 h6 => line_law2 (X := Xa) (Y := Ya) (l := l3) (x := x3) (m := m3) (k := k) (j := j) (mk (backTo ((m2.length : Int) - 1))) h1 (by omega) (fitP_of_store (archV_iff.1 hA3).1) h2 (by omega) (fitV_valid (archV_iff.1 hA3).2.1) hsb hR4 W h3 h4 h5 h6)
    have HFP4 := Lib.hid (fitP_of_store (archV_iff.1 hA4).1)
    have HFL := Lib.hid hfl
    have hq := str_add (x := ⟨#[98, 97, 99, 107, 32]⟩) (y := mk (hexT ((m2.length : Int) - 1))) (by decide) (by have := hexT_len ((m2.length : Int) - 1); rw [mk_size]; omega)
    rw [backLine] at hq
    have hwr : IntKind.i64.wrap ((m2.length : Int) - 1) = (m2.length : Int) - 1 := IntWalk.i64_in _ (by omega)
    generalize mk ans = s2 at *
    generalize mk ans3 = s3 at *
    generalize mk ans4 = s4 at *
    generalize mk (backTo ((m2.length : Int) - 1)) = lnB at *
    have hne : (s2.toList == [111, 107]) = true := by rw [hst]; decide
    have hne4 : (s4.toList == [111, 107]) = true := by rw [hst4]; decide
    have HQADD := Lib.hid hq
    clear hav hbad hans hst hvs hA1 hA2 hA3 hA4 hR3 hR4 hlen3 hlen4 hst4 hans4 hfl hsb hq
    go_wp2_with fail
    refine (HI2.out _ (HP2.out.alloc _).sl' (HQ2.out.alloc _).sl' (HT2.out.below ((Below.refl _ _).alloc (Nat.le_refl _) _)) (HM2.out.below ((Below.refl _ _).alloc (Nat.le_refl _) _))).mono ?_
    rintro e w3 ⟨X3, k3, Y3, j3, rfl, hp3, hq3, hb3⟩
    have HRX := Lib.hid ((Row3.new.below hb3).below ((Below.refl _ _).alloc (Nat.le_refl _) (.cells #[.slice X3 l3.length k3, .int .i64 x3, .slice Y3 m3.length j3] 30)))
    have HRY := Lib.hid (Row3.new (w := w3) (v0 := .slice X3 l3.length k3) (v1 := .int .i64 x3) (v2 := .slice Y3 m3.length j3) (E := 30))
    replace HRA := Lib.hid ((HRA.out.below (Below_of_alloc hb3)).below ((Below.refl _ _).alloc (Nat.le_refl _) (.cells #[.slice X3 l3.length k3, .int .i64 x3, .slice Y3 m3.length j3] 30)))
    have hbz : Below w2.heap.size w2 (w3.alloc (.cells #[.slice X3 l3.length k3, .int .i64 x3, .slice Y3 m3.length j3] 30)) := (Below_of_alloc hb3).alloc (Below_of_alloc hb3).size _
    have HB3 := Lib.hid (Below_then HB2.out hbz (Nat.le_refl _))
    have HM3 := Lib.hid (HM2.out.below hbz)
    have HT3 := Lib.hid (HT2.out.below hbz)
    have HS3 := Lib.hid (HS2.out.below hbz)
    have HP3 := Lib.hid (hp3.alloc (.cells #[.slice X3 l3.length k3, .int .i64 x3, .slice Y3 m3.length j3] 30))
    have HQ3 := Lib.hid (hq3.alloc (.cells #[.slice X3 l3.length k3, .int .i64 x3, .slice Y3 m3.length j3] 30))
    clear hp3 hq3 hb3 hbz
    go_wp2_with fail
    generalize hW0 : w3.alloc (.cells #[.slice X3 l3.length k3, .int .i64 x3, .slice Y3 m3.length j3] 30) = W0 at *
    refine wp_region_inv (by kernel_rfl) (by kernel_rfl) (fun a0 d a W => ∃ (v9 v10 v33 v34 v35 v36 v37 v38 v39 v40 v41 v42 v43 P3 Q3 V3 : Value) (b8 : Nat), a = ⟨#[.slice A n c, undef, .bool false, .pointer (some ⟨w1.heap.size, 0, none⟩), .string ln, .pointer (some ⟨w2.heap.size, 0, none⟩), .string s2, .pointer (some ⟨w3.heap.size, 0, none⟩), .string s3, v9, v10, .slice A n c, .int .i64 (n : Int), .bool (decide (1048576 < (n : Int))), .tuple #[.agg #[.slice X l.length k, .int .i64 x4, .slice Y m.length j], .string ln], .slice A n c, .tuple #[.agg #[.slice X l.length k, .int .i64 x4, .slice Y m.length j], .string ln], .agg #[.slice X l.length k, .int .i64 x4, .slice Y m.length j], .string ln, .tuple #[.agg #[.slice X2 l2.length k2, .int .i64 x2, .slice Y2 m2.length j2], .string s2], .agg #[.slice X l.length k, .int .i64 x4, .slice Y m.length j], .tuple #[.agg #[.slice X2 l2.length k2, .int .i64 x2, .slice Y2 m2.length j2], .string s2], .agg #[.slice X2 l2.length k2, .int .i64 x2, .slice Y2 m2.length j2], .string s2, .string s2, .bool false, undef, .tuple #[.agg #[.slice X3 l3.length k3, .int .i64 x3, .slice Y3 m3.length j3], .string s3], .agg #[.slice X2 l2.length k2, .int .i64 x2, .slice Y2 m2.length j2], .string ln, .tuple #[.agg #[.slice X3 l3.length k3, .int .i64 x3, .slice Y3 m3.length j3], .string s3], .agg #[.slice X3 l3.length k3, .int .i64 x3, .slice Y3 m3.length j3], .string s3, v33, v34, v35, v36, v37, v38, v39, v40, v41, v42, v43, undef, undef, undef, undef, undef, undef, undef, undef, undef, undef, undef, undef, undef, undef, undef, undef, undef, undef, undef, undef, undef, undef], []⟩ ∧ ((d 0 = true → v34 = .agg #[.slice X3 l3.length k3, .int .i64 x3, .slice Y3 m3.length j3]) ∧ (d 1 = true → v35 = .pointer (some ⟨w2.heap.size, 2, none⟩)) ∧ (d 2 = true → v36 = .slice Y2 m2.length j2) ∧ (d 3 = true → v37 = .int .i64 (m2.length : Int)) ∧ (d 4 = true → v38 = .int .i64 ((m2.length : Int) - 1)) ∧ (d 5 = true → v39 = .string (mk (hexT ((m2.length : Int) - 1)))) ∧ (d 6 = true → v40 = .string lnB) ∧ (d 13 = true → v10 = .string s4 ∧ d 10 = true)) ∧ BxC W0 l4 x4 m4 (.inl s4) (d 7) (d 8) (d 9) (d 10) (d 11) (d 12) v41 v33 v42 v43 v9 P3 Q3 V3 b8 W) ?_ ?_ ?_
    · exact ⟨_, _, _, _, _, _, _, _, _, _, _, _, _, .slice none 0 0, .slice none 0 0, .slice none 0 0, 0, rfl, ⟨nofun, nofun, nofun, nofun, nofun, nofun, nofun, nofun⟩, BxC.start⟩
    · refine ⟨?_, ?_, ?_, ?_, ?_, ?_, ?_, ?_, ?_, ?_, ?_, ?_, ?_, ?_, trivial⟩
      all_goals
        intro d a W K hd hdep hJ hK
        obtain ⟨v9, v10, v33, v34, v35, v36, v37, v38, v39, v40, v41, v42, v43, P3, Q3, V3, b8, rfl, hp, hx⟩ := hJ
        have HP := Lib.hid hp
        have HX := Lib.hid hx
        have HK := Lib.hid hK
        have HD := Lib.hid hd
        have HDEP := Lib.hid hdep
        clear hp hx hK hd hdep
      · obtain ⟨⟨a0, a1, a2⟩, _, _⟩ := HRY.out.below HX.out.bel
        go_simp
        exact HK.out _ _ ⟨_, _, _, _, _, _, _, _, _, _, _, _, _, _, _, _, _, rfl, ⟨fun _ => rfl, HP.out.2⟩, HX.out⟩
      · go_simp
        exact HK.out _ _ ⟨_, _, _, _, _, _, _, _, _, _, _, _, _, _, _, _, _, rfl, ⟨HP.out.1, fun _ => rfl, HP.out.2.2⟩, HX.out⟩
      · obtain rfl := HP.out.2.1 (HDEP.out { on := 1, ground := Ground.data } (by simp) rfl)
        obtain ⟨⟨a0, a1, a2⟩, _, _⟩ := HRX.out.below HX.out.bel
        go_simp
        exact HK.out _ _ ⟨_, _, _, _, _, _, _, _, _, _, _, _, _, _, _, _, _, rfl, ⟨HP.out.1, HP.out.2.1, fun _ => rfl, HP.out.2.2.2⟩, HX.out⟩
      · obtain rfl := HP.out.2.2.1 (HDEP.out { on := 2, ground := Ground.data } (by simp) rfl)
        go_simp
        exact HK.out _ _ ⟨_, _, _, _, _, _, _, _, _, _, _, _, _, _, _, _, _, rfl, ⟨HP.out.1, HP.out.2.1, HP.out.2.2.1, fun _ => rfl, HP.out.2.2.2.2⟩, HX.out⟩
      · obtain rfl := HP.out.2.2.2.1 (HDEP.out { on := 3, ground := Ground.data } (by simp) rfl)
        go_simp
        exact HK.out _ _ ⟨_, _, _, _, _, _, _, _, _, _, _, _, _, _, _, _, _, rfl, ⟨HP.out.1, HP.out.2.1, HP.out.2.2.1, HP.out.2.2.2.1, fun _ => rfl, HP.out.2.2.2.2.2⟩, HX.out⟩
      · obtain rfl := HP.out.2.2.2.2.1 (HDEP.out { on := 4, ground := Ground.data } (by simp) rfl)
        go_simp
        refine (iHexText_any _ _ (HT3.out.below HX.out.bel)).mono ?_
        rintro e w9 ⟨rfl, hb9⟩
        go_simp
        exact HK.out _ _ ⟨_, _, _, _, _, _, _, _, _, _, _, _, _, _, _, _, _, rfl, ⟨HP.out.1, HP.out.2.1, HP.out.2.2.1, HP.out.2.2.2.1, HP.out.2.2.2.2.1, fun _ => rfl, HP.out.2.2.2.2.2.2⟩, HX.out.below hb9⟩
      · obtain rfl := HP.out.2.2.2.2.2.1 (HDEP.out { on := 5, ground := Ground.data } (by simp) rfl)
        have hq := HQADD.out
        go_simp
        exact HK.out _ _ ⟨_, _, _, _, _, _, _, _, _, _, _, _, _, _, _, _, _, rfl, ⟨HP.out.1, HP.out.2.1, HP.out.2.2.1, HP.out.2.2.2.1, HP.out.2.2.2.2.1, HP.out.2.2.2.2.2.1, fun _ => rfl, HP.out.2.2.2.2.2.2.2⟩, HX.out⟩
      · obtain rfl := HP.out.1 (HDEP.out { on := 0, ground := Ground.data } (by simp) rfl)
        obtain rfl := HP.out.2.2.2.2.2.2.1 (HDEP.out { on := 6, ground := Ground.data } (by simp) rfl)
        have hsl := HP3.out.sl'.below HX.out.bel
        have hsv := HQ3.out.sl'.below HX.out.bel
        have HSL := Lib.hid hsl
        have HSV := Lib.hid hsv
        clear hsl hsv
        go_simp
        refine (HI3.out _ _ _ _ _ HP3.out.cz HQ3.out.cz HSL.out HSV.out (HT3.out.below HX.out.bel) (HM3.out.below HX.out.bel)).mono ?_
        rintro e w9 ⟨X9, k9, Y9, j9, rfl, hp9, hq9, hap9, hb9⟩
        go_simp
        exact HK.out _ _ ⟨_, _, _, _, _, _, _, _, _, _, _, _, _, _, _, _, _, rfl, HP.out, HX.out.call HD.out hb9 hp9 hq9 hap9 (show AnsV W.heap.size w9 (.inl s4) (.string s4) from rfl)⟩
      · have h5 := (HDEP.out { on := 7, ground := Ground.data } (by simp) rfl)
        obtain rfl := HX.out.cC h5
        go_simp
        exact HK.out _ _ ⟨_, _, _, _, _, _, _, _, _, _, _, _, _, _, _, _, _, rfl, HP.out, HX.out.move h5⟩
      · obtain ⟨rfl, h5⟩ := HX.out.cM (HDEP.out { on := 8, ground := Ground.data } (by simp) rfl)
        go_simp
        exact HK.out _ _ ⟨_, _, _, _, _, _, _, _, _, _, _, _, _, _, _, _, _, rfl, HP.out, HX.out.ext0 h5⟩
      · obtain ⟨rfl, h5⟩ := HX.out.cM (HDEP.out { on := 8, ground := Ground.data } (by simp) rfl)
        go_simp
        exact HK.out _ _ ⟨_, _, _, _, _, _, _, _, _, _, _, _, _, _, _, _, _, rfl, ⟨HP.out.1, HP.out.2.1, HP.out.2.2.1, HP.out.2.2.2.1, HP.out.2.2.2.2.1, HP.out.2.2.2.2.2.1, HP.out.2.2.2.2.2.2.1, fun e => ⟨(HP.out.2.2.2.2.2.2.2 e).1, rfl⟩⟩, HX.out.ext1 h5⟩
      · go_simp
        exact HK.out _ _ ⟨_, _, _, _, _, _, _, _, _, _, _, _, _, _, _, _, _, rfl, HP.out, HX.out.box HD.out⟩
      · obtain ⟨rfl, h5⟩ := HX.out.c0 (HDEP.out { on := 9, ground := Ground.data } (by simp) rfl)
        have h9 := (HDEP.out { on := 11, ground := Ground.data } (by simp) rfl)
        obtain ⟨rfl, _⟩ := HX.out.cA h9
        obtain ⟨X3, k3, e3, _⟩ := (HX.out.pC h5).sl
        obtain ⟨Y3, j3, e4, _⟩ := (HX.out.qC h5).sl
        subst e3 e4
        obtain ⟨⟨x0, x1, x2⟩, xf, _⟩ := HX.out.bx h9 HD.out
        go_simp
        exact HK.out _ _ ⟨_, _, _, _, _, _, _, _, _, _, _, _, _, _, _, _, _, rfl, HP.out, HX.out.store HD.out h5 h9⟩
      · obtain ⟨rfl, h5⟩ := HX.out.c1 (HDEP.out { on := 10, ground := Ground.data } (by simp) rfl)
        obtain rfl := HX.out.vO h5
        go_simp
        exact HK.out _ _ ⟨_, _, _, _, _, _, _, _, _, _, _, _, _, _, _, _, _, rfl, ⟨HP.out.1, HP.out.2.1, HP.out.2.2.1, HP.out.2.2.2.1, HP.out.2.2.2.2.1, HP.out.2.2.2.2.2.1, HP.out.2.2.2.2.2.2.1, fun _ => ⟨rfl, (HDEP.out { on := 10, ground := Ground.data } (by simp) rfl)⟩⟩, HX.out⟩
    · intro d a W hd hJ
      obtain ⟨v9, v10, v33, v34, v35, v36, v37, v38, v39, v40, v41, v42, v43, P3, Q3, V3, b8, rfl, hp, hx⟩ := hJ
      have h5 := hd 7 (by decide)
      obtain ⟨rfl, _⟩ := hp.2.2.2.2.2.2.2 (hd 13 (by decide))
      obtain ⟨rfl, hb8⟩ := hx.cA (hd 11 (by decide))
      have hbs := hx.bs (hd 12 (by decide))
      have hp3 := hx.pC h5
      have hq3 := hx.qC h5
      have hap3 := hx.ap h5
      have hvo3 := hx.vO h5
      have hbel3 := hx.bel
      clear hp hx
      obtain ⟨X4, k4, e3, _⟩ := hp3.sl
      obtain ⟨Y4, j4, e4, _⟩ := hq3.sl
      subst e3 e4
      have HRZ := Lib.hid hbs
      have HRA4 := Lib.hid (HRA.out.below hbel3)
      have HS4 := Lib.hid (HS3.out.below hbel3)
      have HT4 := Lib.hid (HT3.out.below hbel3)
      have HM4 := Lib.hid (HM3.out.below hbel3)
      have HB4 := Lib.hid (Below_then HB3.out hbel3 (Nat.le_refl _))
      have HP4 := Lib.hid hp3.sl'
      have hfm : ((allF l x4).map mk).length ≤ 27 := by rw [List.length_map]; exact allF_len l x4
      have ha1 : AfIn ((allF l x4).map mk) W X4 k4 l4 x4 := fun W' hb => by
        have h := iAllFiles_any X4 k4 l4 x4 W' (HP4.out.below hb) (by omega) HFP4.out (HT4.out.below hb) (HM4.out.below hb)
        rwa [HFL.out] at h
      have ha2 : AfIn ((allF l x4).map mk) W X k l x4 := fun W' hb => iAllFiles_any X k l x4 W' (HS4.out.below hb) (by omega) HFP.out (HT4.out.below hb) (HM4.out.below hb)
      generalize (allF l x4).map mk = FM at *
      have HBW := Lib.hid (Below.refl W.heap.size W)
      obtain ⟨⟨z0, z1, _⟩, _, _⟩ := HRZ.out
      obtain ⟨⟨a0, a1, _⟩, _, _⟩ := HRA4.out
      clear hp3 hq3 hap3 hvo3 hbs
      go_wp2_with fail
      go_region_held3 (fun W' => W'.cell? ⟨b8, 0, none⟩ = some (.slice X4 l4.length k4) ∧ W'.cell? ⟨b8, 1, none⟩ = some (.int .i64 x4) ∧ W'.cell? ⟨w1.heap.size, 0, none⟩ = some (.slice X l.length k) ∧ W'.cell? ⟨w1.heap.size, 1, none⟩ = some (.int .i64 x4))
        (first | exact ⟨z0, z1, a0, a1⟩ | exact ⟨Below_cells HBW.out _ _ _ z0, Below_cells HBW.out _ _ _ z1, Below_cells HBW.out _ _ _ a0, Below_cells HBW.out _ _ _ a1⟩)
        ((first
          | (go_at_call 27; refine (AfIn.go (F := FM) (w0 := W) (by assumption) (by first | exact HBW.out | exact HBW.out.drew)).mono ?_; rintro e w6 ⟨v6, rfl, hown6, hb6⟩; obtain ⟨X6, c6, e6, _⟩ := hown6.sl; subst e6; have hbx := (show Below W.heap.size W w6 from (by first | exact Below_then HBW.out hb6 (Nat.le_refl _) | exact Below_drew hb6)); (first | (have HO2 := Lib.hid (HO.out.below hb6); clear HO; have HO := Lib.hid hown6) | have HO := Lib.hid hown6); clear HBW hown6 hb6; have HBW := Lib.hid hbx; clear hbx)
          | (go_at_call 26; refine (l_sameTexts_same _ _ _ _ FM _ (by first | exact HO.out.sl' | exact HO2.out.sl') (by first | exact HO.out.sl' | exact HO2.out.sl') (by omega)).mono ?_; rintro e w7 ⟨rfl, hd7⟩; have hb7 := hd7.below; have HB7 := Lib.hid (Below_then HBW.out hb7 (Nat.le_refl _)); clear HBW; have HBW := Lib.hid HB7.out; clear hd7 hb7)))
      all_goals
        go_wp2_with fail
        go_ret
        exact ⟨rfl, Below_then HB4.out HBW.out (Nat.le_refl _)⟩
end Go.Proofs.YtkglfmgmmnfmbaaGreatDoor
