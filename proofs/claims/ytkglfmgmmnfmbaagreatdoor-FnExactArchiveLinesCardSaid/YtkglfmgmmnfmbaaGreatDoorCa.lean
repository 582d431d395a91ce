/- copyArchive, rootOf, filesAnswer of the program, walked. Written by gen_ca.py. -/
import Derived.Test.YtkglfmgmmnfmbaaGreatDoorGb3
import Derived.Test.YtkglfmgmmnfmbaaGreatDoorJw
import Derived.Test.YtkglfmgmmnfmbaaGreatDoorGb8
import Derived.Test.YtkglfmgmmnfmbaaGreatDoorGb9
import Derived.Test.YtkglfmgmmnfmbaaGreatDoorGb2
set_option linter.unusedVariables false
namespace Go.Proofs.YtkglfmgmmnfmbaaGreatDoor
open Go.RowKit
section
variable {w : World} {A B : Option Addr} {c dd : Nat} {l : List Pc} {m : List Vr} {x : Int} {P V : Value} {d : Nat → Bool} {v0 v1 v2 v3 v4 v5 v6 v7 v8 : Value} {W W' : World}
structure CyJ (w : World) (A B : Option Addr) (c dd : Nat) (l : List Pc) (m : List Vr) (x : Int) (P V : Value) (d : Nat → Bool) (v0 v1 v2 v3 v4 v5 v6 v7 v8 : Value) (W : World) : Prop where
  bel : Below w.heap.size w W
  hz : w.heap.size + 2 ≤ W.heap.size
  r0 : Row3 W w.heap.size (.slice A l.length c) (.int .i64 x) (.slice B m.length dd)
  r1 : d 9 = false → Row3 W (w.heap.size + 1) (.slice none 0 0) (.int .i64 0) (.slice none 0 0)
  r2 : d 9 = true → Row3 W (w.heap.size + 1) P (.int .i64 x) V
  p : d 2 = true → Own W (w.heap.size + 2) 107 2 encP P l
  v : d 7 = true → Own W (w.heap.size + 2) 63 3 encV V m
  ap : d 2 = true → d 7 = true → ApartV P V
  o8 : d 8 = true → d 2 = true ∧ d 7 = true
  o9 : d 9 = true → d 8 = true
  c0 : d 0 = true → v0 = .pointer (some ⟨w.heap.size, 0, none⟩)
  c1 : d 1 = true → v1 = .slice A l.length c
  c2 : d 2 = true → v2 = P
  c3 : d 3 = true → v3 = .pointer (some ⟨w.heap.size, 1, none⟩)
  c4 : d 4 = true → v4 = .int .i64 x
  c5 : d 5 = true → v5 = .pointer (some ⟨w.heap.size, 2, none⟩)
  c6 : d 6 = true → v6 = .slice B m.length dd
  c7 : d 7 = true → v7 = V
  c8 : d 8 = true → v8 = .agg #[P, .int .i64 x, V]
theorem CyJ.n89 (h : CyJ w A B c dd l m x P V d v0 v1 v2 v3 v4 v5 v6 v7 v8 W) (hn : d 2 = false ∨ d 7 = false) : d 8 = false ∧ d 9 = false := by
  have h8 : d 8 = false := by
    cases e : d 8
    · rfl
    · obtain ⟨h1, h2⟩ := h.o8 e
      rcases hn with h3 | h3
      · rw [h1] at h3; cases h3
      · rw [h2] at h3; cases h3
  refine ⟨h8, ?_⟩
  cases e : d 9
  · rfl
  · rw [h.o9 e] at h8; cases h8
theorem CyJ.step2 (h : CyJ w A B c dd l m x P V d v0 v1 v2 v3 v4 v5 v6 v7 v8 W) (h2 : d 2 = false) {P2 : Value} (hb : Below W.heap.size W W') (hown : Own W' W.heap.size 107 2 encP P2 l) : CyJ w A B c dd l m x P2 V (fun j => j == 2 || d j) v0 v1 P2 v3 v4 v5 v6 v7 v8 W' := by
  obtain ⟨h8, h9⟩ := h.n89 (.inl h2)
  have hz := h.hz
  exact { h with
    bel := Below_then h.bel hb (Nat.le_refl _)
    hz := Nat.le_trans h.hz hb.size
    r0 := h.r0.below hb
    r1 := fun e => (h.r1 e).below hb
    r2 := fun e => by rw [show d 9 = true from e] at h9; cases h9
    p := fun _ => hown.mono hz
    v := fun e => (h.v e).below hb
    ap := fun _ e b hb1 hb2 => by
      have h1 := (hown.blk b hb1).1
      have h3 := ((h.v e).blk b hb2).2
      omega
    o8 := fun e => by rw [show d 8 = true from e] at h8; cases h8
    c2 := fun _ => rfl
    c8 := fun e => by rw [show d 8 = true from e] at h8; cases h8 }
theorem CyJ.step7 (h : CyJ w A B c dd l m x P V d v0 v1 v2 v3 v4 v5 v6 v7 v8 W) (h7 : d 7 = false) {V2 : Value} (hb : Below W.heap.size W W') (hown : Own W' W.heap.size 63 3 encV V2 m) : CyJ w A B c dd l m x P V2 (fun j => j == 7 || d j) v0 v1 v2 v3 v4 v5 v6 V2 v8 W' := by
  obtain ⟨h8, h9⟩ := h.n89 (.inr h7)
  have hz := h.hz
  exact { h with
    bel := Below_then h.bel hb (Nat.le_refl _)
    hz := Nat.le_trans h.hz hb.size
    r0 := h.r0.below hb
    r1 := fun e => (h.r1 e).below hb
    r2 := fun e => by rw [show d 9 = true from e] at h9; cases h9
    p := fun e => (h.p e).below hb
    v := fun _ => hown.mono hz
    ap := fun e _ b hb1 hb2 => by
      have h1 := (hown.blk b hb2).1
      have h3 := ((h.p e).blk b hb1).2
      omega
    o8 := fun e => by rw [show d 8 = true from e] at h8; cases h8
    c7 := fun _ => rfl
    c8 := fun e => by rw [show d 8 = true from e] at h8; cases h8 }
theorem CyJ.step9 (h : CyJ w A B c dd l m x P V d v0 v1 v2 v3 v4 v5 v6 v7 v8 W) (h9 : d 9 = false) (h8 : d 8 = true) : CyJ w A B c dd l m x P V (fun j => j == 9 || d j) v0 v1 v2 v3 v4 v5 v6 v7 v8 (((W.setCell ⟨w.heap.size + 1, 0, none⟩ P).setCell ⟨w.heap.size + 1, 1, none⟩ (.int .i64 x)).setCell ⟨w.heap.size + 1, 2, none⟩ V) := by
  exact { h with
    bel := ((h.bel.setCell (by simp) _).setCell (by simp) _).setCell (by simp) _
    hz := by simp only [setCell_size]; exact h.hz
    r0 := ((h.r0.other (by simp) _).other (by simp) _).other (by simp) _
    r1 := fun e => by cases e
    r2 := fun _ => (((h.r1 h9).set0 _).set1 _).set2 _
    p := fun e => (((h.p e).setBelow (by simp) _).setBelow (by simp) _).setBelow (by simp) _
    v := fun e => (((h.v e).setBelow (by simp) _).setBelow (by simp) _).setBelow (by simp) _
    o9 := fun _ => h8 }
end
set_option maxHeartbeats 4000000 in
set_option maxRecDepth 100000 in
theorem icopyArchive_any (A B : Option Addr) (c dd : Nat) (l : List Pc) (m : List Vr) (x : Int) (w : World) (hs : Sl w encP 2 A l) (hcz : A = none → c = 0) (hl : l.length ≤ 16777216) (ht : Sl w encV 3 B m) (hcz2 : B = none → dd = 0) (hl2 : m.length ≤ 16777216) :
    Calls Tryz.prog 46 #[.agg #[.slice A l.length c, .int .i64 x, .slice B m.length dd]] w fun e w' => ∃ v, e = .returned v ∧ ArV w' w.heap.size ⟨l, x, m⟩ v ∧ Below w.heap.size w w' := by
  have HS := Lib.hid hs
  have HT := Lib.hid ht
  have hCP := fun W h => ClonePc_any A c l W h hcz hl
  have hCV := fun W h => CloneVr_any B dd m W h hcz2 hl2
  unfold OwnRes at hCP hCV
  have HCP := Lib.hid hCP
  have HCV := Lib.hid hCV
  have hr0 := (Row3.new (w := w) (v0 := .slice A l.length c) (v1 := .int .i64 x) (v2 := .slice B m.length dd) (E := 30)).below ((Below.refl _ _).alloc (Nat.le_refl _) (.cells #[.slice none 0 0, .int .i64 0, .slice none 0 0] 30))
  have hr1 := Row3.new (w := w.alloc (.cells #[.slice A l.length c, .int .i64 x, .slice B m.length dd] 30)) (v0 := .slice none 0 0) (v1 := .int .i64 0) (v2 := .slice none 0 0) (E := 30)
  rw [World.alloc_size_] at hr1
  have HR0 := Lib.hid hr0
  have HR1 := Lib.hid hr1
  have HB := Lib.hid (((Below.refl w.heap.size w).alloc (Nat.le_refl _) (.cells #[.slice A l.length c, .int .i64 x, .slice B m.length dd] 30)).alloc (by simp) (.cells #[.slice none 0 0, .int .i64 0, .slice none 0 0] 30))
  clear hs ht hcz hcz2 hr0 hr1 hCP hCV
  go_enter Tryz.func46, Tryz.ntmps46
  go_wp2_with fail
  refine wp_region_inv (by kernel_rfl) (by kernel_rfl) (fun a0 d a W => ∃ (v0 v1 v2 v3 v4 v5 v6 v7 v8 : Value) (P V : Value), a = ⟨#[.agg #[.slice A l.length c, .int .i64 x, .slice B m.length dd], .pointer (some ⟨w.heap.size, 0, none⟩), .pointer (some ⟨w.heap.size + 1, 0, none⟩), v0, v1, v2, v3, v4, v5, v6, v7, v8], []⟩ ∧ CyJ w A B c dd l m x P V d v0 v1 v2 v3 v4 v5 v6 v7 v8 W) ?_ ?_ ?_
  · exact ⟨_, _, _, _, _, _, _, _, _, .slice none 0 0, .slice none 0 0, rfl, { bel := Below_drewN HB.out 1, hz := by show _ ≤ ((w.alloc _).alloc _).heap.size; simp, r0 := HR0.out.below (Below_drewN (Below.refl _ _) 1), r1 := fun _ => HR1.out.below (Below_drewN (Below.refl _ _) 1), r2 := nofun, p := nofun, v := nofun, ap := nofun, o8 := nofun, o9 := nofun, c0 := nofun, c1 := nofun, c2 := nofun, c3 := nofun, c4 := nofun, c5 := nofun, c6 := nofun, c7 := nofun, c8 := nofun }⟩
  · refine ⟨?_, ?_, ?_, ?_, ?_, ?_, ?_, ?_, ?_, ?_, trivial⟩
    all_goals
      intro d a W K hd hdep hJ hK
      obtain ⟨v0, v1, v2, v3, v4, v5, v6, v7, v8, P, V, rfl, hj⟩ := hJ
      have HJ := Lib.hid hj
      have HK := Lib.hid hK
      have HD := Lib.hid hd
      have HDEP := Lib.hid hdep
      clear hj hK hd hdep
    · go_simp
      exact HK.out _ _ ⟨_, _, _, _, _, _, _, _, _, _, _, rfl, { HJ.out with c0 := fun _ => rfl }⟩
    · obtain rfl := HJ.out.c0 (HDEP.out { on := 0, ground := Ground.data } (by simp) rfl)
      obtain ⟨⟨x0, x1, x2⟩, _, _⟩ := HJ.out.r0
      go_simp
      exact HK.out _ _ ⟨_, _, _, _, _, _, _, _, _, _, _, rfl, { HJ.out with c1 := fun _ => rfl }⟩
    · obtain rfl := HJ.out.c1 (HDEP.out { on := 1, ground := Ground.data } (by simp) rfl)
      go_simp
      refine (HCP.out _ (HS.out.below HJ.out.bel)).mono ?_
      rintro e W2 ⟨v', rfl, hown, hb⟩
      go_simp
      exact HK.out _ _ ⟨_, _, _, _, _, _, _, _, _, _, _, rfl, HJ.out.step2 HD.out hb hown⟩
    · go_simp
      exact HK.out _ _ ⟨_, _, _, _, _, _, _, _, _, _, _, rfl, { HJ.out with c3 := fun _ => rfl }⟩
    · obtain rfl := HJ.out.c3 (HDEP.out { on := 3, ground := Ground.data } (by simp) rfl)
      obtain ⟨⟨x0, x1, x2⟩, _, _⟩ := HJ.out.r0
      go_simp
      exact HK.out _ _ ⟨_, _, _, _, _, _, _, _, _, _, _, rfl, { HJ.out with c4 := fun _ => rfl }⟩
    · go_simp
      exact HK.out _ _ ⟨_, _, _, _, _, _, _, _, _, _, _, rfl, { HJ.out with c5 := fun _ => rfl }⟩
    · obtain rfl := HJ.out.c5 (HDEP.out { on := 5, ground := Ground.data } (by simp) rfl)
      obtain ⟨⟨x0, x1, x2⟩, _, _⟩ := HJ.out.r0
      go_simp
      exact HK.out _ _ ⟨_, _, _, _, _, _, _, _, _, _, _, rfl, { HJ.out with c6 := fun _ => rfl }⟩
    · obtain rfl := HJ.out.c6 (HDEP.out { on := 6, ground := Ground.data } (by simp) rfl)
      go_simp
      refine (HCV.out _ (HT.out.below HJ.out.bel)).mono ?_
      rintro e W2 ⟨v', rfl, hown, hb⟩
      go_simp
      exact HK.out _ _ ⟨_, _, _, _, _, _, _, _, _, _, _, rfl, HJ.out.step7 HD.out hb hown⟩
    · obtain rfl := HJ.out.c2 (HDEP.out { on := 2, ground := Ground.data } (by simp) rfl)
      obtain rfl := HJ.out.c4 (HDEP.out { on := 4, ground := Ground.data } (by simp) rfl)
      obtain rfl := HJ.out.c7 (HDEP.out { on := 7, ground := Ground.data } (by simp) rfl)
      obtain ⟨A3, k3, e3, _⟩ := (HJ.out.p (HDEP.out { on := 2, ground := Ground.data } (by simp) rfl)).sl
      subst e3
      obtain ⟨A4, k4, e4, _⟩ := (HJ.out.v (HDEP.out { on := 7, ground := Ground.data } (by simp) rfl)).sl
      subst e4
      go_simp
      exact HK.out _ _ ⟨_, _, _, _, _, _, _, _, _, _, _, rfl, { HJ.out with o8 := fun _ => ⟨(HDEP.out { on := 2, ground := Ground.data } (by simp) rfl), (HDEP.out { on := 7, ground := Ground.data } (by simp) rfl)⟩, o9 := fun e => rfl, c8 := fun _ => rfl }⟩
    · obtain ⟨h2, h7⟩ := HJ.out.o8 (HDEP.out { on := 8, ground := Ground.data } (by simp) rfl)
      obtain rfl := HJ.out.c8 (HDEP.out { on := 8, ground := Ground.data } (by simp) rfl)
      obtain ⟨A3, k3, e3, _⟩ := (HJ.out.p h2).sl
      subst e3
      obtain ⟨A4, k4, e4, _⟩ := (HJ.out.v h7).sl
      subst e4
      have hr1 := HJ.out.r1 HD.out
      have hfz := fun o => hr1.2.1 o
      obtain ⟨⟨y0, y1, y2⟩, hfr, hlt⟩ := hr1
      go_simp
      exact HK.out _ _ ⟨_, _, _, _, _, _, _, _, _, _, _, rfl, HJ.out.step9 HD.out (HDEP.out { on := 8, ground := Ground.data } (by simp) rfl)⟩
  · intro d a W hd hJ
    obtain ⟨v0, v1, v2, v3, v4, v5, v6, v7, v8, P, V, rfl, hj⟩ := hJ
    obtain ⟨⟨y0, y1, y2⟩, _, _⟩ := hj.r2 (hd 9 (by decide))
    have HP := Lib.hid ((hj.p (hd 2 (by decide))).mono (show w.heap.size ≤ w.heap.size + 2 by omega))
    have HV := Lib.hid ((hj.v (hd 7 (by decide))).mono (show w.heap.size ≤ w.heap.size + 2 by omega))
    have HAP := Lib.hid (hj.ap (hd 2 (by decide)) (hd 7 (by decide)))
    have HB2 := Lib.hid hj.bel
    clear hj hd
    go_wp2_with fail
    exact bodyPost_ret (v := .agg #[P, .int .i64 x, V]) (by simp [results, Tryz.results46, go_sem, y0, y1, y2]) rfl ⟨_, rfl, ⟨P, V, rfl, HP.out, HV.out, HAP.out⟩, HB2.out⟩
set_option maxHeartbeats 2000000 in
set_option maxRecDepth 100000 in
theorem irootOf_any (vA : Value) (B : Option Addr) (A : Option Addr) (n0 c dd : Nat) (m : List Vr) (x n : Int) (w : World) (ht : Sl w encV 3 B m) (hl2 : m.length ≤ 16777216) :
    Calls Tryz.prog 51 #[.agg #[.slice A n0 c, .int .i64 x, .slice B m.length dd], .int .i64 n] w fun e w' => e = .returned (if 0 ≤ n ∧ n < (m.length : Int) then .tuple #[.int .i64 ((m.getD n.toNat (0, 0, ⟨#[]⟩)).1), .bool true] else .tuple #[.int .i64 (-1), .bool false]) ∧ Below w.heap.size w w' := by
  have HB := Lib.hid ((Below.refl w.heap.size w).alloc (Nat.le_refl _) (.cells #[.slice A n0 c, .int .i64 x, .slice B m.length dd] 30))
  have HT := Lib.hid (ht.alloc (.cells #[.slice A n0 c, .int .i64 x, .slice B m.length dd] 30))
  clear ht
  by_cases hin : 0 ≤ n ∧ n < (m.length : Int)
  · obtain ⟨k, rfl⟩ := Int.eq_ofNat_of_zero_le hin.1
    have hk : k < m.length := by omega
    have hk' : (k : Int) < (m.length : Int) := by omega
    obtain ⟨b, o, rfl, hv0, _, _⟩ := HT.out.getV hk
    have HR := Lib.hid (show (if 0 ≤ (k : Int) ∧ (k : Int) < (m.length : Int) then Value.tuple #[.int .i64 ((m.getD (k : Int).toNat (0, 0, ⟨#[]⟩)).1), .bool true] else .tuple #[.int .i64 (-1), .bool false]) = .tuple #[.int .i64 m[k].1, .bool true] by
      rw [if_pos hin, Int.toNat_natCast, List.getD_eq_getElem?_getD, List.getElem?_eq_getElem hk]; rfl)
    generalize m[k].1 = rt at *
    have hnn : ¬ (m.length : Int) ≤ (k : Int) := by omega
    clear hin
    rw [HR.out]
    go_enter Tryz.func51, Tryz.ntmps51
    go_wp2
    go_ret2
    exact ⟨rfl, HB.out⟩
  · rw [if_neg hin]
    by_cases hn : n < 0
    · clear hin
      go_enter Tryz.func51, Tryz.ntmps51
      go_wp2
      go_ret2
      exact ⟨rfl, HB.out⟩
    · have hnn : (m.length : Int) ≤ n := by omega
      clear hin
      go_enter Tryz.func51, Tryz.ntmps51
      go_wp2
      go_ret2
      exact ⟨rfl, HB.out⟩
set_option maxHeartbeats 2000000 in
set_option maxRecDepth 100000 in
theorem ifilesAnswer_any (A : Option Addr) (c : Nat) (vB : Option Addr) (nb db : Nat) (l : List Pc) (m : List Vr) (x : Int) (w : World) (hs : Sl w encP 2 A l) (hl : l.length ≤ 16777216) (hf : FitP l) (htz : TzL w) (hmx : MaxL w) :
    Calls Tryz.prog 54 #[.agg #[.slice A l.length c, .int .i64 x, .slice vB nb db]] w fun e w' => e = .returned (.string (mk (filesAns ⟨l, x, m⟩))) ∧ Below w.heap.size w w' := by
  have HB := Lib.hid ((Below.refl w.heap.size w).alloc (Nat.le_refl _) (.cells #[.slice A l.length c, .int .i64 x, .slice vB nb db] 30))
  have HS := Lib.hid (hs.below HB.out)
  have HTZ := Lib.hid (htz.below HB.out)
  have HMX := Lib.hid (hmx.below HB.out)
  have hX := fun W h h2 h3 => iAllFiles_any A c l x W h hl hf h2 h3
  unfold OwnRes at hX
  have hFl := allF_len l x
  have hFS := filesB_size l x
  unfold filesB at hFS
  have hmap : ((allF l x).map mk).map bs = allF l x := by rw [List.map_map]; exact (List.map_congr_left fun x _ => rfl).trans (List.map_id _)
  have hFA : filesAns ⟨l, x, m⟩ = if allF l x = [] then [110, 111, 110, 101] else joinW [32] (allF l x) := rfl
  generalize filesAns ⟨l, x, m⟩ = FA at *
  generalize allF l x = F at *
  have hFM : (F.map mk).length = F.length := List.length_map _
  have hemp : F = [] ↔ F.map mk = [] := by rw [List.map_eq_nil_iff]
  generalize F.map mk = FM at *
  have hl27 : FM.length ≤ 27 := by omega
  clear hFM
  have HX := Lib.hid hX
  clear hs htz hmx hX
  by_cases h0 : F = []
  · have HFA := Lib.hid (show FA = [110, 111, 110, 101] by rw [hFA, if_pos h0])
    have h1 : FM = [] := hemp.1 h0
    subst h1
    clear hFA hmap hFS hemp
    go_enter Tryz.func54, Tryz.ntmps54
    go_wp2_with fail
    refine (HX.out _ HS.out HTZ.out HMX.out).mono ?_
    rintro e w1 ⟨v1, rfl, hown, hb⟩
    obtain ⟨X, k, e1, _⟩ := hown.sl
    have e1 : v1 = .slice X 0 k := e1
    subst e1
    have HB1 := Lib.hid (Below_then HB.out hb (Nat.le_refl _))
    clear hown hb
    go_wp2
    go_ret
    rw [HFA.out]
    exact ⟨rfl, HB1.out⟩
  · have HFA := Lib.hid (show FA = joinW [32] (FM.map bs) by rw [hFA, if_neg h0, hmap])
    have hn : FM.length ≠ 0 := fun e => h0 (hemp.2 (List.eq_nil_of_length_eq_zero e))
    have hnz : ((FM.length : Int) == 0) = false := by rw [beq_eq_false_iff_ne]; omega
    have hn1 : 1 ≤ FM.length ∧ FM.length ≤ 40 := ⟨by omega, by omega⟩
    have hJ := fun X k W h (hle : FM.length ≤ k) => JoinW_any X k FM W h hle hn1 (fun p hp => Nat.le_trans (hFS p hp) (by omega))
    have HJ := Lib.hid hJ
    clear hn1 hl27
    clear hFA hmap hFS hemp h0 hJ hFl hn
    go_enter Tryz.func54, Tryz.ntmps54
    go_wp2_with fail
    refine (HX.out _ HS.out HTZ.out HMX.out).mono ?_
    rintro e w1 ⟨v1, rfl, hown, hb⟩
    obtain ⟨X, k, rfl, hle, hsl, _⟩ := hown.sl
    have HSL := Lib.hid hsl
    have HB1 := Lib.hid (Below_then HB.out hb (Nat.le_refl _))
    clear hown hb hsl
    go_wp2_with fail
    refine (HJ.out X k _ HSL.out hle).mono ?_
    rintro e w2 ⟨rfl, hb2⟩
    have HB2 := Lib.hid (Below_then HB1.out hb2 (Nat.le_refl _))
    clear hb2
    go_wp2
    go_ret
    rw [HFA.out]
    exact ⟨rfl, HB2.out⟩
end Go.Proofs.YtkglfmgmmnfmbaaGreatDoor
