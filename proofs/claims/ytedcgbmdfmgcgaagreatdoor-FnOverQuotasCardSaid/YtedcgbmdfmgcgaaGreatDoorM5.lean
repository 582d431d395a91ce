/- A drawn store with a root; FnFilesWith, walked: found files have the word. Written by gen_fw.py. -/
import Derived.Test.YtedcgbmdfmgcgaaGreatDoorGa4
import Derived.Test.YtedcgbmdfmgcgaaGreatDoorUw
import Derived.Test.YtedcgbmdfmgcgaaGreatDoorGa1
set_option linter.unusedVariables false
namespace Go.Proofs.YtedcgbmdfmgcgaaGreatDoor
open Go.RowKit
def RootedRes (w : World) (e : Ending) (w' : World) : Prop :=
  ∃ (v : Value) (l : List Pc) (root : Int), e = .returned (.tuple #[v, .int .i64 root]) ∧ Own w' w.heap.size 83 2 encP v l ∧ StG l ∧ Below w.heap.size w w'
set_option maxHeartbeats 2000000 in
set_option maxRecDepth 100000 in
theorem l20Rooted_any (A : Option Addr) (n c : Nat) (w : World) (hb : BytesIn w A n c) : Calls Tryz.prog 50 #[.slice A n c] w (RootedRes w) := by
  go_enter Tryz.func50, Tryz.ntmps50
  go_wp2_with fail
  refine (l20Where_any _ _ _ _ hb).mono ?_
  rintro e w2 ⟨v, l, root, s, rfl, hown, hg, hs, hb⟩
  have HW := Lib.hid hown
  have HG := Lib.hid hg
  have HB := Lib.hid hb
  clear hown hg hb
  go_wp2
  go_ret2
  exact ⟨_, l, root, rfl, HW.out, HG.out, HB.out⟩
/-- A text that is one word. -/
def WordOne (s : ByteArray) : Prop := wordsOf (bs s) = [bs s] ∧ s.size ≤ 5
def wordB : Value → Bool | .string s => decide (wordsOf (bs s) = [bs s]) && decide (s.size ≤ 5) | _ => false
theorem wordB_iff {v : Value} (h : wordB v = true) : ∃ s, v = .string s ∧ WordOne s := by
  unfold wordB at h; split at h
  · rw [Bool.and_eq_true, decide_eq_true_eq, decide_eq_true_eq] at h; exact ⟨_, rfl, h⟩
  · cases h
def fourW : Array Value := #[.string ⟨#[114, 101, 100]⟩, .string ⟨#[103, 114, 101, 101, 110]⟩, .string ⟨#[104, 105]⟩, .string ⟨#[110, 111, 110, 101]⟩]
theorem fourW_ok : fourW.toList.all wordB = true := by decide +kernel
theorem BytesIn.below {w w' : World} {A : Option Addr} {n c : Nat} (h : BytesIn w A n c) (hb : Below w.heap.size w w') : BytesIn w' A n c := by
  obtain ⟨l, h1, h2, h3, h4⟩ := h
  exact ⟨l, h1, h2, h3, h4.below hb⟩
structure DfJ (w1 : World) (A : Option Addr) (n c : Nat) (V : Value) (rt : Int) (d : Nat → Bool) (v0 v1 v2 v3 v4 v5 v6 v7 v8 v9 v10 : Value) (W : World) : Prop where
  bel : Below w1.heap.size w1 W
  by1 : BytesIn w1 A n c
  o5 : d 5 = true → d 4 = true
  o6 : d 6 = true → d 2 = true
  o7 : d 7 = true → d 2 = true ∧ d 6 = true
  c0 : d 0 = true → v0 = V
  c1 : d 1 = true → v1 = .int .i64 rt
  c2 : d 2 = true → ∃ gl, v2 = .slice (some ⟨gl, 0, none⟩) 4 4 ∧ w1.heap.size ≤ gl ∧ gl < W.heap.size ∧ ∀ k : Nat, k < 4 → ∃ s, W.cell? ⟨gl, k, none⟩ = some (.string s) ∧ WordOne s
  c3 : d 3 = true → v3 = .slice A n c
  c4 : d 4 = true → ∃ g, v4 = .pointer (some ⟨g, 0, none⟩) ∧ w1.heap.size ≤ g ∧ g < W.heap.size ∧ (d 5 = false → Rdr W g 0)
  ne : d 2 = true → d 4 = true → ∀ gl g, v2 = .slice (some ⟨gl, 0, none⟩) 4 4 → v4 = .pointer (some ⟨g, 0, none⟩) → gl ≠ g
  c5 : d 5 = true → ∃ y : Nat, v5 = .int .i64 (y : Int) ∧ y < 4
  c6 : d 6 = true → ∃ gl y, v6 = .pointer (some ⟨gl, y, none⟩) ∧ y < 4 ∧ v2 = .slice (some ⟨gl, 0, none⟩) 4 4
  c7 : d 7 = true → ∃ s, v7 = .string s ∧ WordOne s
  c8 : d 8 = true → v8 = V
  c9 : d 9 = true → v9 = .int .i64 rt
  c10 : d 10 = true → ∃ s, v10 = .string s ∧ WordOne s
section
variable {w1 : World} {A : Option Addr} {n c : Nat} {V : Value} {rt : Int} {d : Nat → Bool} {v0 v1 v2 v3 v4 v5 v6 v7 v8 v9 v10 : Value} {W W2 : World}
theorem DfJ.byt (h : DfJ w1 A n c V rt d v0 v1 v2 v3 v4 v5 v6 v7 v8 v9 v10 W) : BytesIn W A n c := h.by1.below h.bel
theorem DfJ.step2 (h : DfJ w1 A n c V rt d v0 v1 v2 v3 v4 v5 v6 v7 v8 v9 v10 W) (h2 : d 2 = false) : DfJ w1 A n c V rt (fun j => j == 2 || d j) v0 v1 (.slice (some ⟨W.heap.size, 0, none⟩) 4 4) v3 v4 v5 v6 v7 v8 v9 v10 (W.alloc (.cells fourW 9)) := by
  have h6 : d 6 = false := by
    cases e : d 6
    · rfl
    · rw [h.o6 e] at h2; cases h2
  exact { h with
    bel := h.bel.alloc h.bel.size _
    o6 := fun _ => rfl
    o7 := fun e => ⟨rfl, (h.o7 e).2⟩
    c2 := fun _ => ⟨_, rfl, h.bel.size, by simp, fun k hk => by
      obtain ⟨s, hs, hw⟩ := wordB_iff (List.all_eq_true.1 fourW_ok fourW[k] (Array.mem_toList_iff.2 (Array.getElem_mem (show k < fourW.size from hk))))
      exact ⟨s, by rw [← hs]; exact new_cell (Array.getElem?_eq_getElem hk), hw⟩⟩
    c4 := fun e => by
      obtain ⟨g, e1, e2, e3, e4⟩ := h.c4 e
      exact ⟨g, e1, e2, by simp; omega, fun e5 => (e4 e5).alloc _⟩
    ne := fun _ e4 gl g e1 e2 => by
      injection e1 with e1; injection e1 with e1; injection e1 with e1
      obtain ⟨g', e5, _, e6, _⟩ := h.c4 e4
      rw [e5] at e2
      injection e2 with e2; injection e2 with e2; injection e2 with e2
      omega
    c6 := fun e => by rw [show d 6 = true from e] at h6; cases h6 }
theorem DfJ.step4 (h : DfJ w1 A n c V rt d v0 v1 v2 v3 v4 v5 v6 v7 v8 v9 v10 W) (h4 : d 4 = false) (hb : Below W.heap.size W W2) (hr : Rdr W2 W.heap.size 0) (hz : W2.heap.size = W.heap.size + 1) : DfJ w1 A n c V rt (fun j => j == 4 || d j) v0 v1 v2 v3 (.pointer (some ⟨W.heap.size, 0, none⟩)) v5 v6 v7 v8 v9 v10 W2 := by
  have h5 : d 5 = false := by
    cases e : d 5
    · rfl
    · rw [h.o5 e] at h4; cases h4
  exact { h with
    bel := Below_then h.bel hb (Nat.le_refl _)
    o5 := fun _ => rfl
    c2 := fun e => by
      obtain ⟨gl, e1, e2, e3, e4⟩ := h.c2 e
      refine ⟨gl, e1, e2, by omega, fun k hk => ?_⟩
      obtain ⟨s, hs, hw⟩ := e4 k hk
      exact ⟨s, Below_cells hb _ _ _ hs, hw⟩
    c4 := fun _ => ⟨_, rfl, h.bel.size, by omega, fun _ => hr⟩
    ne := fun e2 _ gl g e1 e3 => by
      injection e3 with e3; injection e3 with e3; injection e3 with e3
      obtain ⟨gl', e5, _, e6, _⟩ := h.c2 e2
      rw [e5] at e1
      injection e1 with e1; injection e1 with e1; injection e1 with e1
      omega }
theorem DfJ.step5 {g y : Nat} (h : DfJ w1 A n c V rt d v0 v1 v2 v3 (.pointer (some ⟨g, 0, none⟩)) v5 v6 v7 v8 v9 v10 W) (h5 : d 5 = false) (h4 : d 4 = true) (hy : y < 4) (ho : Only g W W2) (hg : w1.heap.size ≤ g) : DfJ w1 A n c V rt (fun j => j == 5 || d j) v0 v1 v2 v3 (.pointer (some ⟨g, 0, none⟩)) (.int .i64 (y : Int)) v6 v7 v8 v9 v10 W2 := by
  exact { h with
    bel := h.bel.trans (ho.below hg h.bel.size)
    o5 := fun _ => h4
    c2 := fun e => by
      obtain ⟨gl, e1, e2, e3, e4⟩ := h.c2 e
      refine ⟨gl, e1, e2, Nat.lt_of_lt_of_le e3 ho.size, fun k hk => ?_⟩
      obtain ⟨s, hs, hw⟩ := e4 k hk
      exact ⟨s, ho.cell (h.ne e h4 gl g e1 rfl) hs, hw⟩
    c4 := fun _ => by
      obtain ⟨g', e1, e2, e3, _⟩ := h.c4 h4
      exact ⟨g', e1, e2, Nat.lt_of_lt_of_le e3 ho.size, fun e => by cases e⟩
    c5 := fun _ => ⟨y, rfl, hy⟩ }
end
def FwRes (w : World) (e : Ending) (w' : World) : Prop :=
  ∃ (v : Value) (l : List Pc) (root : Int) (s : ByteArray), e = .returned (.tuple #[v, .int .i64 root, .string s]) ∧ Own w' w.heap.size 83 2 encP v l ∧ StG l ∧ WordOne s ∧ Below w.heap.size w w'
set_option maxHeartbeats 4000000 in
set_option maxRecDepth 100000 in
theorem DrawFilesWith_any (A : Option Addr) (n c : Nat) (w : World) (hb : BytesIn w A n c) : Calls Tryz.prog 19 #[.slice A n c] w (FwRes w) := by
  go_enter Tryz.func19, Tryz.ntmps19
  go_wp2_with fail
  refine (l20Rooted_any _ _ _ _ hb).mono ?_
  rintro e w1 ⟨V, l, rt, rfl, hown, hg, hb1⟩
  have HW := Lib.hid hown
  have HG := Lib.hid hg
  have HB := Lib.hid hb1
  have HBI := Lib.hid (hb.below hb1)
  clear hown hg hb1
  go_wp2_with fail
  refine wp_region_inv (by kernel_rfl) (by kernel_rfl) (fun a0 d a W => ∃ v0 v1 v2 v3 v4 v5 v6 v7 v8 v9 v10 : Value, a = ⟨#[.slice A n c, undef, v8, v9, v10, V, .int .i64 rt, .tuple #[V, .int .i64 rt], .slice A n c, .tuple #[V, .int .i64 rt], V, .int .i64 rt, v0, v1, v2, v3, v4, v5, v6, v7], []⟩ ∧ DfJ w1 A n c V rt d v0 v1 v2 v3 v4 v5 v6 v7 v8 v9 v10 W) ?_ ?_ ?_
  · exact ⟨_, _, _, _, _, _, _, _, _, _, _, rfl, Below_drewN (Below.refl _ _) 1, HBI.out, nofun, nofun, nofun, nofun, nofun, nofun, nofun, nofun, nofun, nofun, nofun, nofun, nofun, nofun, nofun⟩
  · refine ⟨?_, ?_, ?_, ?_, ?_, ?_, ?_, ?_, ?_, ?_, ?_, trivial⟩
    all_goals
      intro d a W K hd hdep hJ hK
      obtain ⟨v0, v1, v2, v3, v4, v5, v6, v7, v8, v9, v10, rfl, hj⟩ := hJ
      have HJ := Lib.hid hj
      have HK := Lib.hid hK
      have HD := Lib.hid hd
      have HDEP := Lib.hid hdep
      clear hj hK hd hdep
    · go_simp
      exact HK.out _ _ ⟨_, _, _, _, _, _, _, _, _, _, _, rfl, { HJ.out with c0 := fun _ => rfl }⟩
    · go_simp
      exact HK.out _ _ ⟨_, _, _, _, _, _, _, _, _, _, _, rfl, { HJ.out with c1 := fun _ => rfl }⟩
    · go_simp
      exact HK.out _ _ ⟨_, _, _, _, _, _, _, _, _, _, _, rfl, HJ.out.step2 HD.out⟩
    · go_simp
      exact HK.out _ _ ⟨_, _, _, _, _, _, _, _, _, _, _, rfl, { HJ.out with c3 := fun _ => rfl }⟩
    · obtain rfl := HJ.out.c3 (HDEP.out { on := 3, ground := Ground.data } (by simp) rfl)
      go_simp
      refine (l20Open_any _ _ _ _ HJ.out.byt).mono ?_
      rintro e W2 ⟨rfl, hb, hr, hz⟩
      go_simp
      exact HK.out _ _ ⟨_, _, _, _, _, _, _, _, _, _, _, rfl, HJ.out.step4 HD.out hb hr hz⟩
    · obtain ⟨g, rfl, hg1, hg2, hrd⟩ := HJ.out.c4 (HDEP.out { on := 4, ground := Ground.data } (by simp) rfl)
      go_simp
      refine (pick_any 4 _ _ _ (hrd HD.out) (by omega) (by omega)).mono ?_
      rintro e W2 ⟨y, rfl, hy, ho, hr⟩
      go_simp
      exact HK.out _ _ ⟨_, _, _, _, _, _, _, _, _, _, _, rfl, HJ.out.step5 HD.out (HDEP.out { on := 4, ground := Ground.data } (by simp) rfl) (by omega) ho hg1⟩
    · obtain ⟨gl, rfl, hg1, hg2, hcs⟩ := HJ.out.c2 (HDEP.out { on := 2, ground := Ground.data } (by simp) rfl)
      obtain ⟨y, rfl, hy⟩ := HJ.out.c5 (HDEP.out { on := 5, ground := Ground.data } (by simp) rfl)
      have hy' : (y : Int) < 4 := by omega
      go_simp
      exact HK.out _ _ ⟨_, _, _, _, _, _, _, _, _, _, _, rfl, { HJ.out with o6 := fun _ => (HDEP.out { on := 2, ground := Ground.data } (by simp) rfl), o7 := fun e => ⟨(HJ.out.o7 e).1, rfl⟩, c6 := fun _ => ⟨gl, y, rfl, hy, rfl⟩ }⟩
    · obtain ⟨gl, y, rfl, hy, ev⟩ := HJ.out.c6 (HDEP.out { on := 6, ground := Ground.data } (by simp) rfl)
      obtain ⟨gl2, ev2, _, _, hcs⟩ := HJ.out.c2 (HJ.out.o6 (HDEP.out { on := 6, ground := Ground.data } (by simp) rfl))
      rw [ev2] at ev
      injection ev with ev
      injection ev with ev
      injection ev with ev
      subst ev
      obtain ⟨s, hcy, hsw⟩ := hcs y hy
      clear ev2 hcs
      go_simp
      exact HK.out _ _ ⟨_, _, _, _, _, _, _, _, _, _, _, rfl, { HJ.out with c7 := fun _ => ⟨s, rfl, hsw⟩, o7 := fun _ => ⟨HJ.out.o6 (HDEP.out { on := 6, ground := Ground.data } (by simp) rfl), (HDEP.out { on := 6, ground := Ground.data } (by simp) rfl)⟩ }⟩
    · obtain rfl := HJ.out.c0 (HDEP.out { on := 0, ground := Ground.data } (by simp) rfl)
      go_simp
      exact HK.out _ _ ⟨_, _, _, _, _, _, _, _, _, _, _, rfl, { HJ.out with c8 := fun _ => rfl }⟩
    · obtain rfl := HJ.out.c1 (HDEP.out { on := 1, ground := Ground.data } (by simp) rfl)
      go_simp
      exact HK.out _ _ ⟨_, _, _, _, _, _, _, _, _, _, _, rfl, { HJ.out with c9 := fun _ => rfl }⟩
    · obtain ⟨s, rfl, hsw⟩ := HJ.out.c7 (HDEP.out { on := 7, ground := Ground.data } (by simp) rfl)
      go_simp
      exact HK.out _ _ ⟨_, _, _, _, _, _, _, _, _, _, _, rfl, { HJ.out with c10 := fun _ => ⟨s, rfl, hsw⟩ }⟩
  · intro d a W hd hJ
    obtain ⟨v0, v1, v2, v3, v4, v5, v6, v7, v8, v9, v10, rfl, hj⟩ := hJ
    obtain rfl := hj.c8 (hd 8 (by decide))
    obtain rfl := hj.c9 (hd 9 (by decide))
    obtain ⟨s, rfl, hsw⟩ := hj.c10 (hd 10 (by decide))
    have HB2 := Lib.hid hj.bel
    clear hj hd
    go_wp2
    go_ret3
    exact ⟨_, l, _, s, rfl, HW.out.below HB2.out, HG.out, hsw, Below_then HB.out HB2.out (Nat.le_refl _)⟩
set_option maxHeartbeats 8000000 in
set_option maxRecDepth 100000 in
theorem wFnFilesWith (A : Option Addr) (n c : Nat) (w : World) (hb : BytesIn w A n c) (hm : MaxL w) (ht : TzL w) : Calls Tryz.prog 5 #[.slice A n c] w (LawOk w) := by
  by_cases h : n ≤ 1048576
  case neg =>
    go_enter Tryz.func5, Tryz.ntmps5
    go_wp2
    go_ret
    exact ⟨rfl, Below.refl _ _⟩
  have HBI := Lib.hid hb
  have HM := Lib.hid hm
  have HT := Lib.hid ht
  clear hb hm ht
  go_enter Tryz.func5, Tryz.ntmps5
  go_wp2_with fail
  refine (DrawFilesWith_any _ _ _ _ HBI.out).mono ?_
  rintro e w1 ⟨v1, l, root, p, rfl, hown1, hg1, hp, hb1⟩
  obtain ⟨A1, c1, rfl, hle1, hs1, _⟩ := hown1.sl
  have HS1 := Lib.hid hs1
  have HB1 := Lib.hid hb1
  have HM1 := Lib.hid (HM.out.below hb1)
  have HT1 := Lib.hid (HT.out.below hb1)
  have HF := Lib.hid hg1.fitP
  have hl1 := hg1.len
  have hps := hp.2
  have HP1 := Lib.hid hp.1
  clear hown1 hs1 hb1 hg1 hp
  have hI := fun w h h2 h3 => iFilesWith_any A1 c1 l root p w h (by omega) HF.out (by omega) h2 h3
  have hS := fun w h => sFilesWith_any A1 c1 l root p w h (by omega) HF.out
  have hA := fun w h h2 h3 => iAllFiles_any A1 c1 l root w h (by omega) HF.out h2 h3
  have HRA := Lib.hid (fun x w h hp h2 h3 => iReadAt_any A1 c1 l root x w h (by omega) HF.out hp h2 h3)
  unfold OwnRes at hI hS hA
  rw [show (allF l root).map mk = filesB l root from rfl] at hA
  have hXl := withB_len l root (bs p)
  have hFl := filesB_len l root
  have HFS := Lib.hid (filesB_size l root)
  have hX : withB l root (bs p) = (filesB l root).filter fun f => hasW l root (bs p) (bs f) := rfl
  have HHW := Lib.hid (fun f => show hasW l root (bs p) (bs f) = decide (0 < (commonB (mk ((readAt l root (bs f)).getD [])) p).length) from by
    unfold commonB
    rw [List.length_map, common_word HP1.out]; rfl)
  have HRL := Lib.hid (fun f => readAt_len l root (bs f))
  generalize withB l root (bs p) = X at *
  generalize filesB l root = F at *
  generalize hPf : (fun f : ByteArray => hasW l root (bs p) (bs f)) = P at *
  have HPF := Lib.hid (fun f => show P f = hasW l root (bs p) (bs f) from by rw [← hPf])
  have hAT : ∃ AT : Nat → Nat, ∀ k, AT k = ((F.take k).filter P).length := ⟨_, fun _ => rfl⟩
  obtain ⟨AT, hAT⟩ := hAT
  have HA0 := Lib.hid (show AT 0 = 0 by rw [hAT]; rfl)
  have HAN := Lib.hid (fun k (hk : k < F.length) => show AT (k + 1) = AT k + if P F[k] then 1 else 0 by rw [hAT, hAT, filt_next hk])
  have HAE := Lib.hid (show AT F.length = X.length by rw [hAT, hX, List.take_length])
  have HAB := Lib.hid (fun k => show AT k ≤ X.length by
    rw [hAT, hX]
    exact (List.Sublist.filter P (List.take_sublist k F)).length_le)
  have HYES := Lib.hid (fun k (hk : k < F.length) (hp : P F[k] = true) => show X[AT k]? = some F[k] by rw [hAT, hX]; exact filt_at hk hp)
  have HNO := Lib.hid (fun k (hk : k < F.length) (hp : P F[k] = false) (h : AT k < X.length) => show X[AT k] ≠ F[k] from filt_no (F := F) (P := P) (j := AT k) hk hp (by rw [← hX]; exact List.getElem?_eq_getElem h))
  have HSAME := Lib.hid (fun A2 A3 c2 c3 w h1 h2 => l_sameTexts_same A2 A3 c2 c3 X w h1 h2 (by omega))
  have HI := Lib.hid hI
  have HS := Lib.hid hS
  have HA := Lib.hid hA
  clear hI hS hA hX hAT hPf
  go_wp2_with fail
  refine (HI.out _ HS1.out HT1.out HM1.out).mono ?_
  rintro e w2 ⟨v2, rfl, hown2, hb2⟩
  obtain ⟨A2, c2, rfl, hle2, hs2, _⟩ := hown2.sl
  have HX2 := Lib.hid hs2
  have HB2 := Lib.hid (Below_then HB1.out hb2 (Nat.le_refl _))
  have HS2 := Lib.hid (HS1.out.below hb2)
  have HM2 := Lib.hid (HM1.out.below hb2)
  have HT2 := Lib.hid (HT1.out.below hb2)
  clear hown2 hs2 hb2
  go_wp2_with fail
  refine (HS.out _ HS2.out).mono ?_
  rintro e w3 ⟨v3, rfl, hown3, hb3⟩
  obtain ⟨A3, c3, rfl, hle3, hs3, _⟩ := hown3.sl
  have HX3 := Lib.hid (HX2.out.below hb3)
  have HY3 := Lib.hid hs3
  have HB3 := Lib.hid (Below_then HB2.out hb3 (Nat.le_refl _))
  have HS3 := Lib.hid (HS2.out.below hb3)
  have HM3 := Lib.hid (HM2.out.below hb3)
  have HT3 := Lib.hid (HT2.out.below hb3)
  clear hown3 hs3 hb3
  go_wp2_with fail
  refine (HSAME.out A2 A3 c2 c3 _ HX3.out HY3.out).mono ?_
  rintro e w4 ⟨rfl, hd4⟩
  have hb4 := hd4.below
  have HX4 := Lib.hid (HX3.out.below hb4)
  have HB4 := Lib.hid (Below_then HB3.out hb4 (Nat.le_refl _))
  have HS4 := Lib.hid (HS3.out.below hb4)
  have HM4 := Lib.hid (HM3.out.below hb4)
  have HT4 := Lib.hid (HT3.out.below hb4)
  clear hd4 hb4
  go_wp2_with fail
  refine (HA.out _ HS4.out HT4.out HM4.out).mono ?_
  rintro e w5 ⟨v5, rfl, hown5, hb5⟩
  obtain ⟨A5, c5, rfl, hle5, hs5, _⟩ := hown5.sl
  have HF5 := Lib.hid hs5
  have HX5 := Lib.hid (HX4.out.below hb5)
  have HB5 := Lib.hid (Below_then HB4.out hb5 (Nat.le_refl _))
  have HS5 := Lib.hid (HS4.out.below hb5)
  have HM5 := Lib.hid (HM4.out.below hb5)
  have HT5 := Lib.hid (HT4.out.below hb5)
  clear hown5 hs5 hb5
  go_wp2_with fail
  go_loopw [7, 9] (fun va vk wr => ∃ (k : Nat), k ≤ F.length ∧ vk = .int .i64 k ∧ va = .int .i64 (AT k : Int) ∧ Hid (Below w5.heap.size w5 wr)) (fun _ vk _ => F.length - (intOf vk).toNat)
  case atStart => exact ⟨0, Nat.zero_le _, rfl, by rw [HA0.out]; rfl, Below.refl _ _⟩
  case round =>
    obtain ⟨k, hk, rfl, rfl, HBW⟩ := hrel
    have hab := HAB.out k
    by_cases hlt : k < F.length
    · have hlt' : (k : Int) < (F.length : Int) := by omega
      have HSW := Lib.hid (HS5.out.below HBW.out)
      have HMW := Lib.hid (HM5.out.below HBW.out)
      have HTW := Lib.hid (HT5.out.below HBW.out)
      have HXW := Lib.hid (HX5.out.below HBW.out)
      have HFW := Lib.hid (HF5.out.below HBW.out)
      obtain ⟨fb, fo, rfl, hcf⟩ := HFW.out.getS hlt
      have HGF := Lib.hid (fun (w : World) (h : Sl w encS 1 (some ⟨fb, fo, none⟩) F) => h.getS hlt)
      have hz := HFS.out _ (List.getElem_mem hlt)
      have hRA := fun w h h2 h3 => HRA.out F[k] w h (by omega) h2 h3
      have hrl := HRL.out F[k]
      have hhw := HHW.out F[k]
      rw [← HPF.out] at hhw
      have hn := HAN.out k hlt
      have hyes := HYES.out k hlt
      have hno := HNO.out k hlt
      unfold FoRes at hRA
      rw [← mk_size] at hrl
      generalize F[k] = x at *
      generalize mk ((readAt l root (bs x)).getD []) = CT at *
      generalize (readAt l root (bs x)).isSome = okr at *
      have hCW := fun w h => iCommonWords_any CT p w (by omega) (by omega) h
      unfold OwnRes at hCW
      have hcl := commonB_len CT p
      generalize commonB CT p = CW at *
      have HRX := Lib.hid hRA
      have HCW := Lib.hid hCW
      clear hRA hCW
      cases hp : P x
      · rw [hp] at hhw hn
        have hz0 : CW.length = 0 := by
          have := of_decide_eq_false hhw.symm
          omega
        have hz0' : ¬ (0 : Int) < (CW.length : Int) := by omega
        have HN := Lib.hid (show AT (k + 1) = AT k by rw [hn]; rfl)
        have HNE := Lib.hid (hno hp)
        clear hhw hn hyes hno hz0 hp
        generalize AT k = j at *
        go_wp2_with fail
        refine (HRX.out _ HSW.out HTW.out HMW.out).mono ?_
        rintro e w6 ⟨rfl, hb6⟩
        have HB6 := Lib.hid (Below_then HBW.out hb6 (Nat.le_refl _))
        replace HXW := Lib.hid (HXW.out.below hb6)
        replace HFW := Lib.hid (HFW.out.below hb6)
        replace HMW := Lib.hid (HMW.out.below hb6)
        clear hb6 hcf
        go_wp2_with fail
        refine (HCW.out _ HMW.out).mono ?_
        rintro e w7 ⟨v7, rfl, hown7, hb7⟩
        obtain ⟨A7, c7, rfl, hle7, _, _⟩ := hown7.sl
        have HB7 := Lib.hid (Below_then HB6.out hb7 (Nat.le_refl _))
        replace HXW := Lib.hid (HXW.out.below hb7)
        replace HFW := Lib.hid (HFW.out.below hb7)
        clear hown7 hb7
        by_cases hj : j < X.length
        · have hj' : (j : Int) < (X.length : Int) := by omega
          obtain ⟨xb, xo, rfl, hcx⟩ := HXW.out.getS hj
          obtain ⟨fb2, fo2, e2, hcf⟩ := HGF.out _ HFW.out
          injection e2 with e2; injection e2 with e3 e4
          subst e3; subst e4
          have hne : (X[j].toList == x.toList) = false := by
            rw [eq_tl, beq_eq_false_iff_ne]
            exact fun e => HNE.out hj (tx_inj e)
          generalize X[j] = y at *
          go_wp2
          go_quiet (fail)
          go_wp2
          go_roundw
          case rel => exact ⟨k + 1, by omega, by go_num, by rw [HN.out], Below_drewN HB7.out _⟩
          case measure => simp [intOf]; omega
        · have hj' : ¬ (j : Int) < (X.length : Int) := by omega
          go_wp2
          go_quiet (fail)
          go_wp2
          go_roundw
          case rel => exact ⟨k + 1, by omega, by go_num, by rw [HN.out], Below_drewN HB7.out _⟩
          case measure => simp [intOf]; omega
      · rw [hp] at hhw hn
        have hz0' : (0 : Int) < (CW.length : Int) := by
          have := of_decide_eq_true hhw.symm
          omega
        have hz1 : 0 < CW.length := by omega
        have HN := Lib.hid (show AT (k + 1) = AT k + 1 by rw [hn]; rfl)
        have hy := hyes hp
        clear hhw hn hyes hno hp
        generalize AT k = j at *
        have hj : j < X.length := (List.getElem?_eq_some_iff.1 hy).1
        have hj' : (j : Int) < (X.length : Int) := by omega
        have HXJ := Lib.hid (show X[j] = x from Option.some.inj ((List.getElem?_eq_getElem hj).symm.trans hy))
        clear hy
        go_wp2_with fail
        refine (HRX.out _ HSW.out HTW.out HMW.out).mono ?_
        rintro e w6 ⟨rfl, hb6⟩
        have HB6 := Lib.hid (Below_then HBW.out hb6 (Nat.le_refl _))
        replace HXW := Lib.hid (HXW.out.below hb6)
        replace HFW := Lib.hid (HFW.out.below hb6)
        replace HMW := Lib.hid (HMW.out.below hb6)
        clear hb6 hcf
        go_wp2_with fail
        refine (HCW.out _ HMW.out).mono ?_
        rintro e w7 ⟨v7, rfl, hown7, hb7⟩
        obtain ⟨A7, c7, rfl, hle7, _, _⟩ := hown7.sl
        have HB7 := Lib.hid (Below_then HB6.out hb7 (Nat.le_refl _))
        replace HXW := Lib.hid (HXW.out.below hb7)
        replace HFW := Lib.hid (HFW.out.below hb7)
        clear hown7 hb7
        obtain ⟨xb, xo, rfl, hcx⟩ := HXW.out.getS hj
        rw [HXJ.out] at hcx
        obtain ⟨fb2, fo2, e2, hcf⟩ := HGF.out _ HFW.out
        injection e2 with e2; injection e2 with e3 e4
        subst e3; subst e4
        go_wp2
        go_quiet (fail)
        go_wp2
        go_roundw
        case rel => exact ⟨k + 1, by omega, by go_num, by rw [HN.out]; go_num, Below_drewN HB7.out _⟩
        case measure => simp [intOf]; omega
    · have hlt' : ¬ (k : Int) < (F.length : Int) := by omega
      obtain rfl : k = F.length := by omega
      have HBF := Lib.hid (Below_then HB5.out HBW.out (Nat.le_refl _))
      have hae := HAE.out
      have hq : ((AT F.length : Int) == (X.length : Int)) = true := by rw [beq_iff_eq, hae]
      clear hae hab
      generalize AT F.length = j at *
      go_wp2_with (go_at_call 12; refine (alive_any _).mono ?_; rintro e w' ⟨rfl, rfl⟩)
      go_ret
      exact ⟨rfl, HBF.out⟩
end Go.Proofs.YtedcgbmdfmgcgaaGreatDoor
