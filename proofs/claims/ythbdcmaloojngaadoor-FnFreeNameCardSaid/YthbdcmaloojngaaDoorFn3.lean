/- Free names: the law. Written by gen_fn2.py. -/
import Derived.Test.YthbdcmaloojngaaDoorFn2
import Derived.Test.YthbdcmaloojngaaDoorL1
import Derived.Test.YthbdcmaloojngaaDoorLe
set_option linter.unusedVariables false
namespace Go.Proofs.YthbdcmaloojngaaDoor
open Go.RowKit
attribute [local go_sem] mk_toList
def DrawnNames (w : World) (e : Ending) (w' : World) : Prop :=
  ∃ (v : Value) (l : List ByteArray) (s : ByteArray), e = .returned (.tuple #[v, .string s]) ∧ Own w' w.heap.size 9 1 encS v l ∧ FewN 5 l ∧ s.size ≤ 60 ∧ Below w.heap.size w w'
set_option maxHeartbeats 4000000 in
set_option maxRecDepth 100000 in
theorem DrawFreeName_any (A : Option Addr) (n c : Nat) (w : World) (hb : BytesIn w A n c) :
    Calls Tryd.prog 25 #[.slice A n c] w (DrawnNames w) := by
  go_enter Tryd.func25, Tryd.ntmps25
  go_wp2_with fail
  refine (l20Open_any _ _ _ _ hb).mono ?_
  rintro e w1 ⟨rfl, hb1, hr1, hz1⟩
  have HR1 := Lib.hid (hr1.alloc (.cells #[] 9))
  have HB1 := Lib.hid hb1
  have HW1 := Lib.hid (Own.made (enc := encS) (E := 9) (size := 1) (Nat.le_refl w1.heap.size))
  have hgz : w.heap.size < w1.heap.size := hr1.lt
  clear hr1 hb1 hz1
  go_wp2_with fail
  refine (pick_any _ _ _ _ HR1.out (by omega) (by omega)).mono ?_
  rintro e w2 ⟨a, rfl, ha, ho2, hr2⟩
  have ha' : a ≤ 5 := by omega
  have HR2 := Lib.hid hr2
  have HO2 := Lib.hid ((Only.of_below ((Below.refl w1.heap.size w1).alloc (Nat.le_refl _) _)).trans ho2)
  have HW2 := Lib.hid (HW1.out.only ho2 hgz)
  clear hr2 ho2 ha
  go_wp2_with fail
  go_loopw [5, 6] (fun v i wr => ∃ (k : Nat) (acc : List ByteArray) (p1 : Nat), k ≤ 5 ∧ i = .int .i64 k ∧ acc.length + k ≤ 5 ∧ Hid (∀ s ∈ acc, s.size ≤ 60) ∧ Own wr w1.heap.size 9 1 encS v acc ∧ Only w.heap.size w1 wr ∧ Rdr wr w.heap.size p1 ∧ p1 + 2 * k ≤ 11) (fun _ i _ => (intOf i).toNat)
  case atStart => exact ⟨a, [], 0 + 1, ha', rfl, by simp; omega, (by intro p hp; simp at hp), HW2.out, HO2.out, HR2.out, by omega⟩
  case round =>
    obtain ⟨k, acc, p1, hk, rfl, hak, hall, hown, ho, hr1, hp1⟩ := hrel
    have HR1 := Lib.hid hr1
    have HO1 := Lib.hid ho
    have HW1 := Lib.hid hown
    have HCZ := Lib.hid hown
    clear hr1 ho hown
    by_cases hk0 : 0 < k
    · go_wp2_with fail
      refine (l20Name_any _ _ _ _ HR1.out (by omega) (by omega)).mono ?_
      rintro e w3 ⟨v3, p3, rfl, ⟨t, rfl, ht⟩, ho3, hr3, hp3⟩
      have hown3 := HW1.out.only ho3 hgz
      have HR3 := Lib.hid hr3
      have HO3 := Lib.hid (HO1.out.trans ho3)
      have HW3 := Lib.hid hown3
      obtain ⟨A1, c1, rfl, hle1, hs1, _⟩ := hown3.sl
      have HCZ1 := Lib.hid hown3.cz
      have HSW := Lib.hid hs1
      have ht60 : t.size ≤ 60 := Nat.le_trans ht (by omega)
      clear hr3 ho3 hown3 hs1 hle1 HW1 HCZ HR1 HO1
      have hcl := fun X d w h => sClashOf_any X d (acc ++ [t]) w h (by simp; omega) (by
        intro u hu
        rw [List.mem_append, List.mem_singleton] at hu
        rcases hu with hu | rfl
        · exact Nat.le_trans (hall.out u hu) (by omega)
        · omega)
      have hlen : (acc ++ [t]).length = acc.length + 1 := by simp
      have HLEN := Lib.hid hlen
      have hln : acc.length ≤ 16777216 := by omega
      rw [hlen] at hcl
      have HY := Lib.hid (show ∀ s ∈ acc ++ [t], s.size ≤ 60 by
        intro u hu
        rw [List.mem_append, List.mem_singleton] at hu
        rcases hu with hu | rfl
        · exact hall.out u hu
        · exact ht60)
      clear hlen
      generalize clashOf (acc ++ [t]) = C at *
      have HCL := Lib.hid hcl
      clear hcl
      by_cases hC : C < 0
      · go_wp2_with (first
          | (at_builtin; refine app_strN (w0 := w3) (l := []) rfl rfl (Own.made (Nat.le_refl _)) ((Below.refl _ _).alloc (Nat.le_refl _) _) (by simp; omega) (HSW.out.alloc _) HCZ1.out (by rfl) (by rfl) ?_; intro v5 w5 hown5 hb5 hg5; rw [List.nil_append] at hown5; have HW5 := Lib.hid hown5; have HB5 := Lib.hid hb5; clear hown5 hb5 hg5)
          | (at_builtin; refine app_str (w0 := w3) (y := t) rfl rfl rfl rfl HW5.out HB5.out hln ?_; intro v6 w6 hown6 hb6; obtain ⟨X6, d6, ev6, _, hs6, _⟩ := hown6.sl; rw [HLEN.out] at ev6; subst ev6; have HS6 := Lib.hid hs6; have HB6 := Lib.hid hb6; clear hown6 hb6 hs6)
          | (go_at_call 35; refine (HCL.out X6 d6 _ HS6.out).mono ?_; rintro e w7 ⟨rfl, hb7⟩; have HB7 := Lib.hid (Below_then (Below.refl w3.heap.size w3) (Below_then HB6.out hb7 (Nat.le_refl _)) (Nat.le_refl _)); clear hb7)
          | (at_builtin; refine app_str_only (w0 := w1) (y := t) rfl rfl rfl rfl (HW3.out.below HB7.out) (HO3.out.and_below (HB7.out.mono HO3.out.size)) (by omega) ?_; intro v8 w8 hown8 hb8; have HW8 := Lib.hid hown8; have HB8 := Lib.hid hb8; clear hown8 hb8))
        go_roundw
        case rel => exact ⟨k - 1, _, p3, by omega, by go_num, by simp; omega, HY.out, HW8.out, (HO3.out.and_below (HB7.out.mono HO3.out.size)).and_below HB8.out, (HR3.out.under HR3.out.lt HB7.out).under hgz HB8.out, by omega⟩
        case measure => simp [intOf]; omega
      · go_wp2_with (first
          | (at_builtin; refine app_strN (w0 := w3) (l := []) rfl rfl (Own.made (Nat.le_refl _)) ((Below.refl _ _).alloc (Nat.le_refl _) _) (by simp; omega) (HSW.out.alloc _) HCZ1.out (by rfl) (by rfl) ?_; intro v5 w5 hown5 hb5 hg5; rw [List.nil_append] at hown5; have HW5 := Lib.hid hown5; have HB5 := Lib.hid hb5; clear hown5 hb5 hg5)
          | (at_builtin; refine app_str (w0 := w3) (y := t) rfl rfl rfl rfl HW5.out HB5.out hln ?_; intro v6 w6 hown6 hb6; obtain ⟨X6, d6, ev6, _, hs6, _⟩ := hown6.sl; rw [HLEN.out] at ev6; subst ev6; have HS6 := Lib.hid hs6; have HB6 := Lib.hid hb6; clear hown6 hb6 hs6)
          | (go_at_call 35; refine (HCL.out X6 d6 _ HS6.out).mono ?_; rintro e w7 ⟨rfl, hb7⟩; have HB7 := Lib.hid (Below_then (Below.refl w3.heap.size w3) (Below_then HB6.out hb7 (Nat.le_refl _)) (Nat.le_refl _)); clear hb7))
        go_roundw
        case rel => exact ⟨k - 1, acc, p3, by omega, by go_num, by omega, hall.out, HW3.out.below HB7.out, HO3.out.and_below (HB7.out.mono HO3.out.size), HR3.out.under HR3.out.lt HB7.out, by omega⟩
        case measure => simp [intOf]; omega
    · have hk00 : k = 0 := by omega
      subst hk00
      go_wp2_with fail
      refine (l20Name_any _ _ _ _ HR1.out (by omega) (by omega)).mono ?_
      rintro e w3 ⟨v3, p3, rfl, ⟨t, rfl, ht⟩, ho3, hr3, hp3⟩
      have HO3 := Lib.hid (HO1.out.trans ho3)
      have HW3 := Lib.hid (HW1.out.only ho3 hgz)
      clear hr3 ho3
      go_wp2
      go_ret2
      exact ⟨_, _, t, rfl, HW3.out.mono HB1.out.size, ⟨by omega, hall.out⟩, by omega, HB1.out.trans (HO3.out.below (Nat.le_refl _) HB1.out.size)⟩
theorem foldName_len {s : Bs} (h : (foldName s).isEmpty = false) : s.length ≤ 8 := by
  unfold foldName at h
  split at h
  · rename_i hh; exact hh.2.1
  · simp at h
section
variable {ops : Array Oper} {rest : List Oper} {o : Oper} {a : Act} {Q : Exit → Act → World → Prop} {w0 wr : World} {v : Value}
theorem app_strG {l m : List ByteArray} {A : Option Addr} {c : Nat} {s x : Operand} (hw : Region.wanted o (yielded ops a.tmps) = true) (ho : o.op = .call { callee := .builtin .append, args := #[s, x], argTypes := #[22, 22] })
    (hown : Own wr w0.heap.size 9 1 encS v l) (hb : Below w0.heap.size w0 wr) (hn : l.length + m.length ≤ 33554432) (hsl : Sl wr encS 1 A m) (hcz : A = none → c = 0)
    (hs : a.eval s = v) (hx : a.eval x = .slice A m.length c)
    (h : ∀ v' w', Own w' w0.heap.size 9 1 encS v' (l ++ m) → Below w0.heap.size w0 w' → Grew v wr w' → wpList Tryd.prog ops Q rest (a.put o.dst v') w') : wpList Tryd.prog ops Q (o :: rest) a wr :=
  wpList_step fun K hK => step_strN hw ho hown hb hn hsl hcz hs hx fun v' w' h1 h2 h3 => hK _ _ (h v' w' h1 h2 h3)
theorem app_strG1 {l : List ByteArray} {y : ByteArray} {s x : Operand} (hw : Region.wanted o (yielded ops a.tmps) = true) (ho : o.op = .call { callee := .builtin .append, args := #[s, x], argTypes := #[22, 22] })
    (hs : a.eval s = v) (hx : a.eval x = .slice (some ⟨wr.heap.size, 0, none⟩) 1 1)
    (hown : Own wr w0.heap.size 9 1 encS v l) (hb : Below w0.heap.size w0 wr) (hn : l.length ≤ 16777216)
    (h : ∀ v' w', Own w' w0.heap.size 9 1 encS v' (l ++ [y]) → Below w0.heap.size w0 w' → wpList Tryd.prog ops Q rest (a.put o.dst v') w') :
    wpList Tryd.prog ops Q (o :: rest) a (wr.alloc (.cells #[.string y] 9)) :=
  wpList_step fun K hK => step_str_d (w0 := w0) (W := wr.alloc (rowS y)) (hown.alloc _) (hb.alloc hb.size _) (StrAt.new wr y) hn hw ho hs hx fun v' w' h1 h2 => hK _ _ (h v' w' h1 h2)
end
set_option maxHeartbeats 4000000 in
set_option maxRecDepth 100000 in
theorem wFnFreeName (A : Option Addr) (n c : Nat) (w : World) (hb : BytesIn w A n c) : Calls Tryd.prog 7 #[.slice A n c] w (LawOk w) := by
  by_cases h : n ≤ 1048576
  case neg =>
    go_enter Tryd.func7, Tryd.ntmps7
    go_wp2
    go_ret
    exact ⟨rfl, Below.refl _ _⟩
  have HBI := Lib.hid hb
  clear hb
  go_enter Tryd.func7, Tryd.ntmps7
  go_wp2_with fail
  refine (DrawFreeName_any _ _ _ _ HBI.out).mono ?_
  rintro e w1 ⟨v1, ss, s, rfl, hown1, hf1, hs60, hb1⟩
  obtain ⟨A1, c1, rfl, hle1, hs1, _⟩ := hown1.sl
  have HC1 := Lib.hid hown1.cz
  have HS1 := Lib.hid hs1
  have HB1 := Lib.hid hb1
  have hl1 := hf1.1
  have hff := (show ∀ s ∈ ss, s.size ≤ 16777216 from fun s hs => Nat.le_trans (hf1.2 s hs) (by omega))
  have HFF := Lib.hid hff
  have hI := fun w h => iFreeName_any A1 c1 ss s w h (by omega) HFF.out (by omega)
  have hS := fun w h => sFreeName_any A1 c1 ss s w h HC1.out (by omega) HFF.out (by omega)
  unfold StrBelow at hI hS
  have hfine := free_fine (names := ss) (s := bs s)
  clear hown1 hs1 hb1 hf1 hff hle1
  generalize freeOf ss (bs s) = r at *
  have HI := Lib.hid hI
  have HS := Lib.hid hS
  have HAL := Lib.hid (fun w => alive_any w)
  clear hI hS
  cases r with
  | nil =>
    clear hfine
    rw [mk_nil] at HI HS
    go_wp2_with (first
      | (go_at_call 17; refine (HI.out _ HS1.out).mono ?_; rintro e w2 ⟨rfl, hb2⟩; have HB2 := Lib.hid (Below_then HB1.out hb2 (Nat.le_refl _)); have HS2 := Lib.hid (HS1.out.below hb2); clear hb2)
      | (go_at_call 15; refine (HS.out _ HS2.out).mono ?_; rintro e w3 ⟨rfl, hb3⟩; have HB3 := Lib.hid (Below_then HB2.out hb3 (Nat.le_refl _)); have HS3 := Lib.hid (HS2.out.below hb3); clear hb3)
      | (go_at_call 22; refine (HAL.out _).mono ?_; rintro e w4 ⟨rfl, rfl⟩))
    go_ret
    exact ⟨rfl, HB3.out⟩
  | cons a r =>
    obtain ⟨hfe, hcm⟩ := hfine (by simp)
    have hr8 : (mk (a :: r)).size ≤ 8 := by rw [mk_size]; exact foldName_len hfe
    have hne : ((a :: r : Bs) == []) = false := by rfl
    have hfn := fun w => iFoldName_any (mk (a :: r)) w (by omega)
    have ebs : bs (mk (a :: r)) = a :: r := rfl
    rw [ebs] at hfn
    have hcl := fun X d w h => iClashOf_any X d (ss ++ [mk (a :: r)]) w h (by simp; omega) (by
      intro u hu
      rw [List.mem_append, List.mem_singleton] at hu
      rcases hu with hu | rfl
      · exact HFF.out u hu
      · omega)
    have hlen : (ss ++ [mk (a :: r)]).length = ss.length + 1 := by simp
    have HLEN := Lib.hid hlen
    have hln : ss.length ≤ 16777216 := by omega
    rw [hlen, hcm] at hcl
    have HCL := Lib.hid hcl
    have hmt : (mk (a :: r)).toList = a :: r := mk_toList _
    clear hlen hcl hcm hfine ebs
    generalize foldName (a :: r) = fn at *
    have HFN := Lib.hid hfn
    clear hfn
    go_wp2_with (first
      | (go_at_call 17; refine (HI.out _ HS1.out).mono ?_; rintro e w2 ⟨rfl, hb2⟩; have HB2 := Lib.hid (Below_then HB1.out hb2 (Nat.le_refl _)); have HS2 := Lib.hid (HS1.out.below hb2); clear hb2)
      | (go_at_call 15; refine (HS.out _ HS2.out).mono ?_; rintro e w3 ⟨rfl, hb3⟩; have HB3 := Lib.hid (Below_then HB2.out hb3 (Nat.le_refl _)); have HS3 := Lib.hid (HS2.out.below hb3); clear hb3)
      | (go_at_call 26; refine (HFN.out _).mono ?_; rintro e w' ⟨rfl, rfl⟩)
      | (at_builtin; refine app_strG (w0 := w3) (l := []) (by rfl) rfl (Own.made (Nat.le_refl _)) ((Below.refl _ _).alloc (Nat.le_refl _) _) (by simp; omega) (HS3.out.alloc _) HC1.out (by rfl) (by rfl) ?_; intro v5 w5 hown5 hb5 hg5; rw [List.nil_append] at hown5; have HW5 := Lib.hid hown5; have HB5 := Lib.hid hb5; clear hown5 hb5 hg5)
      | (at_builtin; refine app_strG1 (w0 := w3) (y := mk (a :: r)) (by rfl) rfl rfl rfl HW5.out HB5.out hln ?_; intro v6 w6 hown6 hb6; obtain ⟨X6, d6, ev6, _, hs6, _⟩ := hown6.sl; rw [HLEN.out] at ev6; subst ev6; have HS6 := Lib.hid hs6; have HB6 := Lib.hid hb6; clear hown6 hb6 hs6)
      | (go_at_call 27; refine (HCL.out X6 d6 _ HS6.out).mono ?_; rintro e w7 ⟨rfl, hb7⟩; have HB7 := Lib.hid (Below_then HB3.out (Below_then HB6.out hb7 (Nat.le_refl _)) (Nat.le_refl _)); clear hb7))
    go_ret
    exact ⟨rfl, HB7.out⟩
end Go.Proofs.YthbdcmaloojngaaDoor
