/- FnReadBundle, walked: the order of lines does not matter. -/
import Derived.Test.YtkglfmgmmnfmbaaDoorMb
import Derived.Test.YtkglfmgmmnfmbaaDoorGc2
import Derived.Test.YtkglfmgmmnfmbaaDoorRc
import Derived.Test.YtkglfmgmmnfmbaaDoorSm
import Derived.Test.YtkglfmgmmnfmbaaDoorSto
import Derived.Test.YtkglfmgmmnfmbaaDoorGa5
set_option linter.unusedVariables false
namespace Go.Proofs.YtkglfmgmmnfmbaaDoor
open Go.RowKit
theorem rev_next {α : Type} {l : List α} {q : Nat} (h : q < l.length) : (l.drop (q + 1)).reverse ++ [l[q]] = (l.drop q).reverse := by
  rw [List.drop_eq_getElem_cons h, List.reverse_cons]
set_option maxHeartbeats 4000000 in
set_option maxRecDepth 100000 in
theorem wFnReadBundle (A : Option Addr) (n c : Nat) (w : World) (hb : BytesIn w A n c) (hm : MaxL w) (ht : TzL w) : Calls Tryd.prog 4 #[.slice A n c] w (LawOk w) := by
  by_cases h : n ≤ 1048576
  case neg =>
    go_enter Tryd.func4, Tryd.ntmps4
    go_wp2
    go_ret
    exact ⟨rfl, Below.refl _ _⟩
  have HBI := Lib.hid hb
  have HM := Lib.hid hm
  have HT := Lib.hid ht
  clear hb hm ht
  go_enter Tryd.func4, Tryd.ntmps4
  go_wp2_with fail
  refine (DrawReadBundle_any _ _ _ _ HBI.out).mono ?_
  rintro e w1 ⟨v1, ls, rfl, hown1, hdr, hln, hsz, hb1⟩
  obtain ⟨A1, c1, rfl, hle1, hs1, _⟩ := hown1.sl
  have HL1 := Lib.hid hs1
  have HB1 := Lib.hid hb1
  have HM1 := Lib.hid (HM.out.below hb1)
  have HT1 := Lib.hid (HT.out.below hb1)
  have hz : ∀ s ∈ ls, s.size ≤ 16777216 := fun s hs => Nat.le_trans (hsz s hs) (by omega)
  have hok := bundR_ok ls
  have hturn := drawnL_turn hdr
  have hI := fun w h h2 h3 => iReadBundle_any A1 c1 ls w h (by omega) hz h2 h3
  have hS := fun w h => sReadBundle_any A1 c1 ls w h (by omega) hz
  have hT := fun A c w h h2 h3 => iReadBundle_any A c ls.reverse w h (by rw [List.length_reverse]; omega) (fun s hs => hz s (List.mem_reverse.1 hs)) h2 h3
  rw [hturn] at hT
  cases hR : bundR ls with
  | mk x bad =>
  rw [hR] at hok hI hS hT
  simp only at hok
  have hx40 : x.length ≤ 40 := storeV_len hok.1
  have hbl : bad ≤ ls.length := hok.2
  have hSV := fun A c w h => iStoreValid_any A c x w h (by omega) (fun q hq => Nat.le_trans (store_fit60 hok.1 q hq) (by omega))
  rw [hok.1] at hSV
  have HSP := Lib.hid (fun A B c d w h1 h2 => samePieces_same A B c d x w h1 h2 (by omega))
  have hT2 : ∀ (acc : List ByteArray), acc = ls.reverse → ∀ A c w, Sl w encS 1 A acc → TzL w → MaxL w → Calls Tryd.prog 10 #[.slice A acc.length c] w (RbRes (x, bad) w) := by
    intro acc e A c w h h2 h3
    subst e
    exact hT A c w h h2 h3
  unfold RbRes at hI hS hT2
  have HI := Lib.hid hI
  have HS := Lib.hid hS
  have HT3 := Lib.hid hT2
  have HSV := Lib.hid hSV
  have HREV := Lib.hid (show ∀ q (h : q < ls.length), (ls.drop (q + 1)).reverse ++ [ls[q]] = (ls.drop q).reverse from fun q h => rev_next h)
  have hbi : (bad : Int) ≤ (ls.length : Int) := by omega
  clear hown1 hs1 hb1 hdr hsz hz hok hturn hI hS hT hT2 hSV hR
  go_wp2_with fail
  refine (HI.out _ HL1.out HT1.out HM1.out).mono ?_
  rintro e w2 ⟨v2, rfl, hown2, hb2⟩
  obtain ⟨A2, c2, rfl, hle2, hs2, _⟩ := hown2.sl
  have HX2 := Lib.hid hs2
  have HB2 := Lib.hid (Below_then HB1.out hb2 (Nat.le_refl _))
  have HL2 := Lib.hid (HL1.out.below hb2)
  have HM2 := Lib.hid (HM1.out.below hb2)
  have HT2 := Lib.hid (HT1.out.below hb2)
  clear hown2 hs2 hb2
  go_wp2_with fail
  refine (HS.out _ HL2.out).mono ?_
  rintro e w3 ⟨v3, rfl, hown3, hb3⟩
  obtain ⟨A3, c3, rfl, hle3, hs3, _⟩ := hown3.sl
  have HX3 := Lib.hid (HX2.out.below hb3)
  have HY3 := Lib.hid hs3
  have HB3 := Lib.hid (Below_then HB2.out hb3 (Nat.le_refl _))
  have HL3 := Lib.hid (HL2.out.below hb3)
  have HM3 := Lib.hid (HM2.out.below hb3)
  have HT3' := Lib.hid (HT2.out.below hb3)
  clear hown3 hs3 hb3
  go_wp2_with fail
  refine (HSP.out A2 A3 c2 c3 _ HX3.out HY3.out).mono ?_
  rintro e w4 ⟨rfl, hb4⟩
  have HX4 := Lib.hid (HX3.out.below hb4)
  have HB4 := Lib.hid (Below_then HB3.out hb4 (Nat.le_refl _))
  have HL4 := Lib.hid (HL3.out.below hb4)
  have HM4 := Lib.hid (HM3.out.below hb4)
  have HT4 := Lib.hid (HT3'.out.below hb4)
  clear hb4
  have hwl : IntKind.i64.wrap ((ls.length : Int) - 1) = (ls.length : Int) - 1 := IntWalk.i64_in _ (by omega)
  have HN4 := Lib.hid (Own.made (w := w4) (base := w4.heap.size) (enc := encS) (size := 1) (E := 9) (Nat.le_refl _))
  go_wp2_with fail
  go_loopw [8, 9] (fun vt vk wr => ∃ (r : Nat) (acc : List ByteArray), r ≤ ls.length ∧ vk = .int .i64 ((r : Int) - 1) ∧ Hid (acc = (ls.drop r).reverse) ∧ Hid (Own wr w4.heap.size 9 1 encS vt acc) ∧ Hid (Below w4.heap.size w4 wr)) (fun _ vk _ => (intOf vk + 1).toNat)
  case atStart => exact ⟨ls.length, [], Nat.le_refl _, rfl, (by rw [List.drop_length]; rfl), HN4.out, (Below.refl _ _).alloc (Nat.le_refl _) _⟩
  case round =>
    obtain ⟨r, acc, hr, hvk, HACC, HW, HB⟩ := hrel
    have hal : acc.length ≤ 45 := by rw [HACC.out, List.length_reverse, List.length_drop]; omega
    obtain ⟨V5, c5, e5, _⟩ := HW.out.sl
    subst e5
    cases r with
    | zero =>
      have hvk : _ = Value.int .i64 (-1) := hvk
      subst hvk
      have hneg : ¬ (-1 : Int) ≥ 0 := by decide
      have HXW := Lib.hid (HX4.out.below HB.out)
      have HMW := Lib.hid (HM4.out.below HB.out)
      have HTW := Lib.hid (HT4.out.below HB.out)
      have HBW := Lib.hid (Below_then HB4.out HB.out (Nat.le_refl _))
      have hrev : acc = ls.reverse := HACC.out
      have HCT := Lib.hid (fun w h h2 h3 => HT3.out acc hrev V5 c5 w h h2 h3)
      clear hrev
      go_wp2_with fail
      refine (HCT.out _ HW.out.sl' HTW.out HMW.out).mono ?_
      rintro e w6 ⟨v6, rfl, hown6, hb6⟩
      obtain ⟨A6, c6, rfl, hle6, hs6, _⟩ := hown6.sl
      have HZ6 := Lib.hid hs6
      have HX6 := Lib.hid (HXW.out.below hb6)
      have HB6 := Lib.hid (Below_then HBW.out hb6 (Nat.le_refl _))
      clear hown6 hs6 hb6
      go_wp2_with fail
      refine (HSV.out A2 c2 _ HX6.out).mono ?_
      rintro e w7 ⟨rfl, hb7⟩
      have HZ7 := Lib.hid (HZ6.out.below hb7)
      have HX7 := Lib.hid (HX6.out.below hb7)
      have HB7 := Lib.hid (Below_then HB6.out hb7 (Nat.le_refl _))
      clear hb7
      go_wp2_with (first
        | (go_at_call 12; refine (HSP.out A6 A2 c6 c2 _ HZ7.out HX7.out).mono ?_; rintro e w8 ⟨rfl, hb8⟩; have HB8 := Lib.hid (Below_then HB7.out hb8 (Nat.le_refl _)); clear hb8)
        | (go_at_call 8; refine (alive_any _).mono ?_; rintro e w' ⟨rfl, rfl⟩))
      go_ret
      exact ⟨rfl, HB8.out⟩
    | succ q =>
      have e1 : ((q + 1 : Nat) : Int) - 1 = (q : Int) := by omega
      rw [e1] at hvk
      subst hvk
      have hq : q < ls.length := by omega
      have hpos : (q : Int) ≥ 0 := by omega
      obtain ⟨b, o, rfl, hc⟩ := (HL4.out.below HB.out).getS hq
      have HNX := Lib.hid (HREV.out q hq)
      generalize ls[q] = s0 at *
      have hw1 : IntKind.i64.wrap ((q : Int) - 1) = (q : Int) - 1 := IntWalk.i64_in _ (by omega)
      go_wp2_with (at_builtin; refine app_str (w0 := w4) (l := acc) (y := s0) rfl rfl rfl rfl HW.out HB.out (by omega) ?_; intro v6 w6 hown6 hb6; have HW6 := Lib.hid hown6; have HB6 := Lib.hid hb6; clear hown6 hb6)
      go_roundw
      case rel => exact ⟨q, acc ++ [s0], by omega, rfl, (by rw [HACC.out]; exact HNX.out), HW6.out, HB6.out⟩
      case measure => first | (simp [intOf]; done) | (simp [intOf]; omega)
end Go.Proofs.YtkglfmgmmnfmbaaDoor
