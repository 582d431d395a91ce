/- Texts in one: Rb, Dr4, Zc, Bl. -/
import Derived.Test.YtkglfmgmmnfmbaaDoorGb4
import Derived.Test.YtkglfmgmmnfmbaaDoorGa9
import Derived.Test.YtkglfmgmmnfmbaaDoorGb2
import Derived.Test.YtkglfmgmmnfmbaaDoorGa6
import Derived.Test.YtkglfmgmmnfmbaaDoorGa8
import Derived.Test.YtkglfmgmmnfmbaaDoorGa0
import Derived.Test.YtkglfmgmmnfmbaaDoorSto
import Derived.Test.YtkglfmgmmnfmbaaDoorGa7
import Derived.Deep.RegionHeld3
/- ReadBundle, walked. -/
set_option linter.unusedVariables false
namespace Go.Proofs.YtkglfmgmmnfmbaaDoor
open Go.RowKit
def takeL (st : List Pc) (s : Bs) : List Pc × Bool := match cutC 32 s with
  | none => (st, false)
  | some x => if pieceOk (readH x.1, mk x.2) then (if (putT st (mk x.2)).2.2 then ((putT st (mk x.2)).1, true) else (st, false)) else (st, false)
def lineB (x : List Pc × Nat) (l : ByteArray) : List Pc × Nat := ((takeL x.1 (bs l)).1, if (takeL x.1 (bs l)).2 then x.2 else x.2 + 1)
def bundR (ls : List ByteArray) : List Pc × Nat := ls.foldl lineB ([], 0)
theorem bundR_step {ls : List ByteArray} {k : Nat} {st : List Pc} {bad : Nat} (h : k < ls.length) (hr : bundR (ls.take k) = (st, bad)) : bundR (ls.take (k + 1)) = lineB (st, bad) ls[k] := by
  unfold bundR at hr ⊢
  rw [List.take_succ_eq_append_getElem h, List.foldl_append, hr]; rfl
theorem takeL_valid {st : List Pc} (h : storeV st = true) (s : Bs) : storeV (takeL st s).1 = true := by
  unfold takeL
  split
  · exact h
  · split
    · split
      · rename_i hok; exact (putT_ok hok).2.1.valid
      · exact h
    · exact h
theorem foldB_ok : ∀ (ls : List ByteArray) (x : List Pc × Nat), storeV x.1 = true → storeV (ls.foldl lineB x).1 = true ∧ (ls.foldl lineB x).2 ≤ x.2 + ls.length
  | [], x, h => ⟨h, Nat.le_refl _⟩
  | l :: r, x, h => by
    have ih := foldB_ok r (lineB x l) (takeL_valid h _)
    rw [List.foldl_cons]
    refine ⟨ih.1, Nat.le_trans ih.2 ?_⟩
    unfold lineB
    simp only
    rw [List.length_cons]
    split <;> omega
theorem bundR_ok (ls : List ByteArray) : storeV (bundR ls).1 = true ∧ (bundR ls).2 ≤ ls.length := by
  have := foldB_ok ls ([], 0) storeV_nil
  refine ⟨this.1, ?_⟩
  have h2 := this.2
  unfold bundR
  simpa using h2
theorem fit_store {st : List Pc} (h : storeV st = true) : FitP st := fun p hp => by
  have := textV_size (pieceOk_iff.1 (storeV_piece h hp)).1; omega
theorem lineB_none {st : List Pc} {bad : Nat} {s : ByteArray} (h : cutC 32 (bs s) = none) : lineB (st, bad) s = (st, bad + 1) := by
  unfold lineB takeL; rw [h]; rfl
theorem lineB_wrong {st : List Pc} {bad : Nat} {s : ByteArray} {x : Bs × Bs} (h : cutC 32 (bs s) = some x) (hp : pieceOk (readH x.1, mk x.2) = false) : lineB (st, bad) s = (st, bad + 1) := by
  unfold lineB takeL; rw [h]; simp [hp]
theorem lineB_full {st : List Pc} {bad : Nat} {s : ByteArray} {x : Bs × Bs} (h : cutC 32 (bs s) = some x) (hp : pieceOk (readH x.1, mk x.2) = true) (hok : (putT st (mk x.2)).2.2 = false) : lineB (st, bad) s = (st, bad + 1) := by
  unfold lineB takeL; rw [h]; simp [hp, hok]
theorem lineB_put {st : List Pc} {bad : Nat} {s : ByteArray} {x : Bs × Bs} (h : cutC 32 (bs s) = some x) (hp : pieceOk (readH x.1, mk x.2) = true) (hok : (putT st (mk x.2)).2.2 = true) : lineB (st, bad) s = ((putT st (mk x.2)).1, bad) := by
  unfold lineB takeL; rw [h]; simp [hp, hok]
def RbRes (r : List Pc × Nat) (w : World) (e : Ending) (w' : World) : Prop := ∃ v, e = .returned (.tuple #[v, .int .i64 (r.2 : Int)]) ∧ Own w' w.heap.size 57 2 encP v r.1 ∧ Below w.heap.size w w'
set_option maxHeartbeats 400000 in
set_option maxRecDepth 100000 in
theorem iReadBundle_any (A : Option Addr) (c : Nat) (l : List ByteArray) (w : World) (hs : Sl w encS 1 A l) (hl : l.length ≤ 16777216) (hf : ∀ s ∈ l, s.size ≤ 16777216) (ht : TzL w) (hm : MaxL w) :
    Calls Tryd.prog 10 #[.slice A l.length c] w (RbRes (bundR l) w) := by
  have HS := Lib.hid hs
  have HF := Lib.hid hf
  have HT := Lib.hid ht
  have HM := Lib.hid hm
  clear hs hf ht hm
  unfold RbRes
  generalize hrp : bundR l = R at *
  have HRP := Lib.hid hrp
  clear hrp
  go_enter Tryd.func10, Tryd.ntmps10
  go_wp2_with fail
  go_loopw [4, 5, 16] (fun v z i wr => ∃ (k bad : Nat) (st : List Pc), k ≤ l.length ∧ i = .int .i64 k ∧ z = .int .i64 bad ∧ bad ≤ k ∧ Hid (bundR (l.take k) = (st, bad)) ∧ Own wr w.heap.size 57 2 encP v st ∧ Below w.heap.size w wr) (fun _ _ i _ => l.length - (intOf i).toNat)
  case atStart => exact ⟨0, 0, [], Nat.zero_le _, rfl, rfl, Nat.le_refl _, rfl, Own.nil, Below.refl _ _⟩
  case round =>
    obtain ⟨k, bad, st, hk, rfl, rfl, hbk, hR, hown, hb⟩ := hrel
    obtain ⟨X, d, rfl, hle, hsX, _⟩ := hown.sl
    have HW := Lib.hid hown
    have HSX := Lib.hid hsX
    have HB := Lib.hid hb
    have HCZ := Lib.hid hown.cz
    have hok := bundR_ok (l.take k)
    rw [hR.out] at hok
    have HFS := Lib.hid (show FitP st from fit_store hok.1)
    have hs40 : st.length ≤ 40 := storeV_len hok.1
    by_cases hlt : k < l.length
    · obtain ⟨b, o, rfl, hc⟩ := (HS.out.below hb).getS hlt
      have hfk : l[k].size ≤ 16777216 := HF.out _ (by simp)
      have hst := bundR_step hlt hR.out
      clear hown hsX hb hok hR
      generalize l[k] = s at *
      have hct := fun w h => Cut_any s 32 w hfk h
      unfold cutV at hct
      have HN := Lib.hid (fun h => hst.trans (lineB_none h))
      have HWR := Lib.hid (fun x h hp => hst.trans (lineB_wrong (x := x) h hp))
      have HFU := Lib.hid (fun x h hp hok => hst.trans (lineB_full (x := x) h hp hok))
      have HPU := Lib.hid (fun x h hp hok => hst.trans (lineB_put (x := x) h hp hok))
      clear hst
      cases hcu : cutC 32 (bs s) with
      | none =>
        simp only [hcu] at hct
        have HC := Lib.hid hct
        have HE := Lib.hid (HN.out hcu)
        clear hct hcu HN HWR HFU HPU
        go_wp2_with fail
        refine (HC.out _ (HM.out.below HB.out)).mono ?_
        rintro e w2 ⟨rfl, hb2⟩
        have HW2 := Lib.hid (HW.out.below hb2)
        have HB2 := Lib.hid (Below_then HB.out hb2 (Nat.le_refl _))
        clear hb2 hc
        go_wp2
        go_roundw
        case rel => exact ⟨k + 1, bad + 1, st, by omega, by go_num, by go_num, by omega, HE.out, HW2.out, HB2.out⟩
        case measure => simp [intOf]; omega
      | some x =>
        obtain ⟨dg, tt⟩ := x
        have hlen := cutC_len hcu
        have hd1 : (mk dg).size ≤ 16777216 := by rw [mk_size]; omega
        have hd2 : (mk tt).size ≤ 16777216 := by rw [mk_size]; omega
        simp only [hcu] at hct
        have HC := Lib.hid hct
        have HRH := Lib.hid (fun w h => (iReadHex_any (mk dg) w hd1 h))
        have hPR := fun w => iPieceRight_any (readH dg) (mk tt) w hd2
        rw [show pieceR (readH dg, mk tt) = pieceOk (readH dg, mk tt) from rfl] at hPR
        rw [show bs (mk dg) = dg from rfl] at HRH
        have hWR := HWR.out _ hcu
        have hFU := HFU.out _ hcu
        have hPU := HPU.out _ hcu
        simp only at hWR hFU hPU
        clear hct hcu HN HWR HFU HPU hlen
        generalize readH dg = hx at *
        generalize mk dg = DG at *
        generalize mk tt = TT at *
        cases hp : pieceOk (hx, TT)
        · rw [hp] at hPR
          have HPR := Lib.hid hPR
          have HE := Lib.hid (hWR hp)
          clear hPR hp hWR hFU hPU
          go_wp2_with fail
          refine (HC.out _ (HM.out.below HB.out)).mono ?_
          rintro e w2 ⟨rfl, hb2⟩
          have HW2 := Lib.hid (HW.out.below hb2)
          have HB2 := Lib.hid (Below_then HB.out hb2 (Nat.le_refl _))
          clear hb2 hc
          go_wp2_with fail
          refine (HRH.out _ (HT.out.below HB2.out)).mono ?_
          rintro e w3 ⟨rfl, hb3⟩
          have HW3 := Lib.hid (HW2.out.below hb3)
          have HB3 := Lib.hid (Below_then HB2.out hb3 (Nat.le_refl _))
          clear hb3
          go_wp2_with fail
          refine (HPR.out _).mono ?_
          rintro e w4 ⟨rfl, hb4⟩
          have HW4 := Lib.hid (HW3.out.below hb4)
          have HB4 := Lib.hid (Below_then HB3.out hb4 (Nat.le_refl _))
          clear hb4
          go_wp2
          go_roundw
          case rel => exact ⟨k + 1, bad + 1, st, by omega, by go_num, by go_num, by omega, HE.out, HW4.out, HB4.out⟩
          case measure => simp [intOf]; omega
        · rw [hp] at hPR
          have HPR := Lib.hid hPR
          have hFU' := hFU hp
          have hPU' := hPU hp
          clear hPR hWR hFU hPU hp
          have hpt := fun w h => iPutText_any X d st TT w h HCZ.out (by omega) HFS.out hd2
          unfold PutRes at hpt
          cases hok : (putT st TT).2.2
          all_goals
            rw [hok] at hpt
            first
              | have HE := Lib.hid (hFU' hok)
              | have HE := Lib.hid (hPU' hok)
            have HPT := Lib.hid hpt
            clear hpt hok hFU' hPU'
            generalize putT st TT = r at *
            go_wp2_with fail
            refine (HC.out _ (HM.out.below HB.out)).mono ?_
            rintro e w2 ⟨rfl, hb2⟩
            have HW2 := Lib.hid (HW.out.below hb2)
            have HX2 := Lib.hid (HSX.out.below hb2)
            have HB2 := Lib.hid (Below_then HB.out hb2 (Nat.le_refl _))
            clear hb2 hc
            go_wp2_with fail
            refine (HRH.out _ (HT.out.below HB2.out)).mono ?_
            rintro e w3 ⟨rfl, hb3⟩
            have HW3 := Lib.hid (HW2.out.below hb3)
            have HX3 := Lib.hid (HX2.out.below hb3)
            have HB3 := Lib.hid (Below_then HB2.out hb3 (Nat.le_refl _))
            clear hb3
            go_wp2_with fail
            refine (HPR.out _).mono ?_
            rintro e w4 ⟨rfl, hb4⟩
            have HW4 := Lib.hid (HW3.out.below hb4)
            have HX4 := Lib.hid (HX3.out.below hb4)
            have HB4 := Lib.hid (Below_then HB3.out hb4 (Nat.le_refl _))
            clear hb4
            go_wp2_with fail
            refine (HPT.out _ HX4.out).mono ?_
            rintro e w5 ⟨v5, rfl, hown5, hb5⟩
            have HW5 := Lib.hid (hown5.mono HB4.out.size)
            have HW5b := Lib.hid (HW4.out.below hb5)
            have HB5 := Lib.hid (Below_then HB4.out hb5 (Nat.le_refl _))
            clear hown5 hb5
            go_wp2
            go_roundw
            case rel => first | exact ⟨k + 1, bad + 1, st, by omega, by go_num, by go_num, by omega, HE.out, HW5b.out, HB5.out⟩ | exact ⟨k + 1, bad, r.1, by omega, by go_num, rfl, by omega, HE.out, HW5.out, HB5.out⟩
            case measure => simp [intOf]; omega
    · have HE := Lib.hid (show R = (st, bad) by rw [← HRP.out]; have := hR.out; rwa [List.take_of_length_le (by omega)] at this)
      clear hown hsX hb hok
      go_wp2
      go_ret2
      rw [HE.out]
      exact ⟨_, rfl, HW.out, HB.out⟩
end Go.Proofs.YtkglfmgmmnfmbaaDoor

/- Drawn inputs: lists of pieces, lists of names. -/
set_option linter.unusedVariables false
namespace Go.Proofs.YtkglfmgmmnfmbaaDoor
open Go.RowKit

section
variable {ops : Array Oper} {rest : List Oper} {o : Oper} {a : Act} {Q : Exit → Act → World → Prop} {w0 wr : World} {v : Value} {g : Nat}
end
def FewP (l : List Pc) : Prop := l.length ≤ 8 ∧ ∀ p ∈ l, -1 ≤ p.1 ∧ p.1 ≤ 16777212 ∧ p.2.size ≤ 60
theorem FewP.fit {l : List Pc} (h : FewP l) : FitP l := fun p hp => Nat.le_trans (h.2 p hp).2.2 (by omega)
/-! ### names -/
end Go.Proofs.YtkglfmgmmnfmbaaDoor

/- Sizes of files, files with a word, quotas that are passed: their laws. Plain Lean, no program in sight. -/
set_option linter.unusedVariables false
namespace Go.Proofs.YtkglfmgmmnfmbaaDoor
/-! ### a file more -/
def nameZ : Bs := [122, 122]
/-! ### found ones stand in their order -/
/-! ### quotas -/
end Go.Proofs.YtkglfmgmmnfmbaaDoor

/- BundleLines, walked. -/
set_option linter.unusedVariables false
namespace Go.Proofs.YtkglfmgmmnfmbaaDoor
open Go.RowKit
--BEGIN
def lineOf (p : Pc) : ByteArray := mk (hexT p.1) ++ ⟨#[32]⟩ ++ p.2
def bundL (l : List Pc) : List ByteArray := if storeV l then l.map lineOf else []
theorem bundL_take {l : List Pc} {k : Nat} (h : k < l.length) : (l.take (k + 1)).map lineOf = (l.take k).map lineOf ++ [lineOf l[k]] := by
  rw [List.take_succ_eq_append_getElem h, List.map_append]; rfl
set_option maxHeartbeats 4000000 in
set_option maxRecDepth 100000 in
theorem sBundleLines_any (A : Option Addr) (c : Nat) (l : List Pc) (w : World) (hs : Sl w encP 2 A l) (hl : l.length ≤ 16777216) (hf : FitP l) :
    Calls Tryd.prog 24 #[.slice A l.length c] w (OwnRes 9 1 encS (bundL l) w) := by
  have HS := Lib.hid hs
  have HF := Lib.hid hf
  have hsv := fun w h => sStoreValid_any A c l w h hl hf
  clear hs hf
  unfold OwnRes
  cases hv : storeV l
  · have E := Lib.hid (show bundL l = [] by unfold bundL; rw [hv]; rfl)
    rw [hv] at hsv
    have HSV := Lib.hid hsv
    clear hsv hv
    rw [E.out]
    by_cases h0 : l.length = 0
    · have h0' : decide ((0 : Int) < (l.length : Int)) = false := decide_eq_false (by omega)
      go_enter Tryd.func24, Tryd.ntmps24
      go_wp2_with fail
      go_loopw [3, 4] (fun v i wr => v = .slice (some ⟨w.heap.size, 0, none⟩) 0 0 ∧ i = .int .i64 0 ∧ wr = w.alloc (.cells #[] 9)) (fun _ _ _ => 0)
      case atStart => exact ⟨rfl, rfl, rfl⟩
      case round =>
        obtain ⟨rfl, rfl, rfl⟩ := hrel
        go_wp2
        go_ret
        exact ⟨_, rfl, Own.made (Nat.le_refl _), (Below.refl _ _).alloc (Nat.le_refl _) _⟩
    · have h0' : decide ((0 : Int) < (l.length : Int)) = true := decide_eq_true (by omega)
      go_enter Tryd.func24, Tryd.ntmps24
      go_wp2_with fail
      go_loopw [3, 4] (fun v i wr => v = .slice (some ⟨w.heap.size, 0, none⟩) 0 0 ∧ i = .int .i64 0 ∧ wr = w.alloc (.cells #[] 9)) (fun _ _ _ => 0)
      case atStart => exact ⟨rfl, rfl, rfl⟩
      case round =>
        obtain ⟨rfl, rfl, rfl⟩ := hrel
        go_wp2_with fail
        refine (HSV.out _ (HS.out.alloc _)).mono ?_
        rintro e w1 ⟨rfl, hb⟩
        have HW := Lib.hid ((Own.made (w := w) (enc := encS) (E := 9) (size := 1) (Nat.le_refl _)).below hb)
        have HB := Lib.hid (Below_of_alloc hb)
        clear hb
        go_wp2
        go_ret
        exact ⟨_, rfl, HW.out, HB.out⟩
  · have E := Lib.hid (show bundL l = l.map lineOf by unfold bundL; rw [hv]; rfl)
    rw [hv] at hsv
    have HSV := Lib.hid hsv
    have hl40 := storeV_len hv
    clear hsv hv
    rw [E.out]
    go_enter Tryd.func24, Tryd.ntmps24
    go_wp2_with fail
    go_loopw [3, 4] (fun v i wr => ∃ (k : Nat) (acc : List ByteArray), k ≤ l.length ∧ i = .int .i64 k ∧ acc.length = k ∧ Hid (acc = (l.take k).map lineOf) ∧ Hid (Own wr w.heap.size 9 1 encS v acc) ∧ Hid (Below w.heap.size w wr)) (fun _ i _ => l.length - (intOf i).toNat)
    case atStart => exact ⟨0, [], Nat.zero_le _, rfl, rfl, rfl, Own.made (Nat.le_refl _), (Below.refl _ _).alloc (Nat.le_refl _) _⟩
    case round =>
      obtain ⟨k, acc, hk, rfl, hak, HA, HO, HBW⟩ := hrel
      by_cases hlt : k < l.length
      · have hlt' : decide ((k : Int) < (l.length : Int)) = true := decide_eq_true (by omega)
        obtain ⟨b, o, rfl, hd0, hd1⟩ := HS.out.getP hlt
        have hfk := HF.out.at hlt
        have hst := bundL_take hlt
        generalize l[k] = p at *
        obtain ⟨a, t⟩ := p
        simp only at *
        have hz1 : (mk (hexT a)).size ≤ 6 := by rw [mk_size]; exact hexT_len a
        have hz2 : (mk (hexT a) ++ ⟨#[32]⟩).size ≤ 7 := by rw [ByteArray.size_append]; exact Nat.add_le_add_right hz1 1
        have hq1 := str_add (x := mk (hexT a)) (y := ⟨#[32]⟩) (by omega) (by simp [ByteArray.size])
        have hq2 := str_add (x := mk (hexT a) ++ ⟨#[32]⟩) (y := t) (by omega) (by omega)
        have HH := Lib.hid (fun w => sHexText_any a w)
        have HN := Lib.hid (show acc ++ [mk (hexT a) ++ ⟨#[32]⟩ ++ t] = (l.take (k + 1)).map lineOf by rw [hst, HA.out]; rfl)
        have HL := Lib.hid (show acc.length ≤ 16777216 by omega)
        have HK1 := Lib.hid (And.intro hd0 hd1)
        clear hst hd0 hd1
        go_wp2_with fail
        refine (HSV.out _ (HS.out.below HBW.out)).mono ?_
        rintro e w2 ⟨rfl, hb2⟩
        have HO2 := Lib.hid (HO.out.below hb2)
        have HB2 := Lib.hid (Below_then HBW.out hb2 (Nat.le_refl _))
        have HK2 := Lib.hid (keepA HB2.out HK1.out)
        clear hb2
        go_wp2_with fail
        first
          | go_region_held3 (fun w' => w'.cell? ⟨b, o + k * 2, none⟩ = some (.int .i64 a) ∧ w'.cell? ⟨b, o + k * 2 + 1, none⟩ = some (.string t))
              (first | assumption | exact HK2.out | exact keepA (HB2.out.drew.alloc HB2.out.size _) HK1.out | exact keepA HB4.out HK1.out)
              ((first
                | (go_at_call 51; refine (HH.out _).mono ?_; rintro e w3 ⟨rfl, rfl⟩)
                | (refine step_str_g (w0 := w) HO2.out HB2.out HL.out (by rfl) rfl (by rfl) (by rfl) ?_; intro v4 w4 hown4 hb4 hg4; have HW4 := Lib.hid hown4; have HB4 := Lib.hid hb4; clear hown4 hb4 hg4)))
          | fail
        all_goals
          go_wp2
          go_roundw
          case rel => exact ⟨k + 1, _, by omega, by go_num, by simp; omega, HN.out, HW4.out, HB4.out⟩
          case measure => simp [intOf]; omega
      · have hlt' : decide ((k : Int) < (l.length : Int)) = false := decide_eq_false (by omega)
        have HE := Lib.hid (show acc = l.map lineOf by rw [HA.out, List.take_of_length_le (by omega)])
        go_wp2
        go_ret
        rw [← HE.out]
        exact ⟨_, rfl, HO.out, HBW.out⟩
end Go.Proofs.YtkglfmgmmnfmbaaDoor
