/- FnRightPieces, walked. -/
import Derived.Test.YtjadgjlidejjpaaDy
import Derived.Test.YtjadgjlidejjpaaRpc
import Derived.Test.YtjadgjlidejjpaaGt
import Derived.Test.YtjadgjlidejjpaaSm
import Derived.Test.YtjadgjlidejjpaaL1
set_option linter.unusedVariables false
namespace Go.Proofs.Ytjadgjlidejjpaa
open Go.RowKit
/-- What is told of the right pieces of a list. -/
structure RightOk (l s : List Pc) : Prop where
  valid : storeV s = true
  len : s.length ≤ l.length
  get : ∀ p ∈ l, pieceOk p = true → getT s p.1 = some p.2
  fit : FitP l → FitP s
theorem rightP_ok {l : List Pc} (h : (rightP l).2 = true) : RightOk l (rightP l).1 := by
  unfold rightP at h ⊢
  cases hr : rightF [] l with
  | none => rw [hr] at h; cases h
  | some s =>
    obtain ⟨h1, h2, h3⟩ := rightF_ok _ _ _ storeV_nil hr
    refine ⟨h1, by simpa using h3, fun p hp hok => getT_mem (storeV_sorted h1) ((h2 p).2 (.inr ⟨hp, hok⟩)), fun hf p hp => ?_⟩
    rcases (h2 p).1 hp with h | ⟨h, _⟩
    · cases h
    · exact hf p h
theorem rightP_no {l : List Pc} (h : (rightP l).2 = false) : (rightP l).1 = [] := by
  unfold rightP at h ⊢
  cases hr : rightF [] l with
  | none => rfl
  | some s => rw [hr] at h; cases h
set_option maxHeartbeats 4000000 in
set_option maxRecDepth 100000 in
theorem wFnRightPieces (A : Option Addr) (n c : Nat) (w : World) (hb : BytesIn w A n c) : Calls Try.prog 5 #[.slice A n c] w (LawOk w) := by
  by_cases h : n ≤ 1048576
  case neg =>
    go_enter Try.func5, Try.ntmps5
    go_wp2
    go_ret
    exact ⟨rfl, Below.refl _ _⟩
  have HBI := Lib.hid hb
  clear hb
  go_enter Try.func5, Try.ntmps5
  go_wp2_with fail
  refine (DrawRightPieces_any _ _ _ _ HBI.out).mono ?_
  rintro e w1 ⟨v1, l, rfl, hown1, hf1, hb1⟩
  obtain ⟨A1, c1, rfl, _, hs1, _⟩ := hown1.sl
  have HS1 := Lib.hid hs1
  have HB1 := Lib.hid hb1
  have HF1 := Lib.hid hf1.fit
  have hl1 := hf1.1
  clear hown1 hs1 hb1 hf1
  have hI := fun w h => iRightPieces_any A1 c1 l w h (by omega) HF1.out
  have hS := fun w h => sRightPieces_any A1 c1 l w h (by omega) HF1.out
  have hR40 := rightP_len l
  have hok := @rightP_ok l
  have hno := @rightP_no l
  unfold RpRes at hI hS
  generalize (rightP l).1 = R at *
  generalize (rightP l).2 = B at *
  have HI := Lib.hid hI
  have HS := Lib.hid hS
  have HOK := Lib.hid hok
  have HNO := Lib.hid hno
  clear hI hS hok hno
  go_wp2_with fail
  refine (HI.out _ HS1.out).mono ?_
  rintro e w2 ⟨v3, rfl, hown3, hb2⟩
  obtain ⟨A3, c3, rfl, _, hs3, _⟩ := hown3.sl
  have HX2 := Lib.hid hs3
  have HB2 := Lib.hid (Below_then HB1.out hb2 (Nat.le_refl _))
  have HS2 := Lib.hid (HS1.out.below hb2)
  clear hown3 hs3 hb2
  go_wp2_with fail
  refine (HS.out _ HS2.out).mono ?_
  rintro e w3 ⟨v4, rfl, hown4, hb3⟩
  obtain ⟨A4, c4, rfl, _, hs4, _⟩ := hown4.sl
  have HX3 := Lib.hid (HX2.out.below hb3)
  have HY3 := Lib.hid hs4
  have HB3 := Lib.hid (Below_then HB2.out hb3 (Nat.le_refl _))
  have HS3 := Lib.hid (HS2.out.below hb3)
  clear hown4 hs4 hb3
  go_wp2_with fail
  refine (samePieces_same A3 A4 c3 c4 R _ HX3.out HY3.out (by omega)).mono ?_
  rintro e w4 ⟨rfl, hb4⟩
  have HX4 := Lib.hid (HX3.out.below hb4)
  have HB4 := Lib.hid (Below_then HB3.out hb4 (Nat.le_refl _))
  have HS4 := Lib.hid (HS3.out.below hb4)
  clear hb4
  cases B
  case false =>
    have hR0 := HNO.out rfl
    subst hR0
    go_wp2_with (go_at_call 19; refine (alive_any _).mono ?_; rintro e w' ⟨rfl, rfl⟩)
    go_ret
    exact ⟨rfl, HB4.out⟩
  case true =>
    have hrk := HOK.out rfl
    have hv := hrk.valid
    have hln := hrk.len
    have HG := Lib.hid hrk.get
    have HFR := Lib.hid (hrk.fit HF1.out)
    clear HOK HNO hrk
    have hGT := fun x w h => iGetText_any A3 c3 R x w h (by omega) HFR.out
    have hSV := fun w h => iStoreValid_any A3 c3 R w h (by omega) HFR.out
    rw [hv] at hGT hSV
    simp only [if_true] at hGT
    unfold GtRes at hGT
    have HGT := Lib.hid hGT
    have HSV := Lib.hid hSV
    clear hGT hSV hv
    go_wp2_with fail
    go_loopw [8] (fun i wr => ∃ (k : Nat), k ≤ l.length ∧ i = .int .i64 k ∧ Hid (Below w4.heap.size w4 wr)) (fun i _ => l.length - (intOf i).toNat)
    case atStart => exact ⟨0, Nat.zero_le _, rfl, Below.refl _ _⟩
    case round =>
      obtain ⟨k, hk, rfl, HBW⟩ := hrel
      by_cases hlt : k < l.length
      · obtain ⟨b1, o1, rfl, hc0, hc1⟩ := (HS4.out.below HBW.out).getP hlt
        have hfk := HF1.out.at hlt
        have hPR := iPieceRight_any l[k].1 l[k].2
        have hgk := HG.out l[k] (List.getElem_mem hlt)
        have HX5 := Lib.hid (HX4.out.below HBW.out)
        rw [show pieceR (l[k].1, l[k].2) = pieceOk l[k] from rfl] at hPR
        generalize l[k] = p at *
        obtain ⟨a, t⟩ := p
        simp only at *
        cases hp : pieceOk (a, t)
        · rw [hp] at hPR
          have HPR := Lib.hid (fun w => hPR w hfk)
          have HGA := Lib.hid (HGT.out a)
          clear hPR hp hgk
          generalize getT R a = G at *
          go_wp2_with fail
          refine (HGA.out _ HX5.out).mono ?_
          rintro e w5 ⟨rfl, hb5⟩
          have HB5 := Lib.hid (Below_then HBW.out hb5 (Nat.le_refl _))
          have hd0 := Below_cells hb5 _ _ _ hc0
          have hd1 := Below_cells hb5 _ _ _ hc1
          clear hb5 hc0 hc1
          go_wp2_with fail
          refine (HPR.out _).mono ?_
          rintro e w6 ⟨rfl, hb6⟩
          have HB6 := Lib.hid (Below_then HB5.out hb6 (Nat.le_refl _))
          clear hb6 hd0 hd1
          go_wp2
          go_roundw
          case rel => exact ⟨k + 1, by omega, by go_num, HB6.out⟩
          case measure => simp [intOf]; omega
        · rw [hp] at hPR
          have HPR := Lib.hid (fun w => hPR w hfk)
          have hGA := HGT.out a
          rw [hgk hp] at hGA
          have HGA := Lib.hid hGA
          clear hPR hp hgk hGA
          go_wp2_with fail
          refine (HGA.out _ HX5.out).mono ?_
          rintro e w5 ⟨rfl, hb5⟩
          have HB5 := Lib.hid (Below_then HBW.out hb5 (Nat.le_refl _))
          have hd0 := Below_cells hb5 _ _ _ hc0
          have hd1 := Below_cells hb5 _ _ _ hc1
          clear hb5 hc0 hc1
          go_wp2_with fail
          refine (HPR.out _).mono ?_
          rintro e w6 ⟨rfl, hb6⟩
          have he0 := Below_cells hb6 _ _ _ hd0
          have he1 := Below_cells hb6 _ _ _ hd1
          have HB6 := Lib.hid (Below_then HB5.out hb6 (Nat.le_refl _))
          clear hb6 hd0 hd1
          go_wp2
          go_roundw
          case rel => exact ⟨k + 1, by omega, by go_num, HB6.out⟩
          case measure => simp [intOf]; omega
      · have HX5 := Lib.hid (HX4.out.below HBW.out)
        have HB5 := Lib.hid (Below_then HB4.out HBW.out (Nat.le_refl _))
        have hlen : (R.length : Int) ≤ (l.length : Int) := by omega
        go_wp2_with fail
        refine (HSV.out _ HX5.out).mono ?_
        rintro e w6 ⟨rfl, hb6⟩
        have HB6 := Lib.hid (Below_then HB5.out hb6 (Nat.le_refl _))
        clear hb6
        go_wp2
        go_ret
        exact ⟨rfl, HB6.out⟩
end Go.Proofs.Ytjadgjlidejjpaa
