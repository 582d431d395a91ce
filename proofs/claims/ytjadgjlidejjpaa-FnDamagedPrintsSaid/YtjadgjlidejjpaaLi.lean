/- FnDamagedPrints, walked. -/
import Derived.Test.YtjadgjlidejjpaaDy
import Derived.Test.YtjadgjlidejjpaaRpc
import Derived.Test.YtjadgjlidejjpaaDm
import Derived.Test.YtjadgjlidejjpaaSm
import Derived.Test.YtjadgjlidejjpaaL1
import Derived.Test.YtjadgjlidejjpaaEq
set_option linter.unusedVariables false
namespace Go.Proofs.Ytjadgjlidejjpaa
open Go.RowKit
theorem damaged_none {l : List Pc} (h : ∀ p ∈ l, pieceOk p = true) : damaged l = [] := by
  unfold damaged
  rw [List.map_eq_nil_iff, List.filter_eq_nil_iff]
  intro p hp
  have := h p hp
  rw [show pieceR p = pieceOk p from rfl, this]; simp
theorem rightP_none (l : List Pc) : damaged (rightP l).1 = [] := by
  unfold rightP
  cases h : rightF [] l with
  | none => rfl
  | some s => exact damaged_none fun p hp => storeV_piece (rightF_ok _ _ _ storeV_nil h).1 hp
theorem rightP_fit {l : List Pc} (hf : FitP l) : FitP (rightP l).1 := by
  unfold rightP
  cases h : rightF [] l with
  | none => intro p hp; cases hp
  | some s =>
    intro p hp
    rcases ((rightF_ok _ _ _ storeV_nil h).2.1 p).1 hp with h1 | h1
    · cases h1
    · exact hf p h1.1
def damN (l : List Pc) (k : Nat) : Nat := (damaged (l.take k)).length
theorem damN_step {l : List Pc} {k : Nat} (h : k < l.length) : damN l (k + 1) = damN l k + if pieceR l[k] then 0 else 1 := by
  unfold damN
  rw [damaged_take h, List.length_append]
  split <;> rfl
set_option maxHeartbeats 4000000 in
set_option maxRecDepth 100000 in
theorem wFnDamagedPrints (A : Option Addr) (n c : Nat) (w : World) (hb : BytesIn w A n c) : Calls Try.prog 6 #[.slice A n c] w (LawOk w) := by
  by_cases h : n ≤ 1048576
  case neg =>
    go_enter Try.func6, Try.ntmps6
    go_wp2
    go_ret
    exact ⟨rfl, Below.refl _ _⟩
  have HBI := Lib.hid hb
  clear hb
  go_enter Try.func6, Try.ntmps6
  go_wp2_with fail
  refine (DrawDamagedPrints_any _ _ _ _ HBI.out).mono ?_
  rintro e w1 ⟨v1, l, rfl, hown1, hf1, hb1⟩
  obtain ⟨A1, c1, rfl, _, hs1, _⟩ := hown1.sl
  have HS1 := Lib.hid hs1
  have HB1 := Lib.hid hb1
  have HF1 := Lib.hid hf1.fit
  have hl1 := hf1.1
  clear hown1 hs1 hb1 hf1
  have hI := fun w h => iDamagedPrints_any A1 c1 l w h (by omega) HF1.out
  have hS := fun w h => sDamagedPrints_any A1 c1 l w h (by omega) HF1.out
  unfold OwnRes at hI hS
  have HI := Lib.hid hI
  have HS := Lib.hid hS
  have hdl := damaged_len l
  have HDN := Lib.hid (show damN l l.length = (damaged l).length by unfold damN; rw [List.take_length])
  clear hI hS
  generalize damaged l = D at *
  go_wp2_with fail
  refine (HI.out _ HS1.out).mono ?_
  rintro e w2 ⟨v3, rfl, hown3, hb2⟩
  obtain ⟨A3, c3, rfl, _, hs3, _⟩ := hown3.sl
  have HX2 := Lib.hid hs3
  have HB2 := Lib.hid (Below_then HB1.out hb2 (Nat.le_refl _))
  have HS2 := Lib.hid (HS1.out.below hb2)
  clear hown3 hs3 hb2
  go_wp2_with fail
  refine (HS.out _ HS2.out).mono ?_
  rintro e w3 ⟨v4, rfl, hown4, hb3⟩
  obtain ⟨A4, c4, rfl, _, hs4, _⟩ := hown4.sl
  have HX3 := Lib.hid (HX2.out.below hb3)
  have HY3 := Lib.hid hs4
  have HB3 := Lib.hid (Below_then HB2.out hb3 (Nat.le_refl _))
  have HS3 := Lib.hid (HS2.out.below hb3)
  clear hown4 hs4 hb3
  go_wp2_with fail
  refine (l_sameInts_same A3 A4 c3 c4 D _ HX3.out HY3.out (by omega)).mono ?_
  rintro e w4 ⟨rfl, hd4⟩
  have hb4 := hd4.below
  clear hd4
  have HX4 := Lib.hid (HX3.out.below hb4)
  have HB4 := Lib.hid (Below_then HB3.out hb4 (Nat.le_refl _))
  have HS4 := Lib.hid (HS3.out.below hb4)
  clear hb4
  go_wp2_with fail
  go_loopw [5, 6] (fun v i wr => ∃ (k m : Nat), k ≤ l.length ∧ i = .int .i64 k ∧ v = .int .i64 m ∧ m ≤ k ∧ Hid (m = damN l k) ∧ Hid (Below w4.heap.size w4 wr)) (fun _ i _ => l.length - (intOf i).toNat)
  case atStart => exact ⟨0, 0, Nat.zero_le _, rfl, rfl, Nat.le_refl _, rfl, Below.refl _ _⟩
  case round =>
    obtain ⟨k, m, hk, rfl, rfl, hmk, HM, HBW⟩ := hrel
    by_cases hlt : k < l.length
    · obtain ⟨b1, o1, rfl, hc0, hc1⟩ := (HS4.out.below HBW.out).getP hlt
      have hfk := HF1.out.at hlt
      have hPR := iPieceRight_any l[k].1 l[k].2
      have hst := damN_step hlt
      rw [show pieceR (l[k].1, l[k].2) = pieceR l[k] from rfl] at hPR
      generalize l[k] = p at *
      obtain ⟨a, t⟩ := p
      simp only at *
      cases hp : pieceR (a, t)
      · rw [hp] at hPR
        have HN := Lib.hid (show m + 1 = damN l (k + 1) by rw [hst, hp, HM.out]; rfl)
        have HPR := Lib.hid (fun w => hPR w hfk)
        clear hPR hp hst
        go_wp2_with fail
        refine (HPR.out _).mono ?_
        rintro e w5 ⟨rfl, hb5⟩
        have HB5 := Lib.hid (Below_then HBW.out hb5 (Nat.le_refl _))
        clear hb5 hc0 hc1
        go_wp2
        go_roundw
        case rel => exact ⟨k + 1, m + 1, by omega, by go_num, by go_num, by omega, HN.out, HB5.out⟩
        case measure => simp [intOf]; omega
      · rw [hp] at hPR
        have HN := Lib.hid (show m = damN l (k + 1) by rw [hst, hp, HM.out]; rfl)
        have HPR := Lib.hid (fun w => hPR w hfk)
        clear hPR hp hst
        go_wp2_with fail
        refine (HPR.out _).mono ?_
        rintro e w5 ⟨rfl, hb5⟩
        have HB5 := Lib.hid (Below_then HBW.out hb5 (Nat.le_refl _))
        clear hb5 hc0 hc1
        go_wp2
        go_roundw
        case rel => exact ⟨k + 1, m, by omega, by go_num, rfl, by omega, HN.out, HB5.out⟩
        case measure => simp [intOf]; omega
    · have hkl : k = l.length := by omega
      have hmD : m = D.length := by rw [HM.out, hkl, HDN.out]
      have HS5 := Lib.hid (HS4.out.below HBW.out)
      have HB5 := Lib.hid (Below_then HB4.out HBW.out (Nat.le_refl _))
      have hR := fun w h => iRightPieces_any A1 c1 l w h (by omega) HF1.out
      have hR40 := rightP_len l
      have hRn := rightP_none l
      have hRf := rightP_fit HF1.out
      unfold RpRes at hR
      generalize (rightP l).1 = R at *
      generalize (rightP l).2 = B at *
      have HR := Lib.hid hR
      have HRN := Lib.hid hRn
      have HRF := Lib.hid hRf
      clear hR hRn hRf HDN HM hk hlt
      subst hkl hmD
      go_wp2_with fail
      refine (HR.out _ HS5.out).mono ?_
      rintro e w6 ⟨v6, rfl, hown6, hb6⟩
      obtain ⟨A6, c6, rfl, _, hs6, _⟩ := hown6.sl
      have HX6 := Lib.hid hs6
      have HB6 := Lib.hid (Below_then HB5.out hb6 (Nat.le_refl _))
      clear hown6 hs6 hb6
      have hD := fun w h => iDamagedPrints_any A6 c6 R w h (by omega) HRF.out
      rw [HRN.out] at hD
      unfold OwnRes at hD
      have HD := Lib.hid hD
      clear hD
      cases B
      · go_wp2_with (go_at_call 19; refine (alive_any _).mono ?_; rintro e w' ⟨rfl, rfl⟩)
        go_ret
        exact ⟨rfl, HB6.out⟩
      · go_wp2_with (first
          | (go_at_call 24; refine (HD.out _ HX6.out).mono ?_; rintro e w7 ⟨v7, rfl, hown7, hb7⟩; obtain ⟨A7, c7, rfl, _, _, _⟩ := hown7.sl; have HB7 := Lib.hid (Below_then HB6.out hb7 (Nat.le_refl _)); clear hown7 hb7)
          | (go_at_call 19; refine (alive_any _).mono ?_; rintro e w' ⟨rfl, rfl⟩))
        go_ret
        exact ⟨rfl, HB7.out⟩
end Go.Proofs.Ytjadgjlidejjpaa
