/- RightPieces, walked. Written by gen_rp.py. -/
import Derived.Test.YtjadgjlidejjpaaPs
set_option linter.unusedVariables false
namespace Go.Proofs.Ytjadgjlidejjpaa
open Go.RowKit

theorem rightF_append : ∀ (a b s : List Pc), rightF s (a ++ b) = (rightF s a).bind fun s' => rightF s' b
  | [], b, s => rfl
  | p :: r, b, s => by
    rw [List.cons_append, rightF, rightF]
    split
    · split
      · exact rightF_append r b _
      · rfl
    · exact rightF_append r b s
theorem rightF_step {l s : List Pc} {k : Nat} (h : k < l.length) (hs : rightF [] (l.take k) = some s) : rightF [] (l.take (k + 1)) = if pieceOk l[k] then (if (putT s l[k].2).2.2 then some (putT s l[k].2).1 else none) else some s := by
  rw [List.take_succ_eq_append_getElem h, rightF_append, hs]
  show rightF s [l[k]] = _
  rw [rightF]; rfl
theorem rightF_dead {l s : List Pc} {k : Nat} (h : k < l.length) (hs : rightF [] (l.take k) = some s) (hp : pieceOk l[k] = true) (hn : (putT s l[k].2).2.2 = false) : rightP l = ([], false) := by
  have h1 := rightF_step h hs
  rw [hp, hn] at h1
  have h2 : rightF [] l = none := by
    rw [← List.take_append_drop (k + 1) l, rightF_append, h1]; rfl
  unfold rightP; rw [h2]
theorem rightF_facts {l s : List Pc} {k : Nat} (hf : FitP l) (hs : rightF [] (l.take k) = some s) : s.length ≤ 40 ∧ FitP s := by
  obtain ⟨h1, h2, h3⟩ := rightF_ok _ _ _ storeV_nil hs
  refine ⟨storeV_len h1, fun p hp => ?_⟩
  rcases (h2 p).1 hp with h | ⟨h, _⟩
  · cases h
  · exact hf p (List.mem_of_mem_take h)
theorem rightP_len (l : List Pc) : (rightP l).1.length ≤ 40 := by
  unfold rightP
  cases h : rightF [] l with
  | none => simp
  | some s => exact storeV_len (rightF_ok _ _ _ storeV_nil h).1
def RpRes (r : List Pc × Bool) (w : World) (e : Ending) (w' : World) : Prop := ∃ v, e = .returned (.tuple #[v, .bool r.2]) ∧ Own w' w.heap.size 38 2 encP v r.1 ∧ Below w.heap.size w w'
set_option maxHeartbeats 2000000 in
set_option maxRecDepth 100000 in
theorem iRightPieces_any (A : Option Addr) (c : Nat) (l : List Pc) (w : World) (hs : Sl w encP 2 A l) (hl : l.length ≤ 16777216) (hf : FitP l) :
    Calls Try.prog 14 #[.slice A l.length c] w (RpRes (rightP l) w) := by
  have HS := Lib.hid hs
  have HF := Lib.hid hf
  have ER := Lib.hid (fun s (h : rightF [] l = some s) => (show rightP l = (s, true) by unfold rightP; rw [h]))
  clear hs hf
  unfold RpRes
  generalize hrp : rightP l = R at *
  have HRP := Lib.hid hrp
  clear hrp
  go_enter Try.func14, Try.ntmps14
  go_wp2_with fail
  go_loopw [4, 12] (fun v i wr => ∃ (k : Nat) (s : List Pc), k ≤ l.length ∧ i = .int .i64 k ∧ Hid (rightF [] (l.take k) = some s) ∧ Own wr w.heap.size 38 2 encP v s ∧ Below w.heap.size w wr) (fun _ i _ => l.length - (intOf i).toNat)
  case atStart => exact ⟨0, [], Nat.zero_le _, rfl, rfl, Own.nil, Below.refl _ _⟩
  case round =>
    obtain ⟨k, s, hk, rfl, hR, hown, hb⟩ := hrel
    obtain ⟨X, d, rfl, hle, hsX, _⟩ := hown.sl
    have HW := Lib.hid hown
    have HSX := Lib.hid hsX
    have HB := Lib.hid hb
    have hcz := hown.cz
    have HCZ := Lib.hid hcz
    obtain ⟨hs40, hfs⟩ := rightF_facts HF.out hR.out
    have HFS := Lib.hid hfs
    by_cases hlt : k < l.length
    · obtain ⟨b, o, rfl, hc0, hc1⟩ := (HS.out.below hb).getP hlt
      have hfk := HF.out.at hlt
      have hst := rightF_step hlt hR.out
      have hdead := rightF_dead hlt hR.out
      have hPR := fun w => iPieceRight_any l[k].1 l[k].2 w hfk
      rw [show pieceR (l[k].1, l[k].2) = pieceOk l[k] from rfl] at hPR
      clear hown hsX hb hcz hfs
      generalize l[k] = p at *
      obtain ⟨a, t⟩ := p
      simp only at *
      have HST := Lib.hid hst
      have HDEAD := Lib.hid hdead
      clear hst hdead
      cases hp : pieceOk (a, t)
      · rw [hp] at hPR
        have HPR := Lib.hid hPR
        have HN := Lib.hid (show rightF [] (l.take (k + 1)) = some s by rw [HST.out, hp]; rfl)
        clear hPR hp
        go_wp2_with fail
        refine (HPR.out _).mono ?_
        rintro e w2 ⟨rfl, hb2⟩
        have hq1 := box_cell hb2 1 rfl
        have HW2 := Lib.hid (HW.out.below (Below_of_alloc hb2))
        have HSX2 := Lib.hid (HSX.out.below (Below_of_alloc hb2))
        have HB2 := Lib.hid (Below_then HB.out (Below_of_alloc hb2) (Nat.le_refl _))
        clear hb2
        go_wp2
        go_roundw
        case rel => exact ⟨k + 1, s, by omega, by go_num, HN.out, HW2.out, HB2.out⟩
        case measure => simp [intOf]; omega
      · rw [hp] at hPR
        have HPR := Lib.hid hPR
        clear hPR
        cases hok : (putT s t).2.2
        · have HD := Lib.hid (HDEAD.out hp hok)
          have hpt := fun w h => iPutText_any X d s t w h HCZ.out (by omega) HFS.out hfk
          unfold PutRes at hpt
          rw [hok] at hpt
          have HPT := Lib.hid hpt
          clear hpt hok hp
          generalize putT s t = r at *
          go_wp2_with fail
          refine (HPR.out _).mono ?_
          rintro e w2 ⟨rfl, hb2⟩
          have hq1 := box_cell hb2 1 rfl
          have HW2 := Lib.hid (HW.out.below (Below_of_alloc hb2))
          have HSX2 := Lib.hid (HSX.out.below (Below_of_alloc hb2))
          have HB2 := Lib.hid (Below_then HB.out (Below_of_alloc hb2) (Nat.le_refl _))
          clear hb2
          go_wp2_with fail
          refine (HPT.out _ HSX2.out).mono ?_
          rintro e w3 ⟨v3, rfl, hown3, hb3⟩
          have HB3 := Lib.hid (Below_then HB2.out hb3 (Nat.le_refl _))
          clear hown3 hb3
          go_wp2
          go_ret2
          rw [← HRP.out, HD.out]
          exact ⟨_, rfl, Own.nil, HB3.out⟩
        · have HN := Lib.hid (show rightF [] (l.take (k + 1)) = some (putT s t).1 by rw [HST.out, hp, hok]; rfl)
          have hpt := fun w h => iPutText_any X d s t w h HCZ.out (by omega) HFS.out hfk
          unfold PutRes at hpt
          rw [hok] at hpt
          have HPT := Lib.hid hpt
          clear hpt hok hp HDEAD HST
          generalize putT s t = r at *
          go_wp2_with fail
          refine (HPR.out _).mono ?_
          rintro e w2 ⟨rfl, hb2⟩
          have hq1 := box_cell hb2 1 rfl
          have HW2 := Lib.hid (HW.out.below (Below_of_alloc hb2))
          have HSX2 := Lib.hid (HSX.out.below (Below_of_alloc hb2))
          have HB2 := Lib.hid (Below_then HB.out (Below_of_alloc hb2) (Nat.le_refl _))
          clear hb2
          go_wp2_with fail
          refine (HPT.out _ HSX2.out).mono ?_
          rintro e w3 ⟨v3, rfl, hown3, hb3⟩
          have HW3 := Lib.hid (hown3.mono HB2.out.size)
          have HB3 := Lib.hid (Below_then HB2.out hb3 (Nat.le_refl _))
          clear hown3 hb3
          go_wp2
          go_roundw
          case rel => exact ⟨k + 1, r.1, by omega, by go_num, HN.out, HW3.out, HB3.out⟩
          case measure => simp [intOf]; omega
    · have HE := Lib.hid (ER.out s (by have := hR.out; rwa [List.take_of_length_le (by omega)] at this))
      clear hown hsX hb hcz hfs
      go_wp2
      go_ret2
      first
        | (rw [HE.out]; exact ⟨_, rfl, HW.out, HB.out⟩)
        | exact ⟨_, rfl, HW.out, HB.out⟩
set_option maxHeartbeats 2000000 in
set_option maxRecDepth 100000 in
theorem sRightPieces_any (A : Option Addr) (c : Nat) (l : List Pc) (w : World) (hs : Sl w encP 2 A l) (hl : l.length ≤ 16777216) (hf : FitP l) :
    Calls Try.prog 13 #[.slice A l.length c] w (RpRes (rightP l) w) := by
  have HS := Lib.hid hs
  have HF := Lib.hid hf
  have ER := Lib.hid (fun s (h : rightF [] l = some s) => (show rightP l = (s, true) by unfold rightP; rw [h]))
  clear hs hf
  unfold RpRes
  generalize hrp : rightP l = R at *
  have HRP := Lib.hid hrp
  clear hrp
  go_enter Try.func13, Try.ntmps13
  go_wp2_with fail
  go_loopw [4, 5] (fun v i wr => ∃ (k : Nat) (s : List Pc), k ≤ l.length ∧ i = .int .i64 k ∧ Hid (rightF [] (l.take k) = some s) ∧ Own wr w.heap.size 38 2 encP v s ∧ Below w.heap.size w wr) (fun _ i _ => l.length - (intOf i).toNat)
  case atStart => exact ⟨0, [], Nat.zero_le _, rfl, rfl, Own.made (Nat.le_refl _), (Below.refl _ _).alloc (Nat.le_refl _) _⟩
  case round =>
    obtain ⟨k, s, hk, rfl, hR, hown, hb⟩ := hrel
    obtain ⟨X, d, rfl, hle, hsX, _⟩ := hown.sl
    have HW := Lib.hid hown
    have HSX := Lib.hid hsX
    have HB := Lib.hid hb
    have hcz := hown.cz
    have HCZ := Lib.hid hcz
    obtain ⟨hs40, hfs⟩ := rightF_facts HF.out hR.out
    have HFS := Lib.hid hfs
    by_cases hlt : k < l.length
    · obtain ⟨b, o, rfl, hc0, hc1⟩ := (HS.out.below hb).getP hlt
      have hfk := HF.out.at hlt
      have hst := rightF_step hlt hR.out
      have hdead := rightF_dead hlt hR.out
      have hPR := fun w => sPieceRight_any l[k].1 l[k].2 w hfk
      rw [show pieceR (l[k].1, l[k].2) = pieceOk l[k] from rfl] at hPR
      clear hown hsX hb hcz hfs
      generalize l[k] = p at *
      obtain ⟨a, t⟩ := p
      simp only at *
      have HST := Lib.hid hst
      have HDEAD := Lib.hid hdead
      clear hst hdead
      cases hp : pieceOk (a, t)
      · rw [hp] at hPR
        have HPR := Lib.hid hPR
        have HN := Lib.hid (show rightF [] (l.take (k + 1)) = some s by rw [HST.out, hp]; rfl)
        clear hPR hp
        go_wp2_with fail
        refine (HPR.out _).mono ?_
        rintro e w2 ⟨rfl, hb2⟩
        have hq1 := Below_cells hb2 _ _ _ hc1
        have HW2 := Lib.hid (HW.out.below hb2)
        have HSX2 := Lib.hid (HSX.out.below hb2)
        have HB2 := Lib.hid (Below_then HB.out hb2 (Nat.le_refl _))
        clear hb2
        go_wp2
        go_roundw
        case rel => exact ⟨k + 1, s, by omega, by go_num, HN.out, HW2.out, HB2.out⟩
        case measure => simp [intOf]; omega
      · rw [hp] at hPR
        have HPR := Lib.hid hPR
        clear hPR
        cases hok : (putT s t).2.2
        · have HD := Lib.hid (HDEAD.out hp hok)
          have hpt := fun w h => sPutText_any X d s t w h HCZ.out hle (by omega) HFS.out hfk
          unfold PutRes at hpt
          rw [hok] at hpt
          have HPT := Lib.hid hpt
          clear hpt hok hp
          generalize putT s t = r at *
          go_wp2_with fail
          refine (HPR.out _).mono ?_
          rintro e w2 ⟨rfl, hb2⟩
          have hq1 := Below_cells hb2 _ _ _ hc1
          have HW2 := Lib.hid (HW.out.below hb2)
          have HSX2 := Lib.hid (HSX.out.below hb2)
          have HB2 := Lib.hid (Below_then HB.out hb2 (Nat.le_refl _))
          clear hb2
          go_wp2_with fail
          refine (HPT.out _ HSX2.out).mono ?_
          rintro e w3 ⟨v3, rfl, hown3, hb3⟩
          have HB3 := Lib.hid (Below_then HB2.out hb3 (Nat.le_refl _))
          clear hown3 hb3
          go_wp2
          go_ret2
          rw [← HRP.out, HD.out]
          exact ⟨_, rfl, Own.made HB3.out.size, HB3.out.alloc HB3.out.size _⟩
        · have HN := Lib.hid (show rightF [] (l.take (k + 1)) = some (putT s t).1 by rw [HST.out, hp, hok]; rfl)
          have hpt := fun w h => sPutText_any X d s t w h HCZ.out hle (by omega) HFS.out hfk
          unfold PutRes at hpt
          rw [hok] at hpt
          have HPT := Lib.hid hpt
          clear hpt hok hp HDEAD HST
          generalize putT s t = r at *
          go_wp2_with fail
          refine (HPR.out _).mono ?_
          rintro e w2 ⟨rfl, hb2⟩
          have hq1 := Below_cells hb2 _ _ _ hc1
          have HW2 := Lib.hid (HW.out.below hb2)
          have HSX2 := Lib.hid (HSX.out.below hb2)
          have HB2 := Lib.hid (Below_then HB.out hb2 (Nat.le_refl _))
          clear hb2
          go_wp2_with fail
          refine (HPT.out _ HSX2.out).mono ?_
          rintro e w3 ⟨v3, rfl, hown3, hb3⟩
          have HW3 := Lib.hid (hown3.mono HB2.out.size)
          have HB3 := Lib.hid (Below_then HB2.out hb3 (Nat.le_refl _))
          clear hown3 hb3
          go_wp2
          go_roundw
          case rel => exact ⟨k + 1, r.1, by omega, by go_num, HN.out, HW3.out, HB3.out⟩
          case measure => simp [intOf]; omega
    · have HE := Lib.hid (ER.out s (by have := hR.out; rwa [List.take_of_length_le (by omega)] at this))
      clear hown hsX hb hcz hfs
      go_wp2
      go_ret2
      first
        | (rw [HE.out]; exact ⟨_, rfl, HW.out, HB.out⟩)
        | exact ⟨_, rfl, HW.out, HB.out⟩
end Go.Proofs.Ytjadgjlidejjpaa
