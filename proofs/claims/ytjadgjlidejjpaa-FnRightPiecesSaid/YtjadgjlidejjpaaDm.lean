/- Damaged pieces, walked. -/
import Derived.Test.YtjadgjlidejjpaaRp
import Derived.Test.YtjadgjlidejjpaaAp
set_option linter.unusedVariables false
namespace Go.Proofs.Ytjadgjlidejjpaa
open Go.RowKit

def FitP (l : List Pc) : Prop := ∀ p ∈ l, p.2.size ≤ 16777216
theorem FitP.at {l : List Pc} (h : FitP l) {k : Nat} (hk : k < l.length) : l[k].2.size ≤ 16777216 := h _ (by simp)

set_option maxHeartbeats 4000000 in
set_option maxRecDepth 100000 in
theorem iDamagedPrints_any (A : Option Addr) (c : Nat) (l : List Pc) (w : World) (hs : Sl w encP 2 A l) (hl : l.length ≤ 16777216) (hf : FitP l) :
    Calls Try.prog 24 #[.slice A l.length c] w (OwnRes 3 1 encI (damaged l) w) := by
  have HS := Lib.hid hs
  have HF := Lib.hid hf
  clear hs hf
  go_enter Try.func24, Try.ntmps24
  go_wp2
  go_loopw [3, 8] (fun v i wr => ∃ (k : Nat) (acc : List Int), k ≤ l.length ∧ i = .int .i64 k ∧ acc.length ≤ k ∧ Hid (acc = damaged (l.take k)) ∧ Own wr w.heap.size 3 1 encI v acc ∧ Below w.heap.size w wr) (fun _ i _ => l.length - (intOf i).toNat)
  case atStart => exact ⟨0, [], Nat.zero_le _, rfl, Nat.le_refl _, rfl, Own.nil, Below.refl _ _⟩
  case round =>
    obtain ⟨k, acc, hk, rfl, hak, hh, hown, hb⟩ := hrel
    by_cases hlt : k < l.length
    · obtain ⟨b, o, rfl, hc0, hc1⟩ := (HS.out.below hb).getP hlt
      have hfk := HF.out.at hlt
      have hdt := damaged_take hlt
      have hR := iPieceRight_any l[k].1 l[k].2
      have HB := Lib.hid hb
      have HW := Lib.hid hown
      clear hb hown
      generalize l[k] = p at *
      cases hp : pieceR p
      · rw [hp] at hdt
        rw [show pieceR (p.1, p.2) = pieceR p from rfl, hp] at hR
        have HR := Lib.hid hR
        have HDT := Lib.hid hdt
        clear hR hdt hp
        go_wp2_with fail
        refine (HR.out _ hfk).mono ?_
        rintro e w2 ⟨rfl, hb2⟩
        have hq0 := box_cell hb2 0 rfl
        have HW2 := Lib.hid (HW.out.below (Below_of_alloc hb2))
        have HB2 := Lib.hid (Below_then HB.out (Below_of_alloc hb2) (Nat.le_refl _))
        clear hb2
        go_wp2_with (at_builtin; refine app_int rfl rfl rfl rfl HW2.out HB2.out (by omega) ?_; intro v1 w3 hown3 hb3)
        go_roundw
        case rel => exact ⟨k + 1, _, by omega, by go_num, by simp; omega, by show _ = _; rw [HDT.out, ← hh.out]; rfl, hown3, hb3⟩
        case measure => simp [intOf]; omega
      · rw [hp] at hdt
        rw [show pieceR (p.1, p.2) = pieceR p from rfl, hp] at hR
        have HR := Lib.hid hR
        have HDT := Lib.hid hdt
        clear hR hdt hp
        go_wp2_with fail
        refine (HR.out _ hfk).mono ?_
        rintro e w2 ⟨rfl, hb2⟩
        have HW2 := Lib.hid (HW.out.below (Below_of_alloc hb2))
        have HB2 := Lib.hid (Below_then HB.out (Below_of_alloc hb2) (Nat.le_refl _))
        clear hb2
        go_wp2
        go_roundw
        case rel => exact ⟨k + 1, acc, by omega, by go_num, by omega, by show _ = _; rw [HDT.out, ← hh.out]; simp, HW2.out, HB2.out⟩
        case measure => simp [intOf]; omega
    · go_wp2
      go_ret
      refine ⟨_, rfl, ?_, hb⟩
      rw [← List.take_of_length_le (l := l) (i := k) (by omega), ← hh.out]; exact hown
set_option maxHeartbeats 4000000 in
set_option maxRecDepth 100000 in
theorem sDamagedPrints_any (A : Option Addr) (c : Nat) (l : List Pc) (w : World) (hs : Sl w encP 2 A l) (hl : l.length ≤ 16777216) (hf : FitP l) :
    Calls Try.prog 26 #[.slice A l.length c] w (OwnRes 3 1 encI (damaged l) w) := by
  have HS := Lib.hid hs
  have HF := Lib.hid hf
  clear hs hf
  go_enter Try.func26, Try.ntmps26
  go_wp2
  go_loopw [3, 4] (fun v i wr => ∃ (k : Nat) (acc : List Int), k ≤ l.length ∧ i = .int .i64 k ∧ acc.length ≤ k ∧ Hid (acc = damaged (l.take k)) ∧ Own wr w.heap.size 3 1 encI v acc ∧ Below w.heap.size w wr) (fun _ i _ => l.length - (intOf i).toNat)
  case atStart => exact ⟨0, [], Nat.zero_le _, rfl, Nat.le_refl _, rfl, Own.made (Nat.le_refl _), (Below.refl _ _).alloc (Nat.le_refl _) _⟩
  case round =>
    obtain ⟨k, acc, hk, rfl, hak, hh, hown, hb⟩ := hrel
    by_cases hlt : k < l.length
    · obtain ⟨b, o, rfl, hc0, hc1⟩ := (HS.out.below hb).getP hlt
      have hfk := HF.out.at hlt
      have hdt := damaged_take hlt
      have hR := sPieceRight_any l[k].1 l[k].2
      have HB := Lib.hid hb
      have HW := Lib.hid hown
      clear hb hown
      generalize l[k] = p at *
      cases hp : pieceR p
      · rw [hp] at hdt
        rw [show pieceR (p.1, p.2) = pieceR p from rfl, hp] at hR
        have HR := Lib.hid hR
        have HDT := Lib.hid hdt
        clear hR hdt hp
        go_wp2_with fail
        refine (HR.out _ hfk).mono ?_
        rintro e w2 ⟨rfl, hb2⟩
        have hq0 := Below_cells hb2 _ _ _ hc0
        have HW2 := Lib.hid (HW.out.below hb2)
        have HB2 := Lib.hid (Below_then HB.out hb2 (Nat.le_refl _))
        clear hb2 hc0 hc1
        go_wp2_with (at_builtin; refine app_int rfl rfl rfl rfl HW2.out HB2.out (by omega) ?_; intro v1 w3 hown3 hb3)
        go_roundw
        case rel => exact ⟨k + 1, _, by omega, by go_num, by simp; omega, by show _ = _; rw [HDT.out, ← hh.out]; rfl, hown3, hb3⟩
        case measure => simp [intOf]; omega
      · rw [hp] at hdt
        rw [show pieceR (p.1, p.2) = pieceR p from rfl, hp] at hR
        have HR := Lib.hid hR
        have HDT := Lib.hid hdt
        clear hR hdt hp
        go_wp2_with fail
        refine (HR.out _ hfk).mono ?_
        rintro e w2 ⟨rfl, hb2⟩
        have HW2 := Lib.hid (HW.out.below hb2)
        have HB2 := Lib.hid (Below_then HB.out hb2 (Nat.le_refl _))
        clear hb2
        go_wp2
        go_roundw
        case rel => exact ⟨k + 1, acc, by omega, by go_num, by omega, by show _ = _; rw [HDT.out, ← hh.out]; simp, HW2.out, HB2.out⟩
        case measure => simp [intOf]; omega
    · go_wp2
      go_ret
      refine ⟨_, rfl, ?_, hb⟩
      rw [← List.take_of_length_le (l := l) (i := k) (by omega), ← hh.out]; exact hown
end Go.Proofs.Ytjadgjlidejjpaa
