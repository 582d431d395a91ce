/- Spots: answers, and whether one is right. -/
import Derived.Test.YthbdcmaloojngaaPr
import Derived.Test.YthbdcmaloojngaaSp
import Derived.Test.YthbdcmaloojngaaL1
import Derived.Test.YthbdcmaloojngaaFar
import Derived.Deep.RegionHeld3
set_option linter.unusedVariables false
namespace Go.Proofs.Ythbdcmaloojngaa
open Go.RowKit

def ansOk (ss : List ByteArray) (n : Int) : Bool := leavesV (prints ss) && decide (0 ≤ n ∧ n < ss.length)
def ansT (ss : List ByteArray) (n : Int) : ByteArray := if ansOk ss n then ss.getD n.toNat ⟨#[]⟩ else ⟨#[]⟩
def ansP (ss : List ByteArray) (n : Int) : List Int := if ansOk ss n then treeProof (prints ss) n else []
theorem ansOk_iff {ss : List ByteArray} {n : Int} : ansOk ss n = true ↔ leavesV (prints ss) = true ∧ 0 ≤ n ∧ n < ss.length := by
  unfold ansOk; rw [Bool.and_eq_true, decide_eq_true_eq]
theorem ansP_len (ss : List ByteArray) (n : Int) : (ansP ss n).length ≤ 5 := by
  unfold ansP; split
  · exact treeProof_len _ _
  · simp
def AnsR (ss : List ByteArray) (n : Int) (w : World) (e : Ending) (w' : World) : Prop :=
  ∃ v, e = .returned (.tuple #[.string (ansT ss n), v, .bool (ansOk ss n)]) ∧ Own w' w.heap.size 3 1 encI v (ansP ss n) ∧ Below w.heap.size w w'
theorem AnsR.no {ss : List ByteArray} {n : Int} (h : ansOk ss n = false) {w w' : World} {v : Value} (ho : Own w' w.heap.size 3 1 encI v []) (hb : Below w.heap.size w w') : AnsR ss n w (.returned (.tuple #[.string ⟨#[]⟩, v, .bool false])) w' := by
  refine ⟨v, ?_, ?_, hb⟩
  · unfold ansT; rw [h]; rfl
  · unfold ansP; rw [h]; exact ho
theorem ansT_at {ss : List ByteArray} {N : Nat} (h : ansOk ss N = true) (hN : N < ss.length) : ansT ss N = ss[N] := by
  unfold ansT; rw [if_pos h, Int.toNat_natCast, List.getD_eq_getElem?_getD, List.getElem?_eq_getElem hN]; rfl
theorem AnsR.yes {ss : List ByteArray} {N : Nat} (h : ansOk ss N = true) (hN : N < ss.length) {w w' : World} {v : Value} (ho : Own w' w.heap.size 3 1 encI v (treeProof (prints ss) N)) (hb : Below w.heap.size w w') : AnsR ss N w (.returned (.tuple #[.string ss[N], v, .bool true])) w' := by
  refine ⟨v, ?_, ?_, hb⟩
  · rw [ansT_at h hN, h]
  · unfold ansP; rw [if_pos h]; exact ho

set_option maxHeartbeats 4000000 in
set_option maxRecDepth 100000 in
theorem iSpotAnswer_any (A : Option Addr) (c : Nat) (ss : List ByteArray) (n : Int) (w : World) (hs : Sl w encS 1 A ss) (hl : ss.length ≤ 16777216) (hf : Fit ss) :
    Calls Try.prog 15 #[.slice A ss.length c, .int .i64 n] w (AnsR ss n w) := by
  have HS := Lib.hid hs
  have HF := Lib.hid hf
  clear hs hf
  have hcut : leavesV (if ss.length ≤ 16 then prints ss else []) = leavesV (prints ss) := by
    split
    · rfl
    · rw [leavesV_len (l := prints ss) (by rw [prints_len]; omega)]; rfl
  have hpl : leavesV (prints ss) = true → (if ss.length ≤ 16 then prints ss else []) = prints ss := fun h => by
    have := (leavesV_iff.1 h).2.1; rw [prints_len] at this; rw [if_pos this]
  have hml : (if ss.length ≤ 16 then prints ss else []).length ≤ 16 := by
    split
    · rw [prints_len]; assumption
    · simp
  have hP := iprintsOf_any A c ss w HS.out hl HF.out
  generalize (if ss.length ≤ 16 then prints ss else []) = m at *
  have HP := Lib.hid hP
  have HPL := Lib.hid hpl
  clear hP hpl
  go_enter Try.func15, Try.ntmps15
  go_wp2_with fail
  refine HP.out.mono ?_
  rintro e w1 ⟨v, rfl, hown, hb1⟩
  obtain ⟨A1, c1, rfl, _, hs1, _⟩ := hown.sl
  have HS1 := Lib.hid hs1
  have HB1 := Lib.hid hb1
  have HSS := Lib.hid (HS.out.below hb1)
  clear hown hs1 hb1 HS
  have hiff := @ansOk_iff ss n
  rw [← hcut] at hiff
  have hok : ansOk ss n = (leavesV m && decide (0 ≤ n ∧ n < ss.length)) := by unfold ansOk; rw [hcut]
  have HIFF := Lib.hid hok
  have HCUT := Lib.hid hcut
  clear hiff hok hcut
  cases hv : leavesV m
  · have HN : Hid (ansOk ss n = false) := by show _ = _; rw [HIFF.out, hv]; rfl
    go_wp2_with (go_at_call 37; refine (ileavesValid_any _ _ _ _ HS1.out (by omega)).mono ?_; rintro e w' ⟨rfl, rfl⟩)
    go_ret3
    exact AnsR.no HN.out Own.nil HB1.out
  · by_cases h0 : n < 0
    · have HN : Hid (ansOk ss n = false) := by show _ = _; rw [HIFF.out]; simp; omega
      go_wp2_with (go_at_call 37; refine (ileavesValid_any _ _ _ _ HS1.out (by omega)).mono ?_; rintro e w' ⟨rfl, rfl⟩)
      go_ret3
      exact AnsR.no HN.out Own.nil HB1.out
    · by_cases h1 : (ss.length : Int) ≤ n
      · have HN : Hid (ansOk ss n = false) := by show _ = _; rw [HIFF.out]; simp; omega
        go_wp2_with (go_at_call 37; refine (ileavesValid_any _ _ _ _ HS1.out (by omega)).mono ?_; rintro e w' ⟨rfl, rfl⟩)
        go_ret3
        exact AnsR.no HN.out Own.nil HB1.out
      · obtain ⟨N, rfl⟩ := Int.eq_ofNat_of_zero_le (show 0 ≤ n by omega)
        have hN : N < ss.length := by omega
        have g1 : (0 : Int) ≤ (N : Int) := by omega
        have g2 : (N : Int) < (ss.length : Int) := by omega
        have HN : Hid (ansOk ss N = true) := by show _ = _; rw [HIFF.out, hv]; simp; omega
        have hmp := HPL.out (by rw [← HCUT.out]; exact hv)
        obtain ⟨b, o, rfl, hc⟩ := HSS.out.getS hN
        have HM := Lib.hid hmp
        clear hmp
        go_wp2_with (go_at_call 37; refine (ileavesValid_any _ _ _ _ HS1.out (by omega)).mono ?_; rintro e w' ⟨rfl, rfl⟩)
        go_region_held3 (fun w' => w'.cell? ⟨b, o + N, none⟩ = some (.string ss[N])) (first | assumption | exact Below_cells HB2.out _ _ _ hc)
          ((go_at_call 38; refine (iTreeProof_any _ _ _ _ _ (by exact HS1.out) (by omega)).mono ?_; rintro e w2 ⟨v2, rfl, hown2, hb2⟩; have HW2 := Lib.hid hown2; have HB2 := Lib.hid (Below_drew hb2); clear hown2 hb2))
        all_goals
          go_wp2
          go_ret3
          have ho := HW2.out
          rw [HM.out] at ho
          exact AnsR.yes HN.out hN (ho.mono HB1.out.size) (Below_then HB1.out HB2.out (Nat.le_refl _))
set_option maxHeartbeats 4000000 in
set_option maxRecDepth 100000 in
theorem sSpotAnswer_any (A : Option Addr) (c : Nat) (ss : List ByteArray) (n : Int) (w : World) (hs : Sl w encS 1 A ss) (hl : ss.length ≤ 16777216) (hf : Fit ss) :
    Calls Try.prog 22 #[.slice A ss.length c, .int .i64 n] w (AnsR ss n w) := by
  have HS := Lib.hid hs
  have HF := Lib.hid hf
  clear hs hf
  have hR := sSpotRoot_any A c ss w HS.out hl HF.out
  have hneg : spotRoot ss < 0 → leavesV (prints ss) = false := treeRoot_neg
  have hnon : ¬ spotRoot ss < 0 → leavesV (prints ss) = true := treeRoot_nonneg
  generalize spotRoot ss = r at *
  have HR := Lib.hid hR
  clear hR
  have hok : ansOk ss n = (leavesV (prints ss) && decide (0 ≤ n ∧ n < ss.length)) := rfl
  have HIFF := Lib.hid hok
  clear hok
  by_cases hr : r < 0
  · have HN : Hid (ansOk ss n = false) := by show _ = _; rw [HIFF.out, hneg hr]; rfl
    clear hneg hnon
    go_enter Try.func22, Try.ntmps22
    go_wp2_with (go_at_call 18; refine HR.out.mono ?_; rintro e w1 ⟨rfl, hb1⟩; have HB1 := Lib.hid hb1; clear hb1)
    go_ret3
    exact AnsR.no HN.out ((Own.made (Nat.le_refl _)).mono HB1.out.size) (HB1.out.alloc HB1.out.size _)
  · have hv := hnon hr
    clear hneg hnon
    cases hi : inI n 0 ((ss.length : Int) - 1)
    · have HN : Hid (ansOk ss n = false) := by show _ = _; rw [HIFF.out, hv]; simp [inI] at hi ⊢; omega
      clear hv
      go_enter Try.func22, Try.ntmps22
      go_wp2_with (first | (go_at_call 18; refine HR.out.mono ?_; rintro e w1 ⟨rfl, hb1⟩; have HB1 := Lib.hid hb1; clear hb1) | (go_at_call 51; refine (sl1In_any _ _ _ _).mono ?_; rintro e w' ⟨rfl, rfl⟩))
      go_ret3
      exact AnsR.no HN.out ((Own.made (Nat.le_refl _)).mono HB1.out.size) (HB1.out.alloc HB1.out.size _)
    · have hi2 : 0 ≤ n ∧ n ≤ (ss.length : Int) - 1 := by simpa [inI] using hi
      obtain ⟨N, rfl⟩ := Int.eq_ofNat_of_zero_le hi2.1
      have hN : N < ss.length := by omega
      have g1 : (0 : Int) ≤ (N : Int) := by omega
      have g2 : (N : Int) < (ss.length : Int) := by omega
      have HN : Hid (ansOk ss N = true) := by show _ = _; rw [HIFF.out, hv]; simp; omega
      clear hv hi2
      obtain ⟨b, o, rfl, hc⟩ := HS.out.getS hN
      go_enter Try.func22, Try.ntmps22
      go_wp2_with (first | (go_at_call 18; refine HR.out.mono ?_; rintro e w1 ⟨rfl, hb1⟩; have HB1 := Lib.hid hb1; (replace hc := Below_cells hb1 _ _ _ hc); clear hb1) | (go_at_call 51; refine (sl1In_any _ _ _ _).mono ?_; rintro e w' ⟨rfl, rfl⟩))
      have HS1 := Lib.hid (HS.out.below HB1.out)
      have hpl := prints_len ss
      have HPL := Lib.hid hpl
      clear hpl
      go_region_held3 (fun w' => w'.cell? ⟨b, o + N, none⟩ = some (.string ss[N])) (first | assumption | exact Below_cells HB3.out _ _ _ hc2 | exact Below_cells HB2.out _ _ _ hc)
        (first
          | (go_at_call 43; refine (sl28Prints_any _ _ _ _ (by exact HS1.out) hl HF.out).mono ?_; rintro e w2 ⟨v2, rfl, hown2, hb2⟩; obtain ⟨A2, c2, rfl, _, hs2, _⟩ := hown2.sl; have HW2 := Lib.hid hs2; have HB2 := Lib.hid (Below_drew hb2); have hc2 := Below_cells hb2 _ _ _ hc; clear hown2 hb2 hs2)
          | (go_at_call 52; refine (sTreeProof_any _ _ _ _ _ (by exact HW2.out) (by have := HPL.out; omega)).mono ?_; rintro e w3 ⟨v3, rfl, hown3, hb3⟩; have HW3 := Lib.hid hown3; have HB3 := Lib.hid hb3; clear hown3 hb3))
      all_goals
        go_wp2
        go_ret3
        exact AnsR.yes HN.out hN (HW3.out.mono (Nat.le_trans HB1.out.size HB2.out.size)) (Below_then (Below_then HB1.out HB2.out (Nat.le_refl _)) HB3.out (Nat.le_refl _))

def spotR (root many seed : Int) (t : ByteArray) (l : List Int) : Bool := decide (0 ≤ spotOf seed many) && (textV (bs t) && (decide (0 ≤ root) && (proofRoot (prOf (bs t)) (spotOf seed many) many l == root)))
set_option maxHeartbeats 4000000 in
set_option maxRecDepth 100000 in
theorem iSpotRight_any (root many seed : Int) (t : ByteArray) (A : Option Addr) (c : Nat) (l : List Int) (w : World) (hs : Sl w encI 1 A l) (hl : l.length ≤ 16777216) (ht : t.size ≤ 16777216) :
    Calls Try.prog 17 #[.int .i64 root, .int .i64 many, .int .i64 seed, .string t, .slice A l.length c] w fun e w' => e = .returned (.bool (spotR root many seed t l)) ∧ w = w' := by
  have HS := Lib.hid hs
  clear hs
  have hO := iSpotOf_any seed many
  unfold spotR
  generalize spotOf seed many = n at *
  have HO := Lib.hid hO
  clear hO
  have hP := iPrintOf_any t
  have hT := iTextValid_any t
  have hR := fun q w (hs : Sl w encI 1 A l) => iProofRoot_any A c l q n many w hs hl
  generalize prOf (bs t) = q at *
  replace hR := hR q
  generalize proofRoot q n many l = top at *
  have HP := Lib.hid (fun w => hP w ht)
  have HR := Lib.hid hR
  clear hP hR
  by_cases hn : n < 0
  · have e : decide (0 ≤ n) = false := decide_eq_false (by omega)
    rw [e, Bool.false_and]
    clear e
    go_enter Try.func17, Try.ntmps17
    go_wp2_with (go_at_call 16; refine (HO.out _).mono ?_; rintro e w' ⟨rfl, rfl⟩)
    go_ret
    exact ⟨rfl, rfl⟩
  · have e : decide (0 ≤ n) = true := decide_eq_true (by omega)
    rw [e, Bool.true_and]
    clear e
    cases htv : textV (bs t)
    · rw [htv] at hT
      have HT := Lib.hid (fun w => hT w ht)
      clear hT htv
      rw [Bool.false_and]
      go_enter Try.func17, Try.ntmps17
      go_wp2_with (first | (go_at_call 16; refine (HO.out _).mono ?_; rintro e w' ⟨rfl, rfl⟩) | (go_at_call 41; refine (HT.out _).mono ?_; rintro e w' ⟨rfl, rfl⟩))
      go_ret
      exact ⟨rfl, rfl⟩
    · rw [htv] at hT
      have HT := Lib.hid (fun w => hT w ht)
      clear hT htv
      rw [Bool.true_and]
      by_cases h0 : 0 ≤ top
      · cases he : (top == root)
        · rw [Bool.and_false]
          go_enter Try.func17, Try.ntmps17
          go_wp2_with (first | (go_at_call 16; refine (HO.out _).mono ?_; rintro e w' ⟨rfl, rfl⟩) | (go_at_call 41; refine (HT.out _).mono ?_; rintro e w' ⟨rfl, rfl⟩) | (go_at_call 25; refine (HP.out _).mono ?_; rintro e w' ⟨rfl, rfl⟩) | (go_at_call 24; refine (HR.out _ HS.out).mono ?_; rintro e w' ⟨rfl, rfl⟩))
          go_ret
          exact ⟨rfl, rfl⟩
        · have e : decide (0 ≤ root) = true := decide_eq_true (by have := beq_iff_eq.1 he; omega)
          rw [e, Bool.true_and]
          clear e
          go_enter Try.func17, Try.ntmps17
          go_wp2_with (first | (go_at_call 16; refine (HO.out _).mono ?_; rintro e w' ⟨rfl, rfl⟩) | (go_at_call 41; refine (HT.out _).mono ?_; rintro e w' ⟨rfl, rfl⟩) | (go_at_call 25; refine (HP.out _).mono ?_; rintro e w' ⟨rfl, rfl⟩) | (go_at_call 24; refine (HR.out _ HS.out).mono ?_; rintro e w' ⟨rfl, rfl⟩))
          go_ret
          exact ⟨rfl, rfl⟩
      · have e : (decide (0 ≤ root) && (top == root)) = false := by
          rw [Bool.and_eq_false_iff]
          by_cases h : 0 ≤ root
          · right; exact beq_eq_false_iff_ne.2 (by omega)
          · left; exact decide_eq_false h
        rw [e]
        clear e
        go_enter Try.func17, Try.ntmps17
        go_wp2_with (first | (go_at_call 16; refine (HO.out _).mono ?_; rintro e w' ⟨rfl, rfl⟩) | (go_at_call 41; refine (HT.out _).mono ?_; rintro e w' ⟨rfl, rfl⟩) | (go_at_call 25; refine (HP.out _).mono ?_; rintro e w' ⟨rfl, rfl⟩) | (go_at_call 24; refine (HR.out _ HS.out).mono ?_; rintro e w' ⟨rfl, rfl⟩))
        go_ret
        exact ⟨rfl, rfl⟩
set_option maxHeartbeats 4000000 in
set_option maxRecDepth 100000 in
theorem sSpotRight_any (root many seed : Int) (t : ByteArray) (A : Option Addr) (c : Nat) (l : List Int) (w : World) (hs : Sl w encI 1 A l) (hl : l.length ≤ 16777216) (ht : t.size ≤ 16777216) :
    Calls Try.prog 20 #[.int .i64 root, .int .i64 many, .int .i64 seed, .string t, .slice A l.length c] w fun e w' => e = .returned (.bool (spotR root many seed t l)) ∧ w = w' := by
  have HS := Lib.hid hs
  clear hs
  have hO := sSpotOf_any seed many
  unfold spotR
  generalize spotOf seed many = n at *
  have HO := Lib.hid hO
  clear hO
  have hP := sPrintOf_any t
  have hT := sTextValid_any t
  have hR := fun q w (hs : Sl w encI 1 A l) => sProofRoot_any A c l q n many w hs hl
  generalize prOf (bs t) = q at *
  replace hR := hR q
  generalize proofRoot q n many l = top at *
  have HP := Lib.hid (fun w => hP w ht)
  have HR := Lib.hid hR
  clear hP hR
  by_cases hn : n < 0
  · have e : decide (0 ≤ n) = false := decide_eq_false (by omega)
    rw [e, Bool.false_and]
    clear e
    go_enter Try.func20, Try.ntmps20
    go_wp2_with (go_at_call 45; refine (HO.out _).mono ?_; rintro e w' ⟨rfl, rfl⟩)
    go_ret
    exact ⟨rfl, rfl⟩
  · have e : decide (0 ≤ n) = true := decide_eq_true (by omega)
    rw [e, Bool.true_and]
    clear e
    cases htv : textV (bs t)
    · rw [htv] at hT
      have HT := Lib.hid (fun w => hT w ht)
      clear hT htv
      rw [Bool.false_and]
      go_enter Try.func20, Try.ntmps20
      go_wp2_with (first | (go_at_call 45; refine (HO.out _).mono ?_; rintro e w' ⟨rfl, rfl⟩) | (go_at_call 48; refine (HT.out _).mono ?_; rintro e w' ⟨rfl, rfl⟩))
      go_ret
      exact ⟨rfl, rfl⟩
    · rw [htv] at hT
      have HT := Lib.hid (fun w => hT w ht)
      clear hT htv
      rw [Bool.true_and]
      by_cases h0 : root < 0
      · have e : decide (0 ≤ root) = false := decide_eq_false (by omega)
        rw [e, Bool.false_and]
        clear e
        go_enter Try.func20, Try.ntmps20
        go_wp2_with (first | (go_at_call 45; refine (HO.out _).mono ?_; rintro e w' ⟨rfl, rfl⟩) | (go_at_call 48; refine (HT.out _).mono ?_; rintro e w' ⟨rfl, rfl⟩))
        go_ret
        exact ⟨rfl, rfl⟩
      · have e : decide (0 ≤ root) = true := decide_eq_true (by omega)
        rw [e, Bool.true_and]
        clear e
        go_enter Try.func20, Try.ntmps20
        go_wp2_with (first | (go_at_call 45; refine (HO.out _).mono ?_; rintro e w' ⟨rfl, rfl⟩) | (go_at_call 48; refine (HT.out _).mono ?_; rintro e w' ⟨rfl, rfl⟩) | (go_at_call 50; refine (HP.out _).mono ?_; rintro e w' ⟨rfl, rfl⟩) | (go_at_call 49; refine (HR.out _ HS.out).mono ?_; rintro e w' ⟨rfl, rfl⟩))
        go_ret
        exact ⟨rfl, rfl⟩
end Go.Proofs.Ythbdcmaloojngaa
