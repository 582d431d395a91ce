/- Versions and tags, walked. -/
import Derived.Test.YtedcgbmdfmgcgaaGreatDoorGa0
import Derived.Test.YtedcgbmdfmgcgaaGreatDoorW2
import Derived.Test.YtedcgbmdfmgcgaaGreatDoorGa1
set_option linter.unusedVariables false
namespace Go.Proofs.YtedcgbmdfmgcgaaGreatDoor
open Go.RowKit

def FitV (l : List Vr) : Prop := ∀ v ∈ l, v.2.2.size ≤ 16777216
theorem FitV.at {l : List Vr} (h : FitV l) {k : Nat} (hk : k < l.length) : l[k].2.2.size ≤ 16777216 := h _ (by simp)
theorem verAt_no {k : Nat} {v : Vr} (h : pv v.1 = false ∨ v.2.1 < -1 ∨ (k : Int) ≤ v.2.1 ∨ wordV (bs v.2.2) = false) : verAt k v = false := by
  cases hv : verAt k v
  · rfl
  · obtain ⟨h1, h2, h3, h4⟩ := verAt_iff.1 hv
    rcases h with h | h | h | h
    · rw [h] at h1; cases h1
    · omega
    · omega
    · rw [h] at h4; cases h4
theorem versV_bad {l : List Vr} {k : Nat} (hk : k < l.length) (h : verAt k l[k] = false) : versV l = false := by
  unfold versV; rw [versFrom_bad hk h, Bool.and_false]
theorem versV_long {l : List Vr} (h : ¬ l.length ≤ 12) : versV l = false := by unfold versV; rw [decide_eq_false h]; rfl
theorem versV_good {l : List Vr} {k : Nat} (hk : ¬ k < l.length) (h : versFrom 0 (l.take k) = true) (hl : l.length ≤ 12) : versV l = true := by
  unfold versV; rw [versFrom_all hk h, decide_eq_true hl]; rfl

set_option maxHeartbeats 4000000 in
set_option maxRecDepth 100000 in
theorem iVersionsValid_any (A : Option Addr) (c : Nat) (l : List Vr) (w : World) (hs : Sl w encV 3 A l) (hl : l.length ≤ 16777216) (hf : FitV l) :
    Calls Tryz.prog 39 #[.slice A l.length c] w fun e w' => e = .returned (.bool (versV l)) ∧ Below w.heap.size w w' := by
  have HS := Lib.hid hs
  have HF := Lib.hid hf
  clear hs hf
  by_cases h12 : l.length ≤ 12
  case neg =>
    rw [versV_long h12]
    go_enter Tryz.func39, Tryz.ntmps39
    go_wp2
    go_ret
    exact ⟨rfl, Below.refl _ _⟩
  go_enter Tryz.func39, Tryz.ntmps39
  go_wp2
  go_loopw [10] (fun i wr => ∃ (k : Nat), k ≤ l.length ∧ i = .int .i64 k ∧ Hid (versFrom 0 (l.take k) = true) ∧ Hid (Below w.heap.size w wr)) (fun i _ => l.length - (intOf i).toNat)
  case atStart => exact ⟨0, Nat.zero_le _, rfl, rfl, Below.refl _ _⟩
  case round =>
    obtain ⟨k, hk, rfl, hh, HB⟩ := hrel
    by_cases hlt : k < l.length
    · obtain ⟨b, o, rfl, hc0, hc1, hc2⟩ := (HS.out.below HB.out).getV hlt
      have hfk := HF.out.at hlt
      have HBAD := Lib.hid (@versV_bad l k hlt)
      have hnx := versFrom_take hlt
      rw [hh.out, Bool.true_and] at hnx
      have HNX := Lib.hid hnx
      clear hnx
      have HB2 := Lib.hid (HB.out.alloc HB.out.size (.cells #[.int .i64 l[k].1, .int .i64 l[k].2.1, .string l[k].2.2] 68))
      generalize l[k] = v at *
      cases h1 : pv v.1
      · have HE := Lib.hid (HBAD.out (verAt_no (.inl h1)))
        go_wp2_with (go_at_call 77; refine (iprintValid_any _ _).mono ?_; rintro e w' ⟨rfl, rfl⟩)
        go_ret
        exact ⟨ret_bool HE.out.symm, HB2.out⟩
      · by_cases h2 : v.2.1 < -1
        · have HE := Lib.hid (HBAD.out (verAt_no (.inr (.inl h2))))
          go_wp2_with (go_at_call 77; refine (iprintValid_any _ _).mono ?_; rintro e w' ⟨rfl, rfl⟩)
          go_ret
          exact ⟨ret_bool HE.out.symm, HB2.out⟩
        · by_cases h3 : (k : Int) ≤ v.2.1
          · have HE := Lib.hid (HBAD.out (verAt_no (.inr (.inr (.inl h3)))))
            go_wp2_with (go_at_call 77; refine (iprintValid_any _ _).mono ?_; rintro e w' ⟨rfl, rfl⟩)
            go_ret
            exact ⟨ret_bool HE.out.symm, HB2.out⟩
          · cases h4 : wordV (bs v.2.2)
            · have HE := Lib.hid (HBAD.out (verAt_no (.inr (.inr (.inr h4)))))
              go_wp2_with (first | (go_at_call 77; refine (iprintValid_any _ _).mono ?_; rintro e w' ⟨rfl, rfl⟩) | (go_at_call 38; refine (iWordValid_any _ _ hfk).mono ?_; rintro e w' ⟨rfl, rfl⟩))
              go_ret
              exact ⟨ret_bool HE.out.symm, HB2.out⟩
            · have HE := Lib.hid (HNX.out.trans (verAt_iff.2 ⟨h1, by omega, by omega, h4⟩))
              go_wp2_with (first | (go_at_call 77; refine (iprintValid_any _ _).mono ?_; rintro e w' ⟨rfl, rfl⟩) | (go_at_call 38; refine (iWordValid_any _ _ hfk).mono ?_; rintro e w' ⟨rfl, rfl⟩))
              go_roundw
              case rel => exact ⟨k + 1, by omega, by go_num, HE.out, HB2.out⟩
              case measure => simp [intOf]; omega
    · have HE := Lib.hid (versV_good hlt hh.out h12)
      go_wp2
      go_ret
      exact ⟨ret_bool HE.out.symm, HB.out⟩

/-! ### prints of lists -/
def prFold (l : List Int) (k : Nat) : Int := (l.take k).foldl prPair 5
theorem prFold_succ {l : List Int} {k : Nat} (h : k < l.length) : prFold l (k + 1) = prPair (prFold l k) l[k] := by
  unfold prFold; rw [List.take_succ_eq_append_getElem h, List.foldl_append]; rfl
theorem prFold_pv {l : List Int} (h : l.all pv = true) : ∀ k, k ≤ l.length → pv (prFold l k) = true
  | 0, _ => (by show pv 5 = true; decide)
  | k + 1, hk => by rw [prFold_succ (by omega)]; exact prPair_pv (prFold_pv h k (by omega)) (List.all_eq_true.1 h _ (by simp))
theorem prList_ok {l : List Int} (hl : l.length ≤ 20) (h : l.all pv = true) {k : Nat} (hk : ¬ k < l.length) : prList l = prFold l k := by
  unfold prList prFold; rw [if_pos ⟨hl, h⟩, List.take_of_length_le (by omega)]
theorem prList_bad {l : List Int} (h : ¬ l.length ≤ 20 ∨ l.all pv = false) : prList l = -1 := by
  unfold prList; rw [if_neg]; rintro ⟨h1, h2⟩; rcases h with h | h
  · exact h h1
  · rw [h] at h2; cases h2
/-! ### tags -/
def zeroT : Tg := (⟨#[]⟩, 0, 0, 0)
def mkT (l : List Vr) (name : ByteArray) (n : Int) : Tg := (makeTag l name n).getD zeroT
def mkOk (l : List Vr) (name : ByteArray) (n : Int) : Bool := (makeTag l name n).isSome
abbrev tgV (t : Tg) : Value := .agg #[.string t.1, .int .i64 t.2.1, .int .i64 t.2.2.1, .int .i64 t.2.2.2]
def MkR (l : List Vr) (name : ByteArray) (n : Int) (w : World) (e : Ending) (w' : World) : Prop :=
  e = .returned (.tuple #[tgV (mkT l name n), .bool (mkOk l name n)]) ∧ Below w.heap.size w w'
theorem MkR.no {l : List Vr} {name : ByteArray} {n : Int} (h : wordV (bs name) = false ∨ versV l = false ∨ n < 0 ∨ (l.length : Int) ≤ n) {w w' : World} (hb : Below w.heap.size w w') : MkR l name n w (.returned (.tuple #[.agg #[.string ⟨#[]⟩, .int .i64 0, .int .i64 0, .int .i64 0], .bool false])) w' := by
  have e := makeTag_none h
  exact ⟨by unfold mkT mkOk; rw [e]; rfl, hb⟩
theorem MkR.yes {l : List Vr} {name : ByteArray} {k : Nat} (hw : wordV (bs name) = true) (hv : versV l = true) (hk : k < l.length) {w w' : World} (hb : Below w.heap.size w w') : MkR l name k w (.returned (.tuple #[.agg #[.string name, .int .i64 (k : Int), .int .i64 l[k].1, .int .i64 (prList [prOf (bs name), (k : Int), l[k].1])], .bool true])) w' := by
  have e := makeTag_ok hw hv hk
  exact ⟨by unfold mkT mkOk; rw [e]; rfl, hb⟩
/-- The variable of a result that is a tag. -/
theorem tag_var {w w1 : World} {cs : Array Value} {E : TypeId} (hb : Below (w.alloc (.cells cs E)).heap.size (w.alloc (.cells cs E)) w1) : w1.heap[w.heap.size]? = some (.cells cs E (0, 0)) :=
  (hb.block _ (by simp)).trans (heap_alloc_new w _)

theorem Sl.new3 {w : World} {a b c : Int} {E : TypeId} : Sl (w.alloc (.cells #[.int .i64 a, .int .i64 b, .int .i64 c] E)) encI 1 (some ⟨w.heap.size, 0, none⟩) [a, b, c] := by
  intro _
  refine ⟨w.heap.size, 0, rfl, fun j u hu => ?_⟩
  rw [cell_of_row _ _ _ _ E (0, 0) (heap_alloc_new w _)]
  simpa [flat, encI] using hu
end Go.Proofs.YtedcgbmdfmgcgaaGreatDoor
