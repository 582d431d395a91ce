/- Versions and tags, walked. -/
import Derived.Test.YtbefbenihahdnaaVp
import Derived.Test.YtbefbenihahdnaaW2
import Derived.Test.YtbefbenihahdnaaFi2
import Derived.Test.YtbefbenihahdnaaAp2
import Derived.Test.YtbefbenihahdnaaNe
set_option linter.unusedVariables false
namespace Go.Proofs.Ytbefbenihahdnaa
open Go.RowKit

def FitV (l : List Vr) : Prop := ∀ v ∈ l, v.2.2.size ≤ 16777216
theorem FitV.at {l : List Vr} (h : FitV l) {k : Nat} (hk : k < l.length) : l[k].2.2.size ≤ 16777216 := h _ (by simp)
theorem verAt_no {k : Nat} {v : Vr} (h : pv v.1 = false ∨ v.2.1 < -1 ∨ (k : Int) ≤ v.2.1 ∨ wordV (bs v.2.2) = false) : verAt k v = false := by
  cases hv : verAt k v
  · rfl
  · obtain ⟨h1, h2, h3, h4⟩ := verAt_iff.1 hv
    rcases h with h | h | h | h
    · rw [h] at h1; cases h1
    · omega
    · omega
    · rw [h] at h4; cases h4
theorem versV_bad {l : List Vr} {k : Nat} (hk : k < l.length) (h : verAt k l[k] = false) : versV l = false := by
  unfold versV; rw [versFrom_bad hk h, Bool.and_false]
theorem versV_long {l : List Vr} (h : ¬ l.length ≤ 12) : versV l = false := by unfold versV; rw [decide_eq_false h]; rfl
theorem versV_good {l : List Vr} {k : Nat} (hk : ¬ k < l.length) (h : versFrom 0 (l.take k) = true) (hl : l.length ≤ 12) : versV l = true := by
  unfold versV; rw [versFrom_all hk h, decide_eq_true hl]; rfl

set_option maxHeartbeats 4000000 in
set_option maxRecDepth 100000 in
theorem iVersionsValid_any (A : Option Addr) (c : Nat) (l : List Vr) (w : World) (hs : Sl w encV 3 A l) (hl : l.length ≤ 16777216) (hf : FitV l) :
    Calls Try.prog 150 #[.slice A l.length c] w fun e w' => e = .returned (.bool (versV l)) ∧ Below w.heap.size w w' := by
  have HS := Lib.hid hs
  have HF := Lib.hid hf
  clear hs hf
  by_cases h12 : l.length ≤ 12
  case neg =>
    rw [versV_long h12]
    go_enter Try.func150, Try.ntmps150
    go_wp2
    go_ret
    exact ⟨rfl, Below.refl _ _⟩
  go_enter Try.func150, Try.ntmps150
  go_wp2
  go_loopw [10] (fun i wr => ∃ (k : Nat), k ≤ l.length ∧ i = .int .i64 k ∧ Hid (versFrom 0 (l.take k) = true) ∧ Hid (Below w.heap.size w wr)) (fun i _ => l.length - (intOf i).toNat)
  case atStart => exact ⟨0, Nat.zero_le _, rfl, rfl, Below.refl _ _⟩
  case round =>
    obtain ⟨k, hk, rfl, hh, HB⟩ := hrel
    by_cases hlt : k < l.length
    · obtain ⟨b, o, rfl, hc0, hc1, hc2⟩ := (HS.out.below HB.out).getV hlt
      have hfk := HF.out.at hlt
      have HBAD := Lib.hid (@versV_bad l k hlt)
      have hnx := versFrom_take hlt
      rw [hh.out, Bool.true_and] at hnx
      have HNX := Lib.hid hnx
      clear hnx
      have HB2 := Lib.hid (HB.out.alloc HB.out.size (.cells #[.int .i64 l[k].1, .int .i64 l[k].2.1, .string l[k].2.2] 82))
      generalize l[k] = v at *
      cases h1 : pv v.1
      · have HE := Lib.hid (HBAD.out (verAt_no (.inl h1)))
        go_wp2_with (go_at_call 115; refine (iprintValid_any _ _).mono ?_; rintro e w' ⟨rfl, rfl⟩)
        go_ret
        exact ⟨ret_bool HE.out.symm, HB2.out⟩
      · by_cases h2 : v.2.1 < -1
        · have HE := Lib.hid (HBAD.out (verAt_no (.inr (.inl h2))))
          go_wp2_with (go_at_call 115; refine (iprintValid_any _ _).mono ?_; rintro e w' ⟨rfl, rfl⟩)
          go_ret
          exact ⟨ret_bool HE.out.symm, HB2.out⟩
        · by_cases h3 : (k : Int) ≤ v.2.1
          · have HE := Lib.hid (HBAD.out (verAt_no (.inr (.inr (.inl h3)))))
            go_wp2_with (go_at_call 115; refine (iprintValid_any _ _).mono ?_; rintro e w' ⟨rfl, rfl⟩)
            go_ret
            exact ⟨ret_bool HE.out.symm, HB2.out⟩
          · cases h4 : wordV (bs v.2.2)
            · have HE := Lib.hid (HBAD.out (verAt_no (.inr (.inr (.inr h4)))))
              go_wp2_with (first | (go_at_call 115; refine (iprintValid_any _ _).mono ?_; rintro e w' ⟨rfl, rfl⟩) | (go_at_call 123; refine (iWordValid_any _ _ hfk).mono ?_; rintro e w' ⟨rfl, rfl⟩))
              go_ret
              exact ⟨ret_bool HE.out.symm, HB2.out⟩
            · have HE := Lib.hid (HNX.out.trans (verAt_iff.2 ⟨h1, by omega, by omega, h4⟩))
              go_wp2_with (first | (go_at_call 115; refine (iprintValid_any _ _).mono ?_; rintro e w' ⟨rfl, rfl⟩) | (go_at_call 123; refine (iWordValid_any _ _ hfk).mono ?_; rintro e w' ⟨rfl, rfl⟩))
              go_roundw
              case rel => exact ⟨k + 1, by omega, by go_num, HE.out, HB2.out⟩
              case measure => simp [intOf]; omega
    · have HE := Lib.hid (versV_good hlt hh.out h12)
      go_wp2
      go_ret
      exact ⟨ret_bool HE.out.symm, HB.out⟩
set_option maxHeartbeats 4000000 in
set_option maxRecDepth 100000 in
theorem sVersionsValid_any (A : Option Addr) (c : Nat) (l : List Vr) (w : World) (hs : Sl w encV 3 A l) (hl : l.length ≤ 16777216) (hf : FitV l) :
    Calls Try.prog 152 #[.slice A l.length c] w fun e w' => e = .returned (.bool (versV l)) ∧ w = w' := by
  have HS := Lib.hid hs
  have HF := Lib.hid hf
  clear hs hf
  go_enter Try.func152, Try.ntmps152
  go_wp2
  go_loop [3] (fun i => ∃ (k : Nat), k ≤ l.length ∧ i = .int .i64 k ∧ Hid (versFrom 0 (l.take k) = true)) (fun i => l.length - (intOf i).toNat)
  case atStart => exact ⟨0, Nat.zero_le _, rfl, rfl⟩
  case round =>
    obtain ⟨k, hk, rfl, hh⟩ := hrel
    by_cases hlt : k < l.length
    · obtain ⟨b, o, rfl, hc0, hc1, hc2⟩ := HS.out.getV hlt
      have hfk := HF.out.at hlt
      have HBAD := Lib.hid (@versV_bad l k hlt)
      have hnx := versFrom_take hlt
      rw [hh.out, Bool.true_and] at hnx
      have HNX := Lib.hid hnx
      clear hnx
      generalize l[k] = v at *
      cases h1 : inI v.1 0 16777212
      · have HE := Lib.hid (HBAD.out (verAt_no (.inl h1)))
        go_wp2_with (go_at_call 113; refine (sl1In_any _ _ _ _).mono ?_; rintro e w' ⟨rfl, rfl⟩)
        go_ret
        exact ⟨ret_bool HE.out.symm, rfl⟩
      · cases h2 : inI v.2.1 (-1) ((k : Int) - 1)
        · have HE := Lib.hid (HBAD.out (verAt_no (by simp only [inI, decide_eq_false_iff_not] at h2; by_cases h : v.2.1 < -1; exact .inr (.inl h); exact .inr (.inr (.inl (by omega))))))
          go_wp2_with (go_at_call 113; refine (sl1In_any _ _ _ _).mono ?_; rintro e w' ⟨rfl, rfl⟩)
          go_ret
          exact ⟨ret_bool HE.out.symm, rfl⟩
        · cases h4 : wordV (bs v.2.2)
          · have HE := Lib.hid (HBAD.out (verAt_no (.inr (.inr (.inr h4)))))
            go_wp2_with (first | (go_at_call 113; refine (sl1In_any _ _ _ _).mono ?_; rintro e w' ⟨rfl, rfl⟩) | (go_at_call 153; refine (sWordValid_any _ _ hfk).mono ?_; rintro e w' ⟨rfl, rfl⟩))
            go_ret
            exact ⟨ret_bool HE.out.symm, rfl⟩
          · have h22 : -1 ≤ v.2.1 ∧ v.2.1 ≤ (k : Int) - 1 := by simpa [inI] using h2
            have HE := Lib.hid (HNX.out.trans (verAt_iff.2 ⟨h1, by omega, by omega, h4⟩))
            clear h22
            go_wp2_with (first | (go_at_call 113; refine (sl1In_any _ _ _ _).mono ?_; rintro e w' ⟨rfl, rfl⟩) | (go_at_call 153; refine (sWordValid_any _ _ hfk).mono ?_; rintro e w' ⟨rfl, rfl⟩))
            go_round
            case rel => exact ⟨k + 1, by omega, by go_num, HE.out⟩
            case measure => simp [intOf]; omega
    · by_cases h12 : l.length ≤ 12
      · have HE := Lib.hid (versV_good hlt hh.out h12)
        go_wp2
        go_ret
        exact ⟨ret_bool (by rw [HE.out]; simp; omega), rfl⟩
      · have HE := Lib.hid (versV_long h12)
        go_wp2
        go_ret
        exact ⟨ret_bool (by rw [HE.out]; simp; omega), rfl⟩

/-! ### prints of lists -/
def prFold (l : List Int) (k : Nat) : Int := (l.take k).foldl prPair 5
theorem prFold_succ {l : List Int} {k : Nat} (h : k < l.length) : prFold l (k + 1) = prPair (prFold l k) l[k] := by
  unfold prFold; rw [List.take_succ_eq_append_getElem h, List.foldl_append]; rfl
theorem prFold_pv {l : List Int} (h : l.all pv = true) : ∀ k, k ≤ l.length → pv (prFold l k) = true
  | 0, _ => (by show pv 5 = true; decide)
  | k + 1, hk => by rw [prFold_succ (by omega)]; exact prPair_pv (prFold_pv h k (by omega)) (List.all_eq_true.1 h _ (by simp))
theorem prList_ok {l : List Int} (hl : l.length ≤ 20) (h : l.all pv = true) {k : Nat} (hk : ¬ k < l.length) : prList l = prFold l k := by
  unfold prList prFold; rw [if_pos ⟨hl, h⟩, List.take_of_length_le (by omega)]
theorem prList_bad {l : List Int} (h : ¬ l.length ≤ 20 ∨ l.all pv = false) : prList l = -1 := by
  unfold prList; rw [if_neg]; rintro ⟨h1, h2⟩; rcases h with h | h
  · exact h h1
  · rw [h] at h2; cases h2
set_option maxHeartbeats 2000000 in
set_option maxRecDepth 100000 in
theorem iPrintList_any (A : Option Addr) (c : Nat) (l : List Int) (w : World) (hs : Sl w encI 1 A l) (hl : l.length ≤ 16777216) :
    Calls Try.prog 151 #[.slice A l.length c] w fun e w' => e = .returned (.int .i64 (prList l)) ∧ w = w' := by
  have HS := Lib.hid hs
  clear hs
  by_cases h20 : l.length ≤ 20
  case neg =>
    rw [prList_bad (.inl h20)]
    go_enter Try.func151, Try.ntmps151
    go_wp2
    go_ret
    exact ⟨rfl, rfl⟩
  cases hv : l.all pv
  · rw [prList_bad (.inr hv)]
    go_enter Try.func151, Try.ntmps151
    go_wp2_with (go_at_call 134; refine (iprintsValid_any _ _ _ _ HS.out hl).mono ?_; rintro e w' ⟨rfl, rfl⟩)
    go_ret
    exact ⟨rfl, rfl⟩
  · have HV := Lib.hid hv
    go_enter Try.func151, Try.ntmps151
    go_wp2_with (go_at_call 134; refine (iprintsValid_any _ _ _ _ HS.out hl).mono ?_; rintro e w' ⟨rfl, rfl⟩)
    clear hv
    go_loop [3, 16] (fun sn si => ∃ (k : Nat) (N : Int), k ≤ l.length ∧ si = .int .i64 k ∧ sn = .int .i64 N ∧ Hid (N = prFold l k)) (fun _ si => l.length - (intOf si).toNat)
    case atStart => exact ⟨0, 5, Nat.zero_le _, rfl, rfl, rfl⟩
    case round =>
      obtain ⟨k, N, hk, rfl, rfl, hN⟩ := hrel
      by_cases hlt : k < l.length
      · obtain ⟨b, o, rfl, hc⟩ := HS.out.getI hlt
        have HN := Lib.hid (prFold_succ hlt)
        go_wp2_with (go_at_call 116; refine (iPrintPair_any _ _ _).mono ?_; rintro e w' ⟨rfl, rfl⟩)
        go_round
        case rel => exact ⟨k + 1, _, by omega, by go_num, rfl, by show _ = _; rw [HN.out, ← hN.out]⟩
        case measure => simp [intOf]; omega
      · go_wp2
        go_ret
        exact ⟨ret_int (by rw [prList_ok h20 HV.out hlt]; exact hN.out), rfl⟩
theorem prPair_neg {a b : Int} (h : pv b = false) : prPair a b = -1 := prPair_bad (.inr h)
set_option maxHeartbeats 2000000 in
set_option maxRecDepth 100000 in
theorem sPrintList_any (A : Option Addr) (c : Nat) (l : List Int) (w : World) (hs : Sl w encI 1 A l) (hl : l.length ≤ 16777216) :
    Calls Try.prog 154 #[.slice A l.length c] w fun e w' => e = .returned (.int .i64 (prList l)) ∧ w = w' := by
  have HS := Lib.hid hs
  clear hs
  go_enter Try.func154, Try.ntmps154
  go_wp2
  go_loop [3, 4] (fun sn si => ∃ (k : Nat) (N : Int), k ≤ l.length ∧ si = .int .i64 k ∧ sn = .int .i64 N ∧ Hid (N = prFold l k) ∧ Hid (pv N = true) ∧ Hid ((l.take k).all pv = true) ∧ (0 < k → l.length ≤ 20)) (fun _ si => l.length - (intOf si).toNat)
  case atStart => exact ⟨0, 5, Nat.zero_le _, rfl, rfl, rfl, (show pv 5 = true by decide), rfl, fun h => absurd h (by omega)⟩
  case round =>
    obtain ⟨k, N, hk, rfl, rfl, hN, hNp, hall, h20⟩ := hrel
    have H20 := Lib.hid h20
    clear h20
    by_cases hlt : k < l.length
    · obtain ⟨b, o, rfl, hc⟩ := HS.out.getI hlt
      have HN := Lib.hid (prFold_succ hlt)
      cases hx : pv l[k]
      · have HE := Lib.hid (prList_bad (.inr (all_bad hlt hx)))
        have hP := sPrintPair_any N l[k]
        rw [prPair_neg hx] at hP
        have HP := Lib.hid hP
        clear hP hx
        go_wp2_with (go_at_call 114; refine (HP.out _).mono ?_; rintro e w' ⟨rfl, rfl⟩)
        go_ret
        exact ⟨ret_int HE.out.symm, rfl⟩
      · have hp2 := prPair_pv hNp.out hx
        have HAL := Lib.hid (all_take_succ hlt hall.out hx)
        have hP := sPrintPair_any N l[k]
        have hM : prFold l (k + 1) = prPair N l[k] := by rw [HN.out, ← hN.out]
        clear HN
        generalize prPair N l[k] = M at *
        have HM := Lib.hid hM
        clear hM
        have hb := (pv_iff.1 hp2).1
        have HP := Lib.hid hP
        have HP2 := Lib.hid hp2
        clear hP hp2 hx
        by_cases h20 : l.length ≤ 20
        · go_wp2_with (go_at_call 114; refine (HP.out _).mono ?_; rintro e w' ⟨rfl, rfl⟩)
          go_round
          case rel => exact ⟨k + 1, M, by omega, by go_num, rfl, HM.out.symm, HP2.out, HAL.out, fun _ => h20⟩
          case measure => simp [intOf]; omega
        · have HE := Lib.hid (prList_bad (.inl h20))
          go_wp2_with (go_at_call 114; refine (HP.out _).mono ?_; rintro e w' ⟨rfl, rfl⟩)
          go_ret
          exact ⟨ret_int HE.out.symm, rfl⟩
    · go_wp2
      go_ret
      refine ⟨ret_int ?_, rfl⟩
      by_cases h0 : 0 < k
      · rw [prList_ok (H20.out h0) (all_of_take hlt hall.out) hlt]; exact hN.out
      · have h00 : l = [] := List.eq_nil_of_length_eq_zero (by omega)
        subst h00
        have hk0 : k = 0 := by omega
        subst hk0
        rw [hN.out]; rfl
/-! ### tags -/
def zeroT : Tg := (⟨#[]⟩, 0, 0, 0)
def mkT (l : List Vr) (name : ByteArray) (n : Int) : Tg := (makeTag l name n).getD zeroT
def mkOk (l : List Vr) (name : ByteArray) (n : Int) : Bool := (makeTag l name n).isSome
abbrev tgV (t : Tg) : Value := .agg #[.string t.1, .int .i64 t.2.1, .int .i64 t.2.2.1, .int .i64 t.2.2.2]
def MkR (l : List Vr) (name : ByteArray) (n : Int) (w : World) (e : Ending) (w' : World) : Prop :=
  e = .returned (.tuple #[tgV (mkT l name n), .bool (mkOk l name n)]) ∧ Below w.heap.size w w'
theorem MkR.no {l : List Vr} {name : ByteArray} {n : Int} (h : wordV (bs name) = false ∨ versV l = false ∨ n < 0 ∨ (l.length : Int) ≤ n) {w w' : World} (hb : Below w.heap.size w w') : MkR l name n w (.returned (.tuple #[.agg #[.string ⟨#[]⟩, .int .i64 0, .int .i64 0, .int .i64 0], .bool false])) w' := by
  have e := makeTag_none h
  exact ⟨by unfold mkT mkOk; rw [e]; rfl, hb⟩
theorem MkR.yes {l : List Vr} {name : ByteArray} {k : Nat} (hw : wordV (bs name) = true) (hv : versV l = true) (hk : k < l.length) {w w' : World} (hb : Below w.heap.size w w') : MkR l name k w (.returned (.tuple #[.agg #[.string name, .int .i64 (k : Int), .int .i64 l[k].1, .int .i64 (prList [prOf (bs name), (k : Int), l[k].1])], .bool true])) w' := by
  have e := makeTag_ok hw hv hk
  exact ⟨by unfold mkT mkOk; rw [e]; rfl, hb⟩
/-- The variable of a result that is a tag. -/
theorem tag_var {w w1 : World} {cs : Array Value} {E : TypeId} (hb : Below (w.alloc (.cells cs E)).heap.size (w.alloc (.cells cs E)) w1) : w1.heap[w.heap.size]? = some (.cells cs E (0, 0)) :=
  (hb.block _ (by simp)).trans (heap_alloc_new w _)

theorem Sl.new3 {w : World} {a b c : Int} {E : TypeId} : Sl (w.alloc (.cells #[.int .i64 a, .int .i64 b, .int .i64 c] E)) encI 1 (some ⟨w.heap.size, 0, none⟩) [a, b, c] := by
  intro _
  refine ⟨w.heap.size, 0, rfl, fun j u hu => ?_⟩
  rw [cell_of_row _ _ _ _ E (0, 0) (heap_alloc_new w _)]
  simpa [flat, encI] using hu
set_option maxHeartbeats 4000000 in
set_option maxRecDepth 100000 in
theorem iMakeTag_any (A : Option Addr) (c : Nat) (l : List Vr) (name : ByteArray) (n : Int) (w : World) (hs : Sl w encV 3 A l) (hl : l.length ≤ 16777216) (hf : FitV l) (hn : name.size ≤ 16777216) :
    Calls Try.prog 87 #[.slice A l.length c, .string name, .int .i64 n] w (MkR l name n w) := by
  have HS := Lib.hid hs
  have HF := Lib.hid hf
  clear hs hf
  have hV : ∀ w, Sl w encV 3 A l → Calls Try.prog 150 #[.slice A l.length c] w fun e w' => e = .returned (.bool (versV l)) ∧ Below w.heap.size w w' := fun w h => by
    first
      | exact iVersionsValid_any A c l w h hl HF.out
      | exact (iVersionsValid_any A c l w h hl HF.out).mono fun _ _ ⟨h1, h2⟩ => ⟨h1, h2 ▸ Below.refl _ _⟩
  have hW := iWordValid_any name
  cases hw : wordV (bs name)
  · rw [hw] at hW
    have HWD := Lib.hid (fun w => hW w hn)
    have HE := Lib.hid (fun w' hb => @MkR.no l name n (.inl hw) w w' hb)
    clear hW hw
    cases hv : versV l
    · rw [hv] at hV
      have HV := Lib.hid hV
      clear hV hv
      go_enter Try.func87, Try.ntmps87
      go_wp2_with (first | (go_at_call 123; refine (HWD.out _).mono ?_; rintro e w' ⟨rfl, rfl⟩) | (go_at_call 150; refine (HV.out _ (HS.out.alloc _)).mono ?_; rintro e w1 ⟨rfl, hb1⟩; have hvar := tag_var hb1; have c0 := cell_of_row w1 w.heap.size 0 _ _ _ hvar; have c1 := cell_of_row w1 w.heap.size 1 _ _ _ hvar; have c2 := cell_of_row w1 w.heap.size 2 _ _ _ hvar; have c3 := cell_of_row w1 w.heap.size 3 _ _ _ hvar; have f0 := frozen_of_row w1 w.heap.size 0 _ _ hvar; have f1 := frozen_of_row w1 w.heap.size 1 _ _ hvar; have f2 := frozen_of_row w1 w.heap.size 2 _ _ hvar; have f3 := frozen_of_row w1 w.heap.size 3 _ _ hvar; have HB1 := Lib.hid (Below_of_alloc hb1); clear hb1 hvar))
      first
        | exact bodyPost_ret (v := .tuple #[.agg #[.string ⟨#[]⟩, .int .i64 0, .int .i64 0, .int .i64 0], .bool false]) (by simp [results, Try.results87, go_sem, c0, c1, c2, c3]) rfl (HE.out _ ((((HB1.out.setCell (Nat.le_refl _) _).setCell (Nat.le_refl _) _).setCell (Nat.le_refl _) _).setCell (Nat.le_refl _) _))
        | exact bodyPost_ret (v := .tuple #[.agg #[.string ⟨#[]⟩, .int .i64 0, .int .i64 0, .int .i64 0], .bool false]) (by simp [results, Try.results87, go_sem]) rfl (HE.out _ ((Below.refl _ _).alloc (Nat.le_refl _) _))
    · rw [hv] at hV
      have HV := Lib.hid hV
      clear hV hv
      go_enter Try.func87, Try.ntmps87
      go_wp2_with (first | (go_at_call 123; refine (HWD.out _).mono ?_; rintro e w' ⟨rfl, rfl⟩) | (go_at_call 150; refine (HV.out _ (HS.out.alloc _)).mono ?_; rintro e w1 ⟨rfl, hb1⟩; have hvar := tag_var hb1; have c0 := cell_of_row w1 w.heap.size 0 _ _ _ hvar; have c1 := cell_of_row w1 w.heap.size 1 _ _ _ hvar; have c2 := cell_of_row w1 w.heap.size 2 _ _ _ hvar; have c3 := cell_of_row w1 w.heap.size 3 _ _ _ hvar; have f0 := frozen_of_row w1 w.heap.size 0 _ _ hvar; have f1 := frozen_of_row w1 w.heap.size 1 _ _ hvar; have f2 := frozen_of_row w1 w.heap.size 2 _ _ hvar; have f3 := frozen_of_row w1 w.heap.size 3 _ _ hvar; have HB1 := Lib.hid (Below_of_alloc hb1); clear hb1 hvar))
      first
        | exact bodyPost_ret (v := .tuple #[.agg #[.string ⟨#[]⟩, .int .i64 0, .int .i64 0, .int .i64 0], .bool false]) (by simp [results, Try.results87, go_sem, c0, c1, c2, c3]) rfl (HE.out _ ((((HB1.out.setCell (Nat.le_refl _) _).setCell (Nat.le_refl _) _).setCell (Nat.le_refl _) _).setCell (Nat.le_refl _) _))
        | exact bodyPost_ret (v := .tuple #[.agg #[.string ⟨#[]⟩, .int .i64 0, .int .i64 0, .int .i64 0], .bool false]) (by simp [results, Try.results87, go_sem]) rfl (HE.out _ ((Below.refl _ _).alloc (Nat.le_refl _) _))
  · rw [hw] at hW
    have HWD := Lib.hid (fun w => hW w hn)
    have HWW := Lib.hid hw
    clear hW hw
    cases hv : versV l
    · rw [hv] at hV
      have HE := Lib.hid (fun w' hb => @MkR.no l name n (.inr (.inl hv)) w w' hb)
      have HV := Lib.hid hV
      clear hV hv
      go_enter Try.func87, Try.ntmps87
      go_wp2_with (first | (go_at_call 123; refine (HWD.out _).mono ?_; rintro e w' ⟨rfl, rfl⟩) | (go_at_call 150; refine (HV.out _ (HS.out.alloc _)).mono ?_; rintro e w1 ⟨rfl, hb1⟩; have hvar := tag_var hb1; have c0 := cell_of_row w1 w.heap.size 0 _ _ _ hvar; have c1 := cell_of_row w1 w.heap.size 1 _ _ _ hvar; have c2 := cell_of_row w1 w.heap.size 2 _ _ _ hvar; have c3 := cell_of_row w1 w.heap.size 3 _ _ _ hvar; have f0 := frozen_of_row w1 w.heap.size 0 _ _ hvar; have f1 := frozen_of_row w1 w.heap.size 1 _ _ hvar; have f2 := frozen_of_row w1 w.heap.size 2 _ _ hvar; have f3 := frozen_of_row w1 w.heap.size 3 _ _ hvar; have HB1 := Lib.hid (Below_of_alloc hb1); clear hb1 hvar))
      first
        | exact bodyPost_ret (v := .tuple #[.agg #[.string ⟨#[]⟩, .int .i64 0, .int .i64 0, .int .i64 0], .bool false]) (by simp [results, Try.results87, go_sem, c0, c1, c2, c3]) rfl (HE.out _ ((((HB1.out.setCell (Nat.le_refl _) _).setCell (Nat.le_refl _) _).setCell (Nat.le_refl _) _).setCell (Nat.le_refl _) _))
        | exact bodyPost_ret (v := .tuple #[.agg #[.string ⟨#[]⟩, .int .i64 0, .int .i64 0, .int .i64 0], .bool false]) (by simp [results, Try.results87, go_sem]) rfl (HE.out _ ((Below.refl _ _).alloc (Nat.le_refl _) _))
    · rw [hv] at hV
      have HV := Lib.hid hV
      have HVV := Lib.hid hv
      clear hV hv
      by_cases hin : 0 ≤ n ∧ n < l.length
      · obtain ⟨h0, h1⟩ := hin
        obtain ⟨k, rfl⟩ := Int.eq_ofNat_of_zero_le h0
        have hk : k < l.length := by omega
        have HE := Lib.hid (fun w' hb => @MkR.yes l name k HWW.out HVV.out hk w w' hb)
        obtain ⟨b, o, rfl, hc0, _, _⟩ := HS.out.getV hk
        have hP := iPrintOf_any name
        have hL : ∀ A' W, Sl W encI 1 A' [prOf (bs name), (k : Int), l[k].1] → Calls Try.prog 151 #[.slice A' 3 3] W fun e w' => e = .returned (.int .i64 (prList [prOf (bs name), (k : Int), l[k].1])) ∧ W = w' := fun A' W h => iPrintList_any A' 3 _ W h (by simp)
        have hi : inI (k : Int) 0 ((l.length : Int) - 1) = true := inI_true (by omega)
        have g1 : (0 : Int) ≤ (k : Int) := by omega
        generalize l[k].1 = root at *
        generalize prOf (bs name) = q at *
        have hSL := fun W => @Sl.new3 W q (k : Int) root 3
        generalize prList [q, (k : Int), root] = s at *
        have HP := Lib.hid (fun w => hP w hn)
        have HL := Lib.hid (fun A' W h => hL A' W h)
        have HSL := Lib.hid hSL
        clear hP hL hSL h0 h1
        go_enter Try.func87, Try.ntmps87
        go_wp2_with (first | (go_at_call 123; refine (HWD.out _).mono ?_; rintro e w' ⟨rfl, rfl⟩) | (go_at_call 150; refine (HV.out _ (HS.out.alloc _)).mono ?_; rintro e w1 ⟨rfl, hb1⟩; have hvar := tag_var hb1; have c0 := cell_of_row w1 w.heap.size 0 _ _ _ hvar; have c1 := cell_of_row w1 w.heap.size 1 _ _ _ hvar; have c2 := cell_of_row w1 w.heap.size 2 _ _ _ hvar; have c3 := cell_of_row w1 w.heap.size 3 _ _ _ hvar; have f0 := frozen_of_row w1 w.heap.size 0 _ _ hvar; have f1 := frozen_of_row w1 w.heap.size 1 _ _ hvar; have f2 := frozen_of_row w1 w.heap.size 2 _ _ hvar; have f3 := frozen_of_row w1 w.heap.size 3 _ _ hvar; have HB1 := Lib.hid (Below_of_alloc hb1); have hd0 := Below_cells (Below_of_alloc hb1) _ _ _ hc0; have hz : w.heap.size < w1.heap.size := (by have := hb1.size; simp at this; omega); have ca0 := fun o => (World.cell?_alloc_lt w1 o ⟨w.heap.size, 0, none⟩ hz).trans c0; have ca1 := fun o => (World.cell?_alloc_lt w1 o ⟨w.heap.size, 1, none⟩ hz).trans c1; have ca2 := fun o => (World.cell?_alloc_lt w1 o ⟨w.heap.size, 2, none⟩ hz).trans c2; have ca3 := fun o => (World.cell?_alloc_lt w1 o ⟨w.heap.size, 3, none⟩ hz).trans c3; have fa0 := fun o => (World.frozen?_of_block (w := w1) (a := ⟨w.heap.size, 0, none⟩) (Below.heap_alloc w1 o _ hz)).trans f0; have fa1 := fun o => (World.frozen?_of_block (w := w1) (a := ⟨w.heap.size, 1, none⟩) (Below.heap_alloc w1 o _ hz)).trans f1; have fa2 := fun o => (World.frozen?_of_block (w := w1) (a := ⟨w.heap.size, 2, none⟩) (Below.heap_alloc w1 o _ hz)).trans f2; have fa3 := fun o => (World.frozen?_of_block (w := w1) (a := ⟨w.heap.size, 3, none⟩) (Below.heap_alloc w1 o _ hz)).trans f3; have HSZ := Lib.hid hz; clear hb1 hvar) | (go_at_call 113; refine (sl1In_any _ _ _ _).mono ?_; rintro e w' ⟨rfl, rfl⟩) | (go_at_call 48; refine (HP.out _).mono ?_; rintro e w' ⟨rfl, rfl⟩) | (go_at_call 151; refine (HL.out _ _ (HSL.out _)).mono ?_; rintro e w' ⟨rfl, rfl⟩))
        have hca : ∀ (W : World), w.heap.size < W.heap.size → ∀ o i, (W.alloc o).cell? ⟨w.heap.size, i, none⟩ = W.cell? ⟨w.heap.size, i, none⟩ := fun W h o i => World.cell?_alloc_lt W o ⟨w.heap.size, i, none⟩ h
        have hb5 : Below w.heap.size w ((((w1.setCell ⟨w.heap.size, 0, none⟩ (.string name)).setCell ⟨w.heap.size, 1, none⟩ (.int .i64 (k : Int))).setCell ⟨w.heap.size, 2, none⟩ (.int .i64 root)).setCell ⟨w.heap.size, 3, none⟩ (.int .i64 s)) := (((HB1.out.setCell (Nat.le_refl _) _).setCell (Nat.le_refl _) _).setCell (Nat.le_refl _) _).setCell (Nat.le_refl _) _
        have hz := HSZ.out
        exact bodyPost_ret (v := .tuple #[.agg #[.string name, .int .i64 (k : Int), .int .i64 root, .int .i64 s], .bool true]) (by simp [results, Try.results87, go_sem, hca, hz, c0, c1, c2, c3]) rfl (HE.out _ (hb5.alloc hb5.size _))
      · have hi : inI n 0 ((l.length : Int) - 1) = false := inI_false (by omega)
        by_cases h0 : n < 0
        · have HE := Lib.hid (fun w' hb => @MkR.no l name n (.inr (.inr (.inl h0))) w w' hb)
          clear hin
          go_enter Try.func87, Try.ntmps87
          go_wp2_with (first | (go_at_call 123; refine (HWD.out _).mono ?_; rintro e w' ⟨rfl, rfl⟩) | (go_at_call 150; refine (HV.out _ (HS.out.alloc _)).mono ?_; rintro e w1 ⟨rfl, hb1⟩; have hvar := tag_var hb1; have c0 := cell_of_row w1 w.heap.size 0 _ _ _ hvar; have c1 := cell_of_row w1 w.heap.size 1 _ _ _ hvar; have c2 := cell_of_row w1 w.heap.size 2 _ _ _ hvar; have c3 := cell_of_row w1 w.heap.size 3 _ _ _ hvar; have f0 := frozen_of_row w1 w.heap.size 0 _ _ hvar; have f1 := frozen_of_row w1 w.heap.size 1 _ _ hvar; have f2 := frozen_of_row w1 w.heap.size 2 _ _ hvar; have f3 := frozen_of_row w1 w.heap.size 3 _ _ hvar; have HB1 := Lib.hid (Below_of_alloc hb1); clear hb1 hvar) | (go_at_call 113; refine (sl1In_any _ _ _ _).mono ?_; rintro e w' ⟨rfl, rfl⟩))
          first
            | exact bodyPost_ret (v := .tuple #[.agg #[.string ⟨#[]⟩, .int .i64 0, .int .i64 0, .int .i64 0], .bool false]) (by simp [results, Try.results87, go_sem, c0, c1, c2, c3]) rfl (HE.out _ ((((HB1.out.setCell (Nat.le_refl _) _).setCell (Nat.le_refl _) _).setCell (Nat.le_refl _) _).setCell (Nat.le_refl _) _))
            | exact bodyPost_ret (v := .tuple #[.agg #[.string ⟨#[]⟩, .int .i64 0, .int .i64 0, .int .i64 0], .bool false]) (by simp [results, Try.results87, go_sem]) rfl (HE.out _ ((Below.refl _ _).alloc (Nat.le_refl _) _))
        · have h1 : (l.length : Int) ≤ n := by omega
          have HE := Lib.hid (fun w' hb => @MkR.no l name n (.inr (.inr (.inr h1))) w w' hb)
          clear hin
          go_enter Try.func87, Try.ntmps87
          go_wp2_with (first | (go_at_call 123; refine (HWD.out _).mono ?_; rintro e w' ⟨rfl, rfl⟩) | (go_at_call 150; refine (HV.out _ (HS.out.alloc _)).mono ?_; rintro e w1 ⟨rfl, hb1⟩; have hvar := tag_var hb1; have c0 := cell_of_row w1 w.heap.size 0 _ _ _ hvar; have c1 := cell_of_row w1 w.heap.size 1 _ _ _ hvar; have c2 := cell_of_row w1 w.heap.size 2 _ _ _ hvar; have c3 := cell_of_row w1 w.heap.size 3 _ _ _ hvar; have f0 := frozen_of_row w1 w.heap.size 0 _ _ hvar; have f1 := frozen_of_row w1 w.heap.size 1 _ _ hvar; have f2 := frozen_of_row w1 w.heap.size 2 _ _ hvar; have f3 := frozen_of_row w1 w.heap.size 3 _ _ hvar; have HB1 := Lib.hid (Below_of_alloc hb1); clear hb1 hvar) | (go_at_call 113; refine (sl1In_any _ _ _ _).mono ?_; rintro e w' ⟨rfl, rfl⟩))
          first
            | exact bodyPost_ret (v := .tuple #[.agg #[.string ⟨#[]⟩, .int .i64 0, .int .i64 0, .int .i64 0], .bool false]) (by simp [results, Try.results87, go_sem, c0, c1, c2, c3]) rfl (HE.out _ ((((HB1.out.setCell (Nat.le_refl _) _).setCell (Nat.le_refl _) _).setCell (Nat.le_refl _) _).setCell (Nat.le_refl _) _))
            | exact bodyPost_ret (v := .tuple #[.agg #[.string ⟨#[]⟩, .int .i64 0, .int .i64 0, .int .i64 0], .bool false]) (by simp [results, Try.results87, go_sem]) rfl (HE.out _ ((Below.refl _ _).alloc (Nat.le_refl _) _))
set_option maxHeartbeats 4000000 in
set_option maxRecDepth 100000 in
theorem sMakeTag_any (A : Option Addr) (c : Nat) (l : List Vr) (name : ByteArray) (n : Int) (w : World) (hs : Sl w encV 3 A l) (hl : l.length ≤ 16777216) (hf : FitV l) (hn : name.size ≤ 16777216) :
    Calls Try.prog 88 #[.slice A l.length c, .string name, .int .i64 n] w (MkR l name n w) := by
  have HS := Lib.hid hs
  have HF := Lib.hid hf
  clear hs hf
  have hV : ∀ w, Sl w encV 3 A l → Calls Try.prog 152 #[.slice A l.length c] w fun e w' => e = .returned (.bool (versV l)) ∧ Below w.heap.size w w' := fun w h => by
    first
      | exact sVersionsValid_any A c l w h hl HF.out
      | exact (sVersionsValid_any A c l w h hl HF.out).mono fun _ _ ⟨h1, h2⟩ => ⟨h1, h2 ▸ Below.refl _ _⟩
  have hW := sWordValid_any name
  cases hw : wordV (bs name)
  · rw [hw] at hW
    have HWD := Lib.hid (fun w => hW w hn)
    have HE := Lib.hid (fun w' hb => @MkR.no l name n (.inl hw) w w' hb)
    clear hW hw
    cases hv : versV l
    · rw [hv] at hV
      have HV := Lib.hid hV
      clear hV hv
      go_enter Try.func88, Try.ntmps88
      go_wp2_with (first | (go_at_call 153; refine (HWD.out _).mono ?_; rintro e w' ⟨rfl, rfl⟩) | (go_at_call 152; refine (HV.out _ (HS.out.alloc _)).mono ?_; rintro e w1 ⟨rfl, hb1⟩; have hvar := tag_var hb1; have c0 := cell_of_row w1 w.heap.size 0 _ _ _ hvar; have c1 := cell_of_row w1 w.heap.size 1 _ _ _ hvar; have c2 := cell_of_row w1 w.heap.size 2 _ _ _ hvar; have c3 := cell_of_row w1 w.heap.size 3 _ _ _ hvar; have f0 := frozen_of_row w1 w.heap.size 0 _ _ hvar; have f1 := frozen_of_row w1 w.heap.size 1 _ _ hvar; have f2 := frozen_of_row w1 w.heap.size 2 _ _ hvar; have f3 := frozen_of_row w1 w.heap.size 3 _ _ hvar; have HB1 := Lib.hid (Below_of_alloc hb1); clear hb1 hvar))
      first
        | exact bodyPost_ret (v := .tuple #[.agg #[.string ⟨#[]⟩, .int .i64 0, .int .i64 0, .int .i64 0], .bool false]) (by simp [results, Try.results88, go_sem, c0, c1, c2, c3]) rfl (HE.out _ ((((HB1.out.setCell (Nat.le_refl _) _).setCell (Nat.le_refl _) _).setCell (Nat.le_refl _) _).setCell (Nat.le_refl _) _))
        | exact bodyPost_ret (v := .tuple #[.agg #[.string ⟨#[]⟩, .int .i64 0, .int .i64 0, .int .i64 0], .bool false]) (by simp [results, Try.results88, go_sem]) rfl (HE.out _ ((Below.refl _ _).alloc (Nat.le_refl _) _))
    · rw [hv] at hV
      have HV := Lib.hid hV
      clear hV hv
      go_enter Try.func88, Try.ntmps88
      go_wp2_with (first | (go_at_call 153; refine (HWD.out _).mono ?_; rintro e w' ⟨rfl, rfl⟩) | (go_at_call 152; refine (HV.out _ (HS.out.alloc _)).mono ?_; rintro e w1 ⟨rfl, hb1⟩; have hvar := tag_var hb1; have c0 := cell_of_row w1 w.heap.size 0 _ _ _ hvar; have c1 := cell_of_row w1 w.heap.size 1 _ _ _ hvar; have c2 := cell_of_row w1 w.heap.size 2 _ _ _ hvar; have c3 := cell_of_row w1 w.heap.size 3 _ _ _ hvar; have f0 := frozen_of_row w1 w.heap.size 0 _ _ hvar; have f1 := frozen_of_row w1 w.heap.size 1 _ _ hvar; have f2 := frozen_of_row w1 w.heap.size 2 _ _ hvar; have f3 := frozen_of_row w1 w.heap.size 3 _ _ hvar; have HB1 := Lib.hid (Below_of_alloc hb1); clear hb1 hvar))
      first
        | exact bodyPost_ret (v := .tuple #[.agg #[.string ⟨#[]⟩, .int .i64 0, .int .i64 0, .int .i64 0], .bool false]) (by simp [results, Try.results88, go_sem, c0, c1, c2, c3]) rfl (HE.out _ ((((HB1.out.setCell (Nat.le_refl _) _).setCell (Nat.le_refl _) _).setCell (Nat.le_refl _) _).setCell (Nat.le_refl _) _))
        | exact bodyPost_ret (v := .tuple #[.agg #[.string ⟨#[]⟩, .int .i64 0, .int .i64 0, .int .i64 0], .bool false]) (by simp [results, Try.results88, go_sem]) rfl (HE.out _ ((Below.refl _ _).alloc (Nat.le_refl _) _))
  · rw [hw] at hW
    have HWD := Lib.hid (fun w => hW w hn)
    have HWW := Lib.hid hw
    clear hW hw
    cases hv : versV l
    · rw [hv] at hV
      have HE := Lib.hid (fun w' hb => @MkR.no l name n (.inr (.inl hv)) w w' hb)
      have HV := Lib.hid hV
      clear hV hv
      go_enter Try.func88, Try.ntmps88
      go_wp2_with (first | (go_at_call 153; refine (HWD.out _).mono ?_; rintro e w' ⟨rfl, rfl⟩) | (go_at_call 152; refine (HV.out _ (HS.out.alloc _)).mono ?_; rintro e w1 ⟨rfl, hb1⟩; have hvar := tag_var hb1; have c0 := cell_of_row w1 w.heap.size 0 _ _ _ hvar; have c1 := cell_of_row w1 w.heap.size 1 _ _ _ hvar; have c2 := cell_of_row w1 w.heap.size 2 _ _ _ hvar; have c3 := cell_of_row w1 w.heap.size 3 _ _ _ hvar; have f0 := frozen_of_row w1 w.heap.size 0 _ _ hvar; have f1 := frozen_of_row w1 w.heap.size 1 _ _ hvar; have f2 := frozen_of_row w1 w.heap.size 2 _ _ hvar; have f3 := frozen_of_row w1 w.heap.size 3 _ _ hvar; have HB1 := Lib.hid (Below_of_alloc hb1); clear hb1 hvar))
      first
        | exact bodyPost_ret (v := .tuple #[.agg #[.string ⟨#[]⟩, .int .i64 0, .int .i64 0, .int .i64 0], .bool false]) (by simp [results, Try.results88, go_sem, c0, c1, c2, c3]) rfl (HE.out _ ((((HB1.out.setCell (Nat.le_refl _) _).setCell (Nat.le_refl _) _).setCell (Nat.le_refl _) _).setCell (Nat.le_refl _) _))
        | exact bodyPost_ret (v := .tuple #[.agg #[.string ⟨#[]⟩, .int .i64 0, .int .i64 0, .int .i64 0], .bool false]) (by simp [results, Try.results88, go_sem]) rfl (HE.out _ ((Below.refl _ _).alloc (Nat.le_refl _) _))
    · rw [hv] at hV
      have HV := Lib.hid hV
      have HVV := Lib.hid hv
      clear hV hv
      by_cases hin : 0 ≤ n ∧ n < l.length
      · obtain ⟨h0, h1⟩ := hin
        obtain ⟨k, rfl⟩ := Int.eq_ofNat_of_zero_le h0
        have hk : k < l.length := by omega
        have HE := Lib.hid (fun w' hb => @MkR.yes l name k HWW.out HVV.out hk w w' hb)
        obtain ⟨b, o, rfl, hc0, _, _⟩ := HS.out.getV hk
        have hP := sPrintOf_any name
        have hL : ∀ A' W, Sl W encI 1 A' [prOf (bs name), (k : Int), l[k].1] → Calls Try.prog 154 #[.slice A' 3 3] W fun e w' => e = .returned (.int .i64 (prList [prOf (bs name), (k : Int), l[k].1])) ∧ W = w' := fun A' W h => sPrintList_any A' 3 _ W h (by simp)
        have hi : inI (k : Int) 0 ((l.length : Int) - 1) = true := inI_true (by omega)
        have g1 : (0 : Int) ≤ (k : Int) := by omega
        generalize l[k].1 = root at *
        generalize prOf (bs name) = q at *
        have hSL := fun W => @Sl.new3 W q (k : Int) root 3
        generalize prList [q, (k : Int), root] = s at *
        have HP := Lib.hid (fun w => hP w hn)
        have HL := Lib.hid (fun A' W h => hL A' W h)
        have HSL := Lib.hid hSL
        clear hP hL hSL h0 h1
        go_enter Try.func88, Try.ntmps88
        go_wp2_with (first | (go_at_call 153; refine (HWD.out _).mono ?_; rintro e w' ⟨rfl, rfl⟩) | (go_at_call 152; refine (HV.out _ (HS.out.alloc _)).mono ?_; rintro e w1 ⟨rfl, hb1⟩; have hvar := tag_var hb1; have c0 := cell_of_row w1 w.heap.size 0 _ _ _ hvar; have c1 := cell_of_row w1 w.heap.size 1 _ _ _ hvar; have c2 := cell_of_row w1 w.heap.size 2 _ _ _ hvar; have c3 := cell_of_row w1 w.heap.size 3 _ _ _ hvar; have f0 := frozen_of_row w1 w.heap.size 0 _ _ hvar; have f1 := frozen_of_row w1 w.heap.size 1 _ _ hvar; have f2 := frozen_of_row w1 w.heap.size 2 _ _ hvar; have f3 := frozen_of_row w1 w.heap.size 3 _ _ hvar; have HB1 := Lib.hid (Below_of_alloc hb1); have hd0 := Below_cells (Below_of_alloc hb1) _ _ _ hc0; have hz : w.heap.size < w1.heap.size := (by have := hb1.size; simp at this; omega); have ca0 := fun o => (World.cell?_alloc_lt w1 o ⟨w.heap.size, 0, none⟩ hz).trans c0; have ca1 := fun o => (World.cell?_alloc_lt w1 o ⟨w.heap.size, 1, none⟩ hz).trans c1; have ca2 := fun o => (World.cell?_alloc_lt w1 o ⟨w.heap.size, 2, none⟩ hz).trans c2; have ca3 := fun o => (World.cell?_alloc_lt w1 o ⟨w.heap.size, 3, none⟩ hz).trans c3; have fa0 := fun o => (World.frozen?_of_block (w := w1) (a := ⟨w.heap.size, 0, none⟩) (Below.heap_alloc w1 o _ hz)).trans f0; have fa1 := fun o => (World.frozen?_of_block (w := w1) (a := ⟨w.heap.size, 1, none⟩) (Below.heap_alloc w1 o _ hz)).trans f1; have fa2 := fun o => (World.frozen?_of_block (w := w1) (a := ⟨w.heap.size, 2, none⟩) (Below.heap_alloc w1 o _ hz)).trans f2; have fa3 := fun o => (World.frozen?_of_block (w := w1) (a := ⟨w.heap.size, 3, none⟩) (Below.heap_alloc w1 o _ hz)).trans f3; have HSZ := Lib.hid hz; clear hb1 hvar) | (go_at_call 113; refine (sl1In_any _ _ _ _).mono ?_; rintro e w' ⟨rfl, rfl⟩) | (go_at_call 120; refine (HP.out _).mono ?_; rintro e w' ⟨rfl, rfl⟩) | (go_at_call 154; refine (HL.out _ _ (HSL.out _)).mono ?_; rintro e w' ⟨rfl, rfl⟩))
        have hca : ∀ (W : World), w.heap.size < W.heap.size → ∀ o i, (W.alloc o).cell? ⟨w.heap.size, i, none⟩ = W.cell? ⟨w.heap.size, i, none⟩ := fun W h o i => World.cell?_alloc_lt W o ⟨w.heap.size, i, none⟩ h
        have hb5 : Below w.heap.size w ((((w1.setCell ⟨w.heap.size, 0, none⟩ (.string name)).setCell ⟨w.heap.size, 1, none⟩ (.int .i64 (k : Int))).setCell ⟨w.heap.size, 2, none⟩ (.int .i64 root)).setCell ⟨w.heap.size, 3, none⟩ (.int .i64 s)) := (((HB1.out.setCell (Nat.le_refl _) _).setCell (Nat.le_refl _) _).setCell (Nat.le_refl _) _).setCell (Nat.le_refl _) _
        have hz := HSZ.out
        exact bodyPost_ret (v := .tuple #[.agg #[.string name, .int .i64 (k : Int), .int .i64 root, .int .i64 s], .bool true]) (by simp [results, Try.results88, go_sem, hca, hz, c0, c1, c2, c3]) rfl (HE.out _ (hb5.alloc hb5.size _))
      · have hi : inI n 0 ((l.length : Int) - 1) = false := inI_false (by omega)
        by_cases h0 : n < 0
        · have HE := Lib.hid (fun w' hb => @MkR.no l name n (.inr (.inr (.inl h0))) w w' hb)
          clear hin
          go_enter Try.func88, Try.ntmps88
          go_wp2_with (first | (go_at_call 153; refine (HWD.out _).mono ?_; rintro e w' ⟨rfl, rfl⟩) | (go_at_call 152; refine (HV.out _ (HS.out.alloc _)).mono ?_; rintro e w1 ⟨rfl, hb1⟩; have hvar := tag_var hb1; have c0 := cell_of_row w1 w.heap.size 0 _ _ _ hvar; have c1 := cell_of_row w1 w.heap.size 1 _ _ _ hvar; have c2 := cell_of_row w1 w.heap.size 2 _ _ _ hvar; have c3 := cell_of_row w1 w.heap.size 3 _ _ _ hvar; have f0 := frozen_of_row w1 w.heap.size 0 _ _ hvar; have f1 := frozen_of_row w1 w.heap.size 1 _ _ hvar; have f2 := frozen_of_row w1 w.heap.size 2 _ _ hvar; have f3 := frozen_of_row w1 w.heap.size 3 _ _ hvar; have HB1 := Lib.hid (Below_of_alloc hb1); clear hb1 hvar) | (go_at_call 113; refine (sl1In_any _ _ _ _).mono ?_; rintro e w' ⟨rfl, rfl⟩))
          first
            | exact bodyPost_ret (v := .tuple #[.agg #[.string ⟨#[]⟩, .int .i64 0, .int .i64 0, .int .i64 0], .bool false]) (by simp [results, Try.results88, go_sem, c0, c1, c2, c3]) rfl (HE.out _ ((((HB1.out.setCell (Nat.le_refl _) _).setCell (Nat.le_refl _) _).setCell (Nat.le_refl _) _).setCell (Nat.le_refl _) _))
            | exact bodyPost_ret (v := .tuple #[.agg #[.string ⟨#[]⟩, .int .i64 0, .int .i64 0, .int .i64 0], .bool false]) (by simp [results, Try.results88, go_sem]) rfl (HE.out _ ((Below.refl _ _).alloc (Nat.le_refl _) _))
        · have h1 : (l.length : Int) ≤ n := by omega
          have HE := Lib.hid (fun w' hb => @MkR.no l name n (.inr (.inr (.inr h1))) w w' hb)
          clear hin
          go_enter Try.func88, Try.ntmps88
          go_wp2_with (first | (go_at_call 153; refine (HWD.out _).mono ?_; rintro e w' ⟨rfl, rfl⟩) | (go_at_call 152; refine (HV.out _ (HS.out.alloc _)).mono ?_; rintro e w1 ⟨rfl, hb1⟩; have hvar := tag_var hb1; have c0 := cell_of_row w1 w.heap.size 0 _ _ _ hvar; have c1 := cell_of_row w1 w.heap.size 1 _ _ _ hvar; have c2 := cell_of_row w1 w.heap.size 2 _ _ _ hvar; have c3 := cell_of_row w1 w.heap.size 3 _ _ _ hvar; have f0 := frozen_of_row w1 w.heap.size 0 _ _ hvar; have f1 := frozen_of_row w1 w.heap.size 1 _ _ hvar; have f2 := frozen_of_row w1 w.heap.size 2 _ _ hvar; have f3 := frozen_of_row w1 w.heap.size 3 _ _ hvar; have HB1 := Lib.hid (Below_of_alloc hb1); clear hb1 hvar) | (go_at_call 113; refine (sl1In_any _ _ _ _).mono ?_; rintro e w' ⟨rfl, rfl⟩))
          first
            | exact bodyPost_ret (v := .tuple #[.agg #[.string ⟨#[]⟩, .int .i64 0, .int .i64 0, .int .i64 0], .bool false]) (by simp [results, Try.results88, go_sem, c0, c1, c2, c3]) rfl (HE.out _ ((((HB1.out.setCell (Nat.le_refl _) _).setCell (Nat.le_refl _) _).setCell (Nat.le_refl _) _).setCell (Nat.le_refl _) _))
            | exact bodyPost_ret (v := .tuple #[.agg #[.string ⟨#[]⟩, .int .i64 0, .int .i64 0, .int .i64 0], .bool false]) (by simp [results, Try.results88, go_sem]) rfl (HE.out _ ((Below.refl _ _).alloc (Nat.le_refl _) _))
end Go.Proofs.Ytbefbenihahdnaa
