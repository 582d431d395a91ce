/- Versions and tags in plain Lean. -/
import Derived.Test.YtjadgjlidejjpaaDoorHeap
import Derived.Test.YtjadgjlidejjpaaDoorPure
set_option linter.unusedVariables false
namespace Go.Proofs.YtjadgjlidejjpaaDoor

def verAt (k : Nat) (v : Vr) : Bool := pv v.1 && (decide (-1 ≤ v.2.1) && (decide (v.2.1 < k) && wordV v.2.2.data.toList))
def versFrom : Nat → List Vr → Bool
  | _, [] => true
  | k, v :: r => verAt k v && versFrom (k + 1) r
def versV (l : List Vr) : Bool := decide (l.length ≤ 12) && versFrom 0 l
theorem versFrom_append : ∀ (a : List Vr) (k : Nat) (b : List Vr), versFrom k (a ++ b) = (versFrom k a && versFrom (k + a.length) b)
  | [], k, b => by simp [versFrom]
  | v :: r, k, b => by
    rw [List.cons_append, versFrom, versFrom, versFrom_append r (k + 1) b, Bool.and_assoc]
    congr 3
    simp; omega
theorem versFrom_take {l : List Vr} {k : Nat} (h : k < l.length) : versFrom 0 (l.take (k + 1)) = (versFrom 0 (l.take k) && verAt k l[k]) := by
  rw [List.take_succ_eq_append_getElem h, versFrom_append]
  have : (l.take k).length = k := by rw [List.length_take]; omega
  simp [versFrom, this]
theorem versFrom_bad {l : List Vr} {k : Nat} (h : k < l.length) (hv : verAt k l[k] = false) : versFrom 0 l = false := by
  have h1 : l = l.take (k + 1) ++ l.drop (k + 1) := (List.take_append_drop _ _).symm
  rw [h1, versFrom_append, versFrom_take h, hv, Bool.and_false, Bool.false_and]
theorem versFrom_all {l : List Vr} {k : Nat} (h : ¬ k < l.length) (hv : versFrom 0 (l.take k) = true) : versFrom 0 l = true := by
  rwa [List.take_of_length_le (by omega)] at hv
theorem versFrom_at : ∀ (l : List Vr) (j k : Nat) (h : k < l.length), versFrom j l = true → verAt (j + k) l[k] = true
  | [], _, _, h, _ => by simp at h
  | v :: r, j, 0, _, hv => by rw [versFrom, Bool.and_eq_true] at hv; simpa using hv.1
  | v :: r, j, k + 1, h, hv => by
    rw [versFrom, Bool.and_eq_true] at hv
    have := versFrom_at r (j + 1) k (by simpa using h) hv.2
    have e : j + (k + 1) = j + 1 + k := by omega
    rw [e]; exact this
theorem versV_len {l : List Vr} (h : versV l = true) : l.length ≤ 12 := by
  unfold versV at h; rw [Bool.and_eq_true] at h; simpa using h.1
theorem versV_at {l : List Vr} (h : versV l = true) {k : Nat} (hk : k < l.length) : verAt k l[k] = true := by
  unfold versV at h; rw [Bool.and_eq_true] at h
  have := versFrom_at l 0 k hk h.2
  simpa using this
theorem verAt_iff {k : Nat} {v : Vr} : verAt k v = true ↔ pv v.1 = true ∧ -1 ≤ v.2.1 ∧ v.2.1 < k ∧ wordV v.2.2.data.toList = true := by
  unfold verAt; simp only [Bool.and_eq_true, decide_eq_true_eq]

def makeTag (l : List Vr) (name : ByteArray) (n : Int) : Option Tg :=
  if wordV name.data.toList && versV l && decide (0 ≤ n ∧ n < l.length) then some (name, n, (l.getD n.toNat (0, 0, name)).1, prList [prOf name.data.toList, n, (l.getD n.toNat (0, 0, name)).1]) else none
def tagR (l : List Vr) (t : Tg) : Bool := decide (makeTag l t.1 t.2.1 = some t)
def rightTags (l : List Vr) (ts : List Tg) : List Tg := ts.filter (tagR l)
theorem makeTag_ok {l : List Vr} {name : ByteArray} {k : Nat} (hw : wordV name.data.toList = true) (hv : versV l = true) (hk : k < l.length) : makeTag l name k = some (name, (k : Int), l[k].1, prList [prOf name.data.toList, (k : Int), l[k].1]) := by
  have e : l.getD k (0, 0, name) = l[k] := by rw [List.getD_eq_getElem?_getD, List.getElem?_eq_getElem hk]; rfl
  unfold makeTag
  rw [hw, hv, if_pos (by simp; omega), Int.toNat_natCast, e]
theorem makeTag_none {l : List Vr} {name : ByteArray} {n : Int} (h : wordV name.data.toList = false ∨ versV l = false ∨ n < 0 ∨ (l.length : Int) ≤ n) : makeTag l name n = none := by
  unfold makeTag
  rw [if_neg]
  intro hh
  simp only [Bool.and_eq_true, decide_eq_true_eq] at hh
  rcases h with h | h | h | h
  · rw [h] at hh; cases hh.1.1
  · rw [h] at hh; cases hh.1.2
  · omega
  · omega
theorem makeTag_some {l : List Vr} {name : ByteArray} {n : Int} {t : Tg} (h : makeTag l name n = some t) : ∃ (k : Nat) (hk : k < l.length), n = k ∧ wordV name.data.toList = true ∧ versV l = true ∧ t = (name, (k : Int), l[k].1, prList [prOf name.data.toList, (k : Int), l[k].1]) := by
  by_cases hh : (wordV name.data.toList && versV l && decide (0 ≤ n ∧ n < l.length)) = true
  · simp only [Bool.and_eq_true, decide_eq_true_eq] at hh
    obtain ⟨⟨h1, h2⟩, h3⟩ := hh
    obtain ⟨k, rfl⟩ := Int.eq_ofNat_of_zero_le h3.1
    have hk : k < l.length := by omega
    have h4 := makeTag_ok h1 h2 hk
    rw [h4] at h
    injection h with h
    exact ⟨k, hk, rfl, h1, h2, h.symm⟩
  · unfold makeTag at h
    rw [if_neg hh] at h; cases h
theorem tagR_iff {l : List Vr} {t : Tg} : tagR l t = true ↔ makeTag l t.1 t.2.1 = some t := by unfold tagR; exact decide_eq_true_iff
/-- A made tag is right. -/
theorem tagR_made {l : List Vr} {name : ByteArray} {n : Int} {t : Tg} (h : makeTag l name n = some t) : tagR l t = true ∧ t.1 = name ∧ t.2.1 = n := by
  obtain ⟨k, hk, rfl, h1, h2, rfl⟩ := makeTag_some h
  exact ⟨tagR_iff.2 h, rfl, rfl⟩
/-- With another seal a right tag is wrong. -/
theorem tagR_seal {l : List Vr} {a : ByteArray} {n r s s' : Int} (h : tagR l (a, n, r, s) = true) (hne : s' ≠ s) : tagR l (a, n, r, s') = false := by
  cases h2 : tagR l (a, n, r, s')
  · rfl
  · have h1 := tagR_iff.1 h
    have h2 := tagR_iff.1 h2
    simp only at h1 h2
    rw [h1] at h2
    injection h2 with h2
    injection h2 with _ h2
    injection h2 with _ h2
    injection h2 with _ h2
    exact absurd h2.symm hne
theorem versV_snoc {l : List Vr} {v : Vr} (hl : versV l = true) : versV (l ++ [v]) = (decide (l.length < 12) && verAt l.length v) := by
  unfold versV at *
  rw [Bool.and_eq_true] at hl
  rw [versFrom_append, hl.2, List.length_append]
  simp [versFrom]
  congr 1
  rw [decide_eq_decide]; omega
/-- A right tag stays right when a version is added. -/
theorem tagR_stays {l : List Vr} {v : Vr} {t : Tg} (hl : versV (l ++ [v]) = true) (h : tagR l t = true) : tagR (l ++ [v]) t = true := by
  obtain ⟨k, hk, h1, h2, h3, h4⟩ := makeTag_some (tagR_iff.1 h)
  refine tagR_iff.2 ?_
  rw [h1, makeTag_ok h2 hl (by simp; omega), List.getElem_append_left hk]
  exact congrArg some h4.symm
theorem rightTags_idem (l : List Vr) (ts : List Tg) : rightTags l (rightTags l ts) = rightTags l ts := by
  unfold rightTags; rw [List.filter_filter]; simp
end Go.Proofs.YtjadgjlidejjpaaDoor
