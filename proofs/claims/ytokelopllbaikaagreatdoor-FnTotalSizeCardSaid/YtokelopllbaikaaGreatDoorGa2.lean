/- Texts in one: Fo, Fp, Fw, Fz. -/
import Derived.Test.YtokelopllbaikaaGreatDoorGa0
import Derived.Test.YtokelopllbaikaaGreatDoorGa1
import Derived.Laws.Strings
/- Folders, files and paths, in plain Lean. No program in sight. -/
set_option linter.unusedVariables false
namespace Go.Proofs.YtokelopllbaikaaGreatDoor
--BEGIN
/-! ### texts in order -/
abbrev lessB (a b : Bs) : Bool := Op.bytesLess a b
theorem lessB_iff : ∀ {a b : Bs}, lessB a b = true ↔ a < b
  | [], [] => by simp [lessB, Op.bytesLess]
  | _ :: _, [] => by simp [lessB, Op.bytesLess]
  | [], _ :: _ => by simp [lessB, Op.bytesLess]
  | x :: a, y :: b => by
    have ih := lessB_iff (a := a) (b := b)
    unfold lessB at ih ⊢
    rw [Op.bytesLess, List.cons_lt_cons_iff, Bool.or_eq_true, Bool.and_eq_true, decide_eq_true_eq, beq_iff_eq, ih]
theorem lessB_irrefl (a : Bs) : lessB a a = false := by
  cases h : lessB a a
  · rfl
  · exact absurd (lessB_iff.1 h) (List.lt_irrefl a)
theorem lessB_trans {a b c : Bs} (h1 : lessB a b = true) (h2 : lessB b c = true) : lessB a c = true := lessB_iff.2 (List.lt_trans (lessB_iff.1 h1) (lessB_iff.1 h2))
theorem lessB_asymm {a b : Bs} (h : lessB a b = true) : lessB b a = false := by
  cases h2 : lessB b a
  · rfl
  · have := lessB_trans h h2; rw [lessB_irrefl] at this; cases this
theorem lessB_tri {a b : Bs} (h1 : lessB a b = false) (h2 : lessB b a = false) : a = b := by
  have e1 : ¬ a < b := fun h => by rw [lessB_iff.2 h] at h1; cases h1
  have e2 : ¬ b < a := fun h => by rw [lessB_iff.2 h] at h2; cases h2
  exact List.le_antisymm (List.not_lt.1 e2) (List.not_lt.1 e1)
theorem tx_mk (b : Bs) : tx (mk b) = b := rfl
theorem mk_tx (s : ByteArray) : mk (tx s) = s := by cases s; rfl
theorem tx_inj {a b : ByteArray} (h : tx a = tx b) : a = b := by rw [← mk_tx a, ← mk_tx b, h]

/-! ### entries -/
def en0 : En := (⟨#[]⟩, 0)
def entOk (e : En) : Bool := wordV (tx e.1) && pv e.2
def entAt (l : List En) (k : Nat) : Bool := entOk (l.getD k en0) && (k == 0 || lessB (tx (l.getD (k - 1) en0).1) (tx (l.getD k en0).1))
def entsV (l : List En) : Bool := decide (l.length ≤ 3) && (List.range l.length).all (entAt l)
def SortE (l : List En) : Prop := l.Pairwise fun a b => lessB (tx a.1) (tx b.1) = true
theorem getD_en {l : List En} {k : Nat} (h : k < l.length) : l.getD k en0 = l[k] := by rw [List.getD_eq_getElem?_getD, List.getElem?_eq_getElem h]; rfl
theorem entsV_iff {l : List En} : entsV l = true ↔ l.length ≤ 3 ∧ (∀ p ∈ l, entOk p = true) ∧ SortE l := by
  unfold entsV
  rw [Bool.and_eq_true, decide_eq_true_eq, List.all_eq_true]
  constructor
  · rintro ⟨h1, h2⟩
    have hk : ∀ k (h : k < l.length), entOk l[k] = true ∧ (k = 0 ∨ lessB (tx (l.getD (k - 1) en0).1) (tx l[k].1) = true) := by
      intro k h
      have := h2 k (List.mem_range.2 h)
      unfold entAt at this
      rw [Bool.and_eq_true, Bool.or_eq_true, beq_iff_eq, getD_en h] at this
      exact this
    refine ⟨h1, fun p hp => ?_, ?_⟩
    · obtain ⟨k, h, rfl⟩ := List.getElem_of_mem hp; exact (hk k h).1
    · refine List.pairwise_iff_getElem.2 ?_
      have aux : ∀ j (hj : j < l.length) i (hi : i < l.length), i < j → lessB (tx l[i].1) (tx l[j].1) = true := by
        intro j
        induction j with
        | zero => intro _ i _ h; omega
        | succ j ih =>
          intro hj i hi hij
          have h3 := (hk (j + 1) hj).2
          have h4 : l.getD (j + 1 - 1) en0 = l[j] := getD_en (k := j) (by omega)
          rw [h4] at h3
          rcases h3 with h3 | h3
          · omega
          · by_cases e : i = j
            · subst e; exact h3
            · exact lessB_trans (ih (by omega) i hi (by omega)) h3
      exact fun i j hi hj hij => aux j hj i hi hij
  · rintro ⟨h1, h2, h3⟩
    refine ⟨h1, fun k hk => ?_⟩
    rw [List.mem_range] at hk
    unfold entAt
    rw [Bool.and_eq_true, Bool.or_eq_true, beq_iff_eq, getD_en hk]
    refine ⟨h2 _ (by simp), ?_⟩
    by_cases e : k = 0
    · exact .inl e
    · right
      rw [getD_en (k := k - 1) (by omega)]
      exact List.pairwise_iff_getElem.1 h3 (k - 1) k (by omega) hk (by omega)
theorem entsV_len {l : List En} (h : entsV l = true) : l.length ≤ 3 := (entsV_iff.1 h).1
theorem entsV_sorted {l : List En} (h : entsV l = true) : SortE l := (entsV_iff.1 h).2.2
theorem entsV_ok {l : List En} (h : entsV l = true) {p : En} (hp : p ∈ l) : entOk p = true := (entsV_iff.1 h).2.1 p hp
theorem entOk_iff {p : En} : entOk p = true ↔ wordV (tx p.1) = true ∧ pv p.2 = true := by unfold entOk; rw [Bool.and_eq_true]
theorem entsV_bad {l : List En} {k : Nat} (h : k < l.length) (hb : entAt l k = false) : entsV l = false := by
  cases hv : entsV l
  · rfl
  · unfold entsV at hv
    rw [Bool.and_eq_true, List.all_eq_true] at hv
    rw [hv.2 k (List.mem_range.2 h)] at hb; cases hb
theorem entsV_long {l : List En} (h : ¬ l.length ≤ 3) : entsV l = false := by unfold entsV; rw [decide_eq_false h]; rfl
def EntUpto (l : List En) (k : Nat) : Prop := ∀ j, j < k → entAt l j = true
theorem EntUpto.zero (l : List En) : EntUpto l 0 := fun j h => by omega
theorem EntUpto.succ {l : List En} {k : Nat} (h : EntUpto l k) (hk : entAt l k = true) : EntUpto l (k + 1) := fun j hj => by
  by_cases e : j = k
  · subst e; exact hk
  · exact h j (by omega)
theorem EntUpto.done {l : List En} {k : Nat} (h : EntUpto l k) (hk : ¬ k < l.length) (hl : l.length ≤ 3) : entsV l = true := by
  unfold entsV; rw [decide_eq_true hl, Bool.true_and, List.all_eq_true]
  intro j hj; rw [List.mem_range] at hj; exact h j (by omega)
theorem entsV_nil : entsV [] = true := rfl
theorem entsV_sub {l m : List En} (h : entsV l = true) (hs : m.Sublist l) : entsV m = true := by
  obtain ⟨h1, h2, h3⟩ := entsV_iff.1 h
  exact entsV_iff.2 ⟨Nat.le_trans hs.length_le h1, fun p hp => h2 p (hs.subset hp), h3.sublist hs⟩

/-! ### where a name stands -/
def posE (l : List En) (n : Bs) : Nat := (l.takeWhile fun x => lessB (tx x.1) n).length
theorem posE_le (l : List En) (n : Bs) : posE l n ≤ l.length := (List.takeWhile_sublist _).length_le
theorem posE_of : ∀ (l : List En) (n : Bs) (i : Nat), i ≤ l.length → (∀ t (h : t < l.length), t < i → lessB (tx l[t].1) n = true) → (∀ h : i < l.length, lessB (tx l[i].1) n = false) → posE l n = i
  | [], n, i, hi, _, _ => by simp at hi; subst hi; rfl
  | x :: r, n, 0, _, _, h2 => by
    have := h2 (by simp)
    simp at this
    unfold posE; rw [List.takeWhile_cons]
    rw [if_neg (by simp [this])]; rfl
  | x :: r, n, i + 1, hi, h1, h2 => by
    have h0 := h1 0 (by simp) (by omega)
    simp at h0
    have ih := posE_of r n i (by simpa using hi) (fun t h ht => h1 (t + 1) (Nat.succ_lt_succ h) (Nat.succ_lt_succ ht)) (fun h => h2 (Nat.succ_lt_succ h))
    unfold posE at ih ⊢
    rw [List.takeWhile_cons, if_pos h0, List.length_cons, ih]
theorem posE_lt : ∀ (l : List En) (n : Bs) (t : Nat) (h : t < l.length), t < posE l n → lessB (tx l[t].1) n = true
  | x :: r, n, t, h, ht => by
    unfold posE at ht
    rw [List.takeWhile_cons] at ht
    split at ht
    · rename_i hx
      cases t with
      | zero => simpa using hx
      | succ t => simpa using posE_lt r n t (by simpa using h) (by unfold posE; simpa using ht)
    · simp at ht
theorem posE_ge : ∀ (l : List En) (n : Bs) (h : posE l n < l.length), lessB (tx l[posE l n].1) n = false
  | [], n, h => by simp at h
  | x :: r, n, h => by
    by_cases hx : lessB (tx x.1) n = true
    · have e : posE (x :: r) n = posE r n + 1 := by unfold posE; rw [List.takeWhile_cons, if_pos hx]; rfl
      have h' : posE r n < r.length := by rw [e] at h; simpa using h
      have := posE_ge r n h'
      simp only [e, List.getElem_cons_succ]; exact this
    · have e : posE (x :: r) n = 0 := by unfold posE; rw [List.takeWhile_cons, if_neg hx]; rfl
      simp only [e, List.getElem_cons_zero]; simpa using hx
def hereE (l : List En) (n : Bs) : Bool := decide (posE l n < l.length) && (tx (l.getD (posE l n) en0).1 == n)
def getE (l : List En) (n : Bs) : Option Int := (l.find? fun x => tx x.1 == n).map (·.2)
theorem getE_some {l : List En} {n : Bs} {p : Int} (h : getE l n = some p) : (mk n, p) ∈ l := by
  unfold getE at h
  obtain ⟨x, hx, rfl⟩ := Option.map_eq_some_iff.1 h
  have h1 := List.mem_of_find?_eq_some hx
  have h2 := List.find?_some hx
  simp at h2
  have e : x = (mk n, x.2) := Prod.ext (tx_inj (by rw [h2]; rfl)) rfl
  rw [← e]; exact h1
theorem getE_none_iff {l : List En} {n : Bs} : getE l n = none ↔ ∀ x ∈ l, tx x.1 ≠ n := by
  unfold getE
  rw [Option.map_eq_none_iff, List.find?_eq_none]
  simp
theorem sortE_inj {l : List En} (h : SortE l) {a b : En} (ha : a ∈ l) (hb : b ∈ l) (e : tx a.1 = tx b.1) : a = b := by
  obtain ⟨i, hi, rfl⟩ := List.getElem_of_mem ha
  obtain ⟨j, hj, rfl⟩ := List.getElem_of_mem hb
  have hp := List.pairwise_iff_getElem.1 h
  by_cases h1 : i < j
  · have := hp i j hi hj h1; rw [e, lessB_irrefl] at this; cases this
  · by_cases h2 : j < i
    · have := hp j i hj hi h2; rw [e, lessB_irrefl] at this; cases this
    · have : i = j := by omega
      subst this; rfl
theorem getE_mem {l : List En} (hs : SortE l) {n : Bs} {p : Int} (h : (mk n, p) ∈ l) : getE l n = some p := by
  cases hg : getE l n with
  | none => exact absurd rfl (getE_none_iff.1 hg _ h)
  | some u =>
    have := sortE_inj hs (getE_some hg) h rfl
    injection this with _ e; rw [e]
theorem getE_here {l : List En} (hs : SortE l) {n : Bs} : getE l n = if hereE l n then some (l.getD (posE l n) en0).2 else none := by
  unfold hereE
  by_cases hlt : posE l n < l.length
  · rw [decide_eq_true hlt, Bool.true_and, getD_en hlt]
    by_cases e : tx l[posE l n].1 = n
    · rw [beq_iff_eq.2 e, if_pos rfl]
      exact getE_mem hs (by
        have e2 : (mk n, l[posE l n].2) = l[posE l n] := Prod.ext (tx_inj (by rw [e]; rfl)) rfl
        rw [e2]; exact List.getElem_mem hlt)
    · rw [beq_eq_false_iff_ne.2 e, if_neg (by simp)]
      refine getE_none_iff.2 fun x hx hxe => ?_
      obtain ⟨t, ht, rfl⟩ := List.getElem_of_mem hx
      by_cases h1 : t < posE l n
      · have := posE_lt l n t ht h1; rw [hxe, lessB_irrefl] at this; cases this
      · by_cases e2 : posE l n = t
        · subst e2; exact e hxe
        · have h2 := posE_ge l n hlt
          have h3 := List.pairwise_iff_getElem.1 hs (posE l n) t hlt ht (by omega)
          rw [hxe] at h3; rw [h3] at h2; cases h2
  · rw [decide_eq_false hlt, Bool.false_and, if_neg (by simp)]
    refine getE_none_iff.2 fun x hx hxe => ?_
    obtain ⟨t, ht, rfl⟩ := List.getElem_of_mem hx
    have := posE_lt l n t ht (by omega)
    rw [hxe, lessB_irrefl] at this; cases this
/-! ### one entry more, one less -/
def insE (l : List En) (e : En) : List En := l.take (posE l (tx e.1)) ++ e :: l.drop (posE l (tx e.1) + if hereE l (tx e.1) then 1 else 0)
def putE (l : List En) (e : En) : List En × Bool := if entsV l then (if entsV (insE l e) then (insE l e, true) else (l, false)) else ([], false)
def dropE (l : List En) (n : Bs) : List En × Bool := if entsV l then (if hereE l n then (l.take (posE l n) ++ l.drop (posE l n + 1), true) else (l, false)) else ([], false)
theorem hereE_iff {l : List En} {n : Bs} : hereE l n = true ↔ ∃ h : posE l n < l.length, tx l[posE l n].1 = n := by
  unfold hereE
  rw [Bool.and_eq_true, decide_eq_true_eq, beq_iff_eq]
  constructor
  · rintro ⟨h1, h2⟩; rw [getD_en h1] at h2; exact ⟨h1, h2⟩
  · rintro ⟨h1, h2⟩; rw [getD_en h1]; exact ⟨h1, h2⟩
theorem hereE_get {l : List En} (hs : SortE l) {n : Bs} : hereE l n = (getE l n).isSome := by
  rw [getE_here hs]; cases hereE l n <;> rfl
theorem mem_insE {l : List En} (hs : SortE l) (e x : En) : x ∈ insE l e ↔ x = e ∨ (x ∈ l ∧ tx x.1 ≠ tx e.1) := by
  unfold insE
  rw [List.mem_append, List.mem_cons]
  have hlo : ∀ a ∈ l.take (posE l (tx e.1)), tx a.1 ≠ tx e.1 := by
    intro a ha he
    obtain ⟨t, ht, rfl⟩ := List.getElem_of_mem ha
    rw [List.length_take] at ht
    rw [List.getElem_take] at he
    have := posE_lt l (tx e.1) t (by omega) (by omega)
    rw [he, lessB_irrefl] at this; cases this
  cases hh : hereE l (tx e.1)
  · simp only [Bool.false_eq_true, if_false, Nat.add_zero]
    rw [hereE_get hs, Option.isSome_eq_false_iff, Option.isNone_iff_eq_none] at hh
    have hn := getE_none_iff.1 hh
    constructor
    · rintro (h | h | h)
      · exact .inr ⟨List.mem_of_mem_take h, hlo _ h⟩
      · exact .inl h
      · exact .inr ⟨List.mem_of_mem_drop h, hn _ (List.mem_of_mem_drop h)⟩
    · rintro (h | ⟨h, _⟩)
      · exact .inr (.inl h)
      · rw [← List.take_append_drop (posE l (tx e.1)) l, List.mem_append] at h
        exact h.elim .inl fun h => .inr (.inr h)
  · simp only [if_true]
    obtain ⟨hp, he⟩ := hereE_iff.1 hh
    have hdr : l.drop (posE l (tx e.1)) = l[posE l (tx e.1)] :: l.drop (posE l (tx e.1) + 1) := List.drop_eq_getElem_cons hp
    constructor
    · rintro (h | h | h)
      · exact .inr ⟨List.mem_of_mem_take h, hlo _ h⟩
      · exact .inl h
      · refine .inr ⟨List.mem_of_mem_drop h, fun hx => ?_⟩
        obtain ⟨t, ht, rfl⟩ := List.getElem_of_mem h
        rw [List.length_drop] at ht
        rw [List.getElem_drop] at hx
        have h3 := List.pairwise_iff_getElem.1 hs (posE l (tx e.1)) (posE l (tx e.1) + 1 + t) hp (by omega) (by omega)
        rw [hx, he, lessB_irrefl] at h3; cases h3
    · rintro (h | ⟨h, hne⟩)
      · exact .inr (.inl h)
      · rw [← List.take_append_drop (posE l (tx e.1)) l, List.mem_append, hdr, List.mem_cons] at h
        rcases h with h | h | h
        · exact .inl h
        · rw [h] at hne; exact absurd he hne
        · exact .inr (.inr h)
theorem insE_len (l : List En) (e : En) : (insE l e).length ≤ l.length + 1 := by
  have := posE_le l (tx e.1)
  unfold insE; simp; omega
theorem dropE_filter {l : List En} (h : entsV l = true) (n : Bs) : (dropE l n).1 = l.filter fun x => !(tx x.1 == n) := by
  have hs := entsV_sorted h
  unfold dropE
  rw [h, if_pos rfl]
  cases hh : hereE l n
  · rw [hereE_get hs, Option.isSome_eq_false_iff, Option.isNone_iff_eq_none] at hh
    have hn := getE_none_iff.1 hh
    rw [if_neg (by simp)]
    refine (List.filter_eq_self.2 fun x hx => ?_).symm
    simpa using hn x hx
  · rw [if_pos rfl]
    obtain ⟨hp, he⟩ := hereE_iff.1 hh
    have hdr : l.drop (posE l n) = l[posE l n] :: l.drop (posE l n + 1) := List.drop_eq_getElem_cons hp
    conv => rhs; rw [← List.take_append_drop (posE l n) l, hdr, List.filter_append, List.filter_cons]
    rw [if_neg (by simp [he])]
    show l.take (posE l n) ++ l.drop (posE l n + 1) = _
    congr 1
    · refine (List.filter_eq_self.2 fun x hx => ?_).symm
      obtain ⟨t, ht, rfl⟩ := List.getElem_of_mem hx
      rw [List.length_take] at ht
      rw [List.getElem_take]
      have := posE_lt l n t (by omega) (by omega)
      simp only [Bool.not_eq_true', beq_eq_false_iff_ne]
      intro e; rw [e, lessB_irrefl] at this; cases this
    · refine (List.filter_eq_self.2 fun x hx => ?_).symm
      obtain ⟨t, ht, rfl⟩ := List.getElem_of_mem hx
      rw [List.length_drop] at ht
      rw [List.getElem_drop]
      have h4 := List.pairwise_iff_getElem.1 hs (posE l n) (posE l n + 1 + t) hp (by omega) (by omega)
      simp only [Bool.not_eq_true', beq_eq_false_iff_ne]
      intro e; rw [he, e, lessB_irrefl] at h4; cases h4
theorem dropE_ok {l : List En} (h : entsV l = true) (n : Bs) : (dropE l n).2 = hereE l n := by
  unfold dropE; rw [h, if_pos rfl]; cases hereE l n <;> rfl
theorem dropE_valid {l : List En} (h : entsV l = true) (n : Bs) : entsV (dropE l n).1 = true := by
  rw [dropE_filter h]; exact entsV_sub h List.filter_sublist
theorem dropE_bad {l : List En} (h : entsV l = false) (n : Bs) : dropE l n = ([], false) := by unfold dropE; rw [h]; rfl
theorem dropE_lt {l : List En} (h : entsV l = true) (n : Bs) : decide ((dropE l n).1.length < l.length) = hereE l n := by
  unfold dropE
  rw [h, if_pos rfl]
  cases hh : hereE l n
  · simp
  · obtain ⟨hp, _⟩ := hereE_iff.1 hh
    simp; omega
theorem putE_bad {l : List En} (h : entsV l = false) (e : En) : putE l e = ([], false) := by unfold putE; rw [h]; rfl
theorem putE_ok {l : List En} {e : En} (h : (putE l e).2 = true) : entsV l = true ∧ entsV (putE l e).1 = true ∧ (putE l e).1 = insE l e := by
  unfold putE at h ⊢
  cases h1 : entsV l
  · rw [h1] at h; cases h
  · rw [h1, if_pos rfl] at h
    rw [if_pos rfl]
    cases h2 : entsV (insE l e)
    · rw [h2] at h; cases h
    · exact ⟨rfl, h2, rfl⟩
theorem putE_len (l : List En) (e : En) : (putE l e).1.length ≤ 3 := by
  unfold putE
  cases h1 : entsV l
  · simp
  · rw [if_pos rfl]
    split
    · rename_i h; exact entsV_len h
    · exact entsV_len h1
--END
end Go.Proofs.YtokelopllbaikaaGreatDoor

/- Folders' texts, files, paths, walks, in plain Lean. No program in sight. -/
set_option linter.unusedVariables false
namespace Go.Proofs.YtokelopllbaikaaGreatDoor
--BEGIN
/-! ### a folder's text -/
def entT (e : En) : Bs := tx e.1 ++ 61 :: (hexT e.2 ++ [59])
def foldB (l : List En) : Bs := 100 :: l.flatMap entT
def foldT (l : List En) : Bs := if entsV l then foldB l else []
def headN (s : Bs) : Bs := s.takeWhile fun c => c != 61
def tailN (s : Bs) : Bs := s.drop ((headN s).length + 1)
def headD' (s : Bs) : Bs := s.takeWhile fun c => c != 59
def tailD (s : Bs) : Bs := s.drop ((headD' s).length + 1)
def parE : Nat → Bs → Option (List En)
  | 0, s => if s = [] then some [] else none
  | n + 1, s => if s = [] then some [] else (parE n (tailD (tailN s))).map fun l => (mk (headN s), readH (headD' (tailN s))) :: l
def readF (s : Bs) : Option (List En) := match parE 3 (s.drop 1) with | some l => if entsV l && (foldB l == s) then some l else none | none => none
theorem word_chars {s : Bs} (h : wordV s = true) : ∀ c ∈ s, smallC c = true ∨ digitC c = true := by
  unfold wordV at h
  rw [Bool.and_eq_true, List.all_eq_true] at h
  intro c hc
  have := h.2 c hc
  rwa [Bool.or_eq_true] at this
theorem word_range {c : UInt8} (h : smallC c = true ∨ digitC c = true) : (48 ≤ c.toNat ∧ c.toNat ≤ 57) ∨ (97 ≤ c.toNat ∧ c.toNat ≤ 122) := by
  unfold smallC digitC inI at h
  rw [decide_eq_true_eq, decide_eq_true_eq] at h
  omega
theorem hex_range {c : UInt8} (h : (hexV c).isSome = true) : (48 ≤ c.toNat ∧ c.toNat ≤ 57) ∨ (97 ≤ c.toNat ∧ c.toNat ≤ 122) := by
  unfold hexV at h
  split at h
  · rename_i h1; exact word_range (.inr h1)
  · split at h
    · rename_i h1; unfold inI at h1; rw [decide_eq_true_eq] at h1; omega
    · cases h
theorem byte_ne {c : UInt8} {n : Nat} (hn : n < 256) (h : c.toNat ≠ n) : c ≠ UInt8.ofNat n := by
  intro e; apply h; rw [e, UInt8.toNat_ofNat']; omega
theorem range_ne {c : UInt8} (h : (48 ≤ c.toNat ∧ c.toNat ≤ 57) ∨ (97 ≤ c.toNat ∧ c.toNat ≤ 122)) : c ≠ 61 ∧ c ≠ 59 ∧ c ≠ 47 ∧ c ≠ 32 ∧ okC c = true := by
  refine ⟨byte_ne (n := 61) (by omega) (by omega), byte_ne (n := 59) (by omega) (by omega), byte_ne (n := 47) (by omega) (by omega), byte_ne (n := 32) (by omega) (by omega), ?_⟩
  unfold okC; rw [decide_eq_true_eq]; omega
theorem takeWhile_stop {p : UInt8 → Bool} {a : Bs} {c : UInt8} {r : Bs} (ha : ∀ x ∈ a, p x = true) (hc : p c = false) : (a ++ c :: r).takeWhile p = a := by
  rw [List.takeWhile_append_of_pos ha, List.takeWhile_cons, hc]; simp
theorem drop_past (a : Bs) (c : UInt8) (r : Bs) : (a ++ c :: r).drop (a.length + 1) = r := by
  rw [List.drop_append]; simp
theorem entT_word {e : En} (h : entOk e = true) : ∀ c ∈ tx e.1, (c != 61) = true := fun c hc => by
  have := (range_ne (word_range (word_chars (entOk_iff.1 h).1 c hc))).1; simpa using this
theorem entT_hex (n : Int) : ∀ c ∈ hexT n, (c != 59) = true := fun c hc => by
  have := (range_ne (hex_range (hexT_chars n c hc))).2.1; simpa using this
theorem headN_ent {e : En} (h : entOk e = true) (r : Bs) : headN (entT e ++ r) = tx e.1 := by
  unfold headN entT
  rw [List.append_assoc, List.cons_append]
  exact takeWhile_stop (entT_word h) (by decide)
theorem tailN_ent {e : En} (h : entOk e = true) (r : Bs) : tailN (entT e ++ r) = hexT e.2 ++ 59 :: r := by
  unfold tailN
  rw [headN_ent h]
  unfold entT
  rw [List.append_assoc, List.cons_append, drop_past, List.append_assoc]; rfl
theorem headD_ent (n : Int) (r : Bs) : headD' (hexT n ++ 59 :: r) = hexT n := takeWhile_stop (entT_hex n) (by decide)
theorem tailD_ent (n : Int) (r : Bs) : tailD (hexT n ++ 59 :: r) = r := by unfold tailD; rw [headD_ent, drop_past]
theorem entT_ne (e : En) (r : Bs) : entT e ++ r ≠ [] := by unfold entT; simp
theorem parE_ok : ∀ (n : Nat) (l : List En), l.length ≤ n → (∀ e ∈ l, entOk e = true) → parE n (l.flatMap entT) = some l
  | 0, l, hn, _ => by
    have : l = [] := List.eq_nil_of_length_eq_zero (by omega)
    subst this; rfl
  | n + 1, [], _, _ => rfl
  | n + 1, e :: r, hn, h => by
    have he := h e (by simp)
    rw [List.flatMap_cons, parE, if_neg (entT_ne _ _), headN_ent he, tailN_ent he, headD_ent, tailD_ent, parE_ok n r (by simpa using hn) (fun x hx => h x (by simp [hx])), readH_hexT (entOk_iff.1 he).2]
    rw [mk_tx]; rfl
theorem readF_iff {s : Bs} {l : List En} : readF s = some l ↔ entsV l = true ∧ foldB l = s := by
  unfold readF
  constructor
  · intro h
    split at h
    · split at h
      · rename_i hc
        injection h with h; subst h
        rw [Bool.and_eq_true, beq_iff_eq] at hc; exact hc
      · cases h
    · cases h
  · rintro ⟨h1, rfl⟩
    have e : (foldB l).drop 1 = l.flatMap entT := rfl
    rw [e, parE_ok 3 l (entsV_len h1) (fun x hx => entsV_ok h1 hx)]
    show (if entsV l && (foldB l == foldB l) then some l else none) = some l
    rw [h1]; simp
theorem readF_none {s : Bs} (h : ∀ l, entsV l = true → foldB l ≠ s) : readF s = none := by
  cases hr : readF s with
  | none => rfl
  | some l => obtain ⟨h1, h2⟩ := readF_iff.1 hr; exact absurd h2 (h l h1)
theorem readF_foldT {l : List En} (h : entsV l = true) : readF (foldT l) = some l := by unfold foldT; rw [h, if_pos rfl]; exact readF_iff.2 ⟨h, rfl⟩
theorem entT_len (e : En) (h : entOk e = true) : (entT e).length ≤ 16 := by
  have h1 := hexT_len e.2
  have h2 : (tx e.1).length ≤ 8 := by
    have := (entOk_iff.1 h).1; unfold wordV at this; rw [Bool.and_eq_true, Bool.and_eq_true, decide_eq_true_eq] at this; exact this.1.1.2
  unfold entT
  rw [List.length_append, List.length_cons, List.length_append, List.length_singleton]; omega
theorem flat_ent_len : ∀ l : List En, (∀ e ∈ l, entOk e = true) → (l.flatMap entT).length ≤ 16 * l.length
  | [], _ => by simp
  | e :: r, h => by
    have h1 := entT_len e (h e (by simp))
    have h2 := flat_ent_len r fun x hx => h x (by simp [hx])
    rw [List.flatMap_cons, List.length_append, List.length_cons]; omega
theorem foldB_len {l : List En} (h : entsV l = true) : (foldB l).length ≤ 49 := by
  have h1 := flat_ent_len l fun e he => entsV_ok h he
  have h2 := entsV_len h
  unfold foldB; rw [List.length_cons]; omega
theorem foldT_len (l : List En) : (foldT l).length ≤ 49 := by
  unfold foldT; split
  · rename_i h; exact foldB_len h
  · simp
theorem entT_ok {e : En} (h : entOk e = true) : ∀ c ∈ entT e, okC c = true := by
  intro c hc
  unfold entT at hc
  rw [List.mem_append, List.mem_cons, List.mem_append, List.mem_singleton] at hc
  rcases hc with hc | rfl | hc | rfl
  · exact (range_ne (word_range (word_chars (entOk_iff.1 h).1 c hc))).2.2.2.2
  · decide
  · exact (range_ne (hex_range (hexT_chars _ c hc))).2.2.2.2
  · decide
theorem foldB_text {l : List En} (h : entsV l = true) : textV (foldB l) = true := by
  unfold textV
  rw [Bool.and_eq_true, decide_eq_true_eq, List.all_eq_true]
  refine ⟨by have := foldB_len h; omega, fun c hc => ?_⟩
  unfold foldB at hc
  rcases List.mem_cons.1 hc with rfl | hc
  · decide
  · obtain ⟨e, he, hc⟩ := List.mem_flatMap.1 hc
    exact entT_ok (entsV_ok h he) c hc

/-! ### files -/
def contV (s : Bs) : Bool := textV s && decide (s.length ≤ 40)
def fileT (s : Bs) : Bs := if contV s then 102 :: s else []
def readFi (s : Bs) : Option Bs := match s with | [] => none | c :: r => if c == 102 && contV r then some r else none
def textK (s : Bs) : Int := if (readFi s).isSome then 1 else if (readF s).isSome then 2 else 0
theorem readFi_iff {s r : Bs} : readFi s = some r ↔ s = 102 :: r ∧ contV r = true := by
  unfold readFi
  cases s with
  | nil => simp
  | cons c t =>
    simp only
    constructor
    · intro h
      split at h
      · rename_i hc
        injection h with h; subst h
        rw [Bool.and_eq_true, beq_iff_eq] at hc
        exact ⟨by rw [hc.1], hc.2⟩
      · cases h
    · rintro ⟨h1, h2⟩
      injection h1 with h3 h4; subst h3 h4
      rw [h2]; simp
theorem readF_file {s : Bs} (h : (readFi s).isSome = true) : readF s = none := by
  obtain ⟨r, hr⟩ := Option.isSome_iff_exists.1 h
  obtain ⟨rfl, _⟩ := readFi_iff.1 hr
  refine readF_none fun l _ e => ?_
  unfold foldB at e; injection e with e _; exact absurd e (by decide)
theorem textK_one {s : Bs} : textK s = 1 ↔ (readFi s).isSome = true := by
  unfold textK
  cases h : (readFi s).isSome
  · cases h2 : (readF s).isSome <;> simp
  · simp
theorem fileT_ok {s : Bs} (h : contV s = true) : fileT s = 102 :: s := by unfold fileT; rw [h, if_pos rfl]
theorem fileT_text {s : Bs} (h : contV s = true) : textV (fileT s) = true := by
  rw [fileT_ok h]
  unfold contV textV at h
  rw [Bool.and_eq_true, Bool.and_eq_true, decide_eq_true_eq, decide_eq_true_eq] at h
  unfold textV
  rw [Bool.and_eq_true, decide_eq_true_eq, List.all_cons, Bool.and_eq_true]
  exact ⟨by simp; omega, by decide, h.1.2⟩
theorem readFi_fileT {s : Bs} (h : contV s = true) : readFi (fileT s) = some s := readFi_iff.2 ⟨fileT_ok h, h⟩

/-! ### paths -/
def joinB (ps : List Bs) : Bs := ps.flatMap fun p => 47 :: p
def partsV (ps : List Bs) : Bool := decide (ps.length ≤ 3) && ps.all wordV
def joinP (ps : List Bs) : Bs := if partsV ps then (if ps = [] then [47] else joinB ps) else []
def splitS (c : UInt8) : Bs → List Bs
  | [] => [[]]
  | x :: r => if x = c then [] :: splitS c r else match splitS c r with | p :: ps => (x :: p) :: ps | [] => [[x]]
theorem splitS_ne (c : UInt8) (s : Bs) : splitS c s ≠ [] := by
  cases s with
  | nil => simp [splitS]
  | cons x r =>
    rw [splitS]; split
    · simp
    · split <;> simp
theorem joinB_split : ∀ s : Bs, joinB (splitS 47 s) = 47 :: s
  | [] => rfl
  | x :: r => by
    rw [splitS]
    have ih := joinB_split r
    split
    · rename_i h
      subst h
      unfold joinB at ih ⊢
      rw [List.flatMap_cons, ih]; rfl
    · split
      · rename_i p ps he
        rw [he] at ih
        unfold joinB at ih ⊢
        rw [List.flatMap_cons] at ih ⊢
        injection ih with _ ih
        show 47 :: x :: (p.append _) = _
        rw [ih]
      · rename_i he; exact absurd he (splitS_ne 47 r)
def pathP (s : Bs) : Option (List Bs) := if s = [47] then some [] else if s.headD 0 = 47 then (if partsV (splitS 47 s.tail) then some (splitS 47 s.tail) else none) else none
theorem pathP_join {s : Bs} {ps : List Bs} (h : pathP s = some ps) : partsV ps = true ∧ joinP ps = s := by
  unfold pathP at h
  split at h
  · rename_i e; injection h with h; subst h e; exact ⟨rfl, rfl⟩
  · split at h
    · rename_i hd
      split at h
      · rename_i hv
        injection h with h; subst h
        refine ⟨hv, ?_⟩
        unfold joinP
        rw [hv, if_pos rfl, if_neg (splitS_ne _ _), joinB_split]
        cases s with
        | nil => exact absurd hd (by decide)
        | cons x r => simp at hd; subst hd; rfl
      · cases h
    · cases h
theorem splitS_word {p : Bs} (hp : ∀ c ∈ p, c ≠ 47) : splitS 47 p = [p] := by
  induction p with
  | nil => rfl
  | cons x r ih =>
    rw [splitS, if_neg (hp x (by simp)), ih fun c hc => hp c (by simp [hc])]
theorem splitS_join {p : Bs} (hp : ∀ c ∈ p, c ≠ 47) (r : Bs) : splitS 47 (p ++ 47 :: r) = p :: splitS 47 r := by
  induction p with
  | nil => rw [List.nil_append, splitS, if_pos rfl]
  | cons x q ih =>
    rw [List.cons_append, splitS, if_neg (hp x (by simp)), ih fun c hc => hp c (by simp [hc])]
theorem word_noslash {p : Bs} (h : wordV p = true) : ∀ c ∈ p, c ≠ 47 := fun c hc => (range_ne (word_range (word_chars h c hc))).2.2.1
theorem split_joinB : ∀ (ps : List Bs) (p : Bs), wordV p = true → (∀ q ∈ ps, wordV q = true) → splitS 47 (p ++ joinB ps) = p :: ps
  | [], p, hp, _ => by unfold joinB; rw [List.flatMap_nil, List.append_nil]; exact splitS_word (word_noslash hp)
  | q :: r, p, hp, h => by
    have e : p ++ joinB (q :: r) = p ++ 47 :: (q ++ joinB r) := by unfold joinB; rw [List.flatMap_cons]; rfl
    rw [e, splitS_join (word_noslash hp), split_joinB r q (h q (by simp)) fun x hx => h x (by simp [hx])]
theorem partsV_iff {ps : List Bs} : partsV ps = true ↔ ps.length ≤ 3 ∧ ∀ p ∈ ps, wordV p = true := by unfold partsV; rw [Bool.and_eq_true, decide_eq_true_eq, List.all_eq_true]
theorem word_ne {p : Bs} (h : wordV p = true) : p ≠ [] := by
  intro e; subst e; cases h
theorem pathP_of {ps : List Bs} (h : partsV ps = true) : pathP (joinP ps) = some ps := by
  obtain ⟨h1, h2⟩ := partsV_iff.1 h
  unfold joinP
  rw [h, if_pos rfl]
  cases ps with
  | nil => rfl
  | cons p r =>
    rw [if_neg (by simp)]
    have e : joinB (p :: r) = 47 :: (p ++ joinB r) := by unfold joinB; rw [List.flatMap_cons]; rfl
    have hne := word_ne (h2 p (by simp))
    unfold pathP
    rw [e, if_neg (by intro e2; injection e2 with _ e2; rw [List.append_eq_nil_iff] at e2; exact hne e2.1), if_pos (by rfl), List.tail_cons, split_joinB r p (h2 p (by simp)) fun x hx => h2 x (by simp [hx]), h, if_pos rfl]
def belowP (path above : Bs) : Bool := match pathP path, pathP above with | some a, some b => b.isPrefixOf a | _, _ => false

/-! ### walks -/
def folderOf (s : List Pc) (p : Int) : Option (List En) := (getT s p).bind fun t => readF (tx t)
def fileOf (s : List Pc) (p : Int) : Option Bs := (getT s p).bind fun t => readFi (tx t)
def walkP (s : List Pc) : Int → List Bs → Option Int
  | p, [] => if (getT s p).isSome then some p else none
  | p, n :: r => (folderOf s p).bind fun l => (getE l n).bind fun q => walkP s q r
def walkTo (s : List Pc) (root : Int) (path : Bs) : Option Int := if storeV s then (pathP path).bind fun ps => walkP s root ps else none
def readAt (s : List Pc) (root : Int) (path : Bs) : Option Bs := (walkTo s root path).bind fun p => fileOf s p
theorem getT_valid {s : List Pc} (hs : storeV s = true) {p : Int} {t : ByteArray} (h : getT s p = some t) : textV (tx t) = true ∧ prOf (tx t) = p ∧ pv p = true := by
  have := pieceOk_iff.1 (storeV_piece hs (getT_some h))
  have h2 : prOf (tx t) = p := this.2
  exact ⟨this.1, h2, by rw [← h2]; exact prOf_pv this.1⟩
theorem folder_valid {s : List Pc} {p : Int} {l : List En} (h : folderOf s p = some l) : entsV l = true := by
  unfold folderOf at h
  obtain ⟨t, _, h2⟩ := Option.bind_eq_some_iff.1 h
  exact (readF_iff.1 h2).1
theorem walkP_there {s : List Pc} : ∀ {ps : List Bs} {p q : Int}, walkP s p ps = some q → (getT s q).isSome = true
  | [], p, q, h => by
    rw [walkP] at h; split at h
    · rename_i hs; injection h with h; subst h; exact hs
    · cases h
  | n :: r, p, q, h => by
    rw [walkP] at h
    obtain ⟨l, _, h⟩ := Option.bind_eq_some_iff.1 h
    obtain ⟨x, _, h⟩ := Option.bind_eq_some_iff.1 h
    exact walkP_there h
--END
end Go.Proofs.YtokelopllbaikaaGreatDoor

/- Writing into stores and dropping out of them, in plain Lean. No program in sight. -/
set_option linter.unusedVariables false
namespace Go.Proofs.YtokelopllbaikaaGreatDoor
--BEGIN
/-! ### some texts more -/
def putAll : List Pc → List ByteArray → Option (List Pc)
  | s, [] => some s
  | s, t :: r => if (putT s t).2.2 then putAll (putT s t).1 r else none
theorem putAll_append : ∀ (a b : List ByteArray) (s : List Pc), putAll s (a ++ b) = (putAll s a).bind fun s' => putAll s' b
  | [], b, s => rfl
  | t :: r, b, s => by
    rw [List.cons_append, putAll, putAll]
    split
    · exact putAll_append r b _
    · rfl
theorem putAll_one (s : List Pc) (t : ByteArray) : putAll s [t] = if (putT s t).2.2 then some (putT s t).1 else none := rfl
theorem putAll_ok : ∀ (ts : List ByteArray) (s s' : List Pc), storeV s = true → putAll s ts = some s' → storeV s' = true ∧ ∀ p, p ∈ s' ↔ p ∈ s ∨ ∃ t ∈ ts, p = (prOf (tx t), t)
  | [], s, s', hs, h => by
    rw [putAll] at h; injection h with h; subst h
    exact ⟨hs, fun p => by simp⟩
  | t :: r, s, s', hs, h => by
    rw [putAll] at h
    split at h
    · rename_i hok
      obtain ⟨_, hp, _⟩ := putT_ok hok
      obtain ⟨h1, h2⟩ := putAll_ok r _ s' hp.valid h
      refine ⟨h1, fun p => ?_⟩
      rw [h2 p, hp.mem p]
      constructor
      · rintro ((h3 | h3) | ⟨u, hu, h3⟩)
        · exact .inl h3
        · exact .inr ⟨t, by simp, h3⟩
        · exact .inr ⟨u, by simp [hu], h3⟩
      · rintro (h3 | ⟨u, hu, h3⟩)
        · exact .inl (.inl h3)
        · rcases List.mem_cons.1 hu with rfl | hu
          · exact .inl (.inr h3)
          · exact .inr ⟨u, hu, h3⟩
    · cases h
theorem nodup_len {α : Type} [DecidableEq α] : ∀ (a b : List α), a.Nodup → (∀ x ∈ a, x ∈ b) → a.length ≤ b.length
  | [], b, _, _ => by simp
  | x :: r, b, h, hs => by
    have hx := hs x (by simp)
    have hn := List.nodup_cons.1 h
    have ih := nodup_len r (b.erase x) hn.2 fun y hy => (List.mem_erase_of_ne (fun e => hn.1 (by rw [← e]; exact hy))).2 (hs y (by simp [hy]))
    rw [List.length_erase_of_mem hx] at ih
    have hp : 0 < b.length := List.length_pos_of_mem hx
    rw [List.length_cons]; omega
theorem putAll_can : ∀ (ts : List ByteArray) (s s' : List Pc), storeV s = true → storeV s' = true → (∀ p, p ∈ s' ↔ p ∈ s ∨ ∃ t ∈ ts, p = (prOf (tx t), t)) → putAll s ts = some s'
  | [], s, s', hs, hs', h => by
    rw [putAll]; congr 1
    exact store_ext hs hs' fun p => by rw [h p]; simp
  | t :: r, s, s', hs, hs', h => by
    have hin : (prOf (tx t), t) ∈ s' := (h _).2 (.inr ⟨t, by simp, rfl⟩)
    have htx := (pieceOk_iff.1 (storeV_piece hs' hin)).1
    have hok : (putT s t).2.2 = true := by
      refine putT_can.2 ⟨hs, htx, fun u hu => ?_, ?_⟩
      · have := sorted_inj (storeV_sorted hs') ((h _).2 (.inl hu)) hin rfl
        injection this
      · by_cases hm : (prOf (tx t), t) ∈ s
        · exact .inl hm
        · right
          have h1 : ((prOf (tx t), t) :: s).length ≤ s'.length := by
            have nl : s.Nodup := (storeV_sorted hs).imp (fun h e => by subst e; omega)
            refine nodup_len _ _ (List.nodup_cons.2 ⟨hm, nl⟩) fun p hp => ?_
            rcases List.mem_cons.1 hp with rfl | hp
            · exact hin
            · exact (h _).2 (.inl hp)
          have h2 := storeV_len hs'
          rw [List.length_cons] at h1; omega
    rw [putAll, if_pos hok]
    obtain ⟨_, hp, _⟩ := putT_ok hok
    refine putAll_can r _ s' hp.valid hs' fun p => ?_
    rw [h p, hp.mem p]
    constructor
    · rintro (h3 | ⟨u, hu, h3⟩)
      · exact .inl (.inl h3)
      · rcases List.mem_cons.1 hu with rfl | hu
        · exact .inl (.inr h3)
        · exact .inr ⟨u, hu, h3⟩
    · rintro ((h3 | h3) | ⟨u, hu, h3⟩)
      · exact .inl h3
      · exact .inr ⟨t, by simp, h3⟩
      · exact .inr ⟨u, by simp [hu], h3⟩
/-- Whatever the order: the same texts lead to the same store, or none. -/
theorem putAll_congr {s : List Pc} {a b : List ByteArray} (hs : storeV s = true) (h : ∀ t, t ∈ a ↔ t ∈ b) : putAll s a = putAll s b := by
  have key : ∀ {a b : List ByteArray} {s' : List Pc}, (∀ t, t ∈ a ↔ t ∈ b) → putAll s a = some s' → putAll s b = some s' := by
    intro a b s' h ha
    obtain ⟨h1, h2⟩ := putAll_ok a s s' hs ha
    refine putAll_can b s s' hs h1 fun p => ?_
    rw [h2 p]
    simp only [h]
  cases ha : putAll s a with
  | some s' => exact (key h ha).symm
  | none =>
    cases hb : putAll s b with
    | none => rfl
    | some s' => rw [key (fun t => (h t).symm) hb] at ha; cases ha
theorem getT_keep {s s' : List Pc} {ts : List ByteArray} (hs : storeV s = true) (h : putAll s ts = some s') {p : Int} {t : ByteArray} (hg : getT s p = some t) : getT s' p = some t := by
  obtain ⟨h1, h2⟩ := putAll_ok _ _ _ hs h
  exact getT_mem (storeV_sorted h1) ((h2 _).2 (.inl (getT_some hg)))
theorem getT_put {s s' : List Pc} {ts : List ByteArray} (hs : storeV s = true) (h : putAll s ts = some s') {t : ByteArray} (ht : t ∈ ts) : getT s' (prOf (tx t)) = some t := by
  obtain ⟨h1, h2⟩ := putAll_ok _ _ _ hs h
  exact getT_mem (storeV_sorted h1) ((h2 _).2 (.inr ⟨t, ht, rfl⟩))
/-! ### writing -/
def leafOk (s : List Pc) : Option Int → Bool
  | some q => (fileOf s q).isSome
  | none => true
def listAt (s : List Pc) : Option Int → Option (List En)
  | some p => folderOf s p
  | none => some []
def foldsW (s : List Pc) : Option Int → List Bs → Option (List (List En))
  | _, [] => some []
  | a, n :: r => (listAt s a).bind fun l => if r.isEmpty && !leafOk s (getE l n) then none else (foldsW s (getE l n) r).map fun fs => l :: fs
def upT : List (List En) → List Bs → Int → Option (List ByteArray × Int)
  | l :: fs, n :: ns, leaf => (upT fs ns leaf).bind fun x => if (putE l (mk n, x.2)).2 then some (x.1 ++ [mk (foldT (putE l (mk n, x.2)).1)], prOf (foldT (putE l (mk n, x.2)).1)) else none
  | _, _, leaf => some ([], leaf)
def writeP (s : List Pc) (root : Int) (ps : List Bs) (c : Bs) : Option (List Pc × Int) :=
  (foldsW s (some root) ps).bind fun fs => (upT fs ps (prOf (fileT c))).bind fun x => (putAll s (mk (fileT c) :: x.1)).map fun s' => (s', x.2)
/-- As the reference goes. -/
def setP (s : List Pc) (a : Option Int) (ps : List Bs) (leaf : Int) : Option (List Pc × Int) :=
  (foldsW s a ps).bind fun fs => (upT fs ps leaf).bind fun x => (putAll s x.1).map fun s' => (s', x.2)
def setUp (l : List En) (n : Bs) (x : List Pc × Int) : Option (List Pc × Int) :=
  if (putE l (mk n, x.2)).2 then (if (putT x.1 (mk (foldT (putE l (mk n, x.2)).1))).2.2 then some ((putT x.1 (mk (foldT (putE l (mk n, x.2)).1))).1, prOf (foldT (putE l (mk n, x.2)).1)) else none) else none
theorem setP_cons (s : List Pc) (a : Option Int) (n : Bs) (r : List Bs) (leaf : Int) :
    setP s a (n :: r) leaf = (listAt s a).bind fun l => if r.isEmpty && !leafOk s (getE l n) then none else (setP s (getE l n) r leaf).bind (setUp l n) := by
  unfold setP
  rw [foldsW]
  cases listAt s a with
  | none => rfl
  | some l =>
    simp only [Option.bind_some]
    split
    · rfl
    · cases foldsW s (getE l n) r with
      | none => rfl
      | some fs =>
        simp only [Option.map_some, Option.bind_some]
        rw [upT]
        cases upT fs r leaf with
        | none => rfl
        | some x =>
          simp only [Option.bind_some]
          unfold setUp
          cases hp : putAll s x.1 with
          | none =>
            split
            · simp only [Option.bind_some]; rw [putAll_append, hp]; rfl
            · rfl
          | some s1 =>
            simp only [Option.map_some, Option.bind_some]
            split
            · simp only [Option.bind_some]
              rw [putAll_append, hp, Option.bind_some, putAll_one]
              split <;> rfl
            · rfl
theorem writeP_set {s : List Pc} (hs : storeV s = true) (root : Int) (ps : List Bs) (c : Bs) :
    writeP s root ps c = (setP s (some root) ps (prOf (fileT c))).bind fun x => if (putT x.1 (mk (fileT c))).2.2 then some ((putT x.1 (mk (fileT c))).1, x.2) else none := by
  unfold writeP setP
  cases foldsW s (some root) ps with
  | none => rfl
  | some fs =>
    simp only [Option.bind_some]
    cases upT fs ps (prOf (fileT c)) with
    | none => rfl
    | some x =>
      simp only [Option.bind_some]
      have e : putAll s (mk (fileT c) :: x.1) = putAll s (x.1 ++ [mk (fileT c)]) := putAll_congr hs fun t => by simp [or_comm]
      rw [e, putAll_append]
      cases putAll s x.1 with
      | none => rfl
      | some s1 =>
        simp only [Option.bind_some, Option.map_some]
        rw [putAll_one]
        split <;> rfl
def writeA (s : List Pc) (root : Int) (path c : Bs) : List Pc × Int × Bool :=
  match (if storeV s && contV c then pathP path else none) with
  | some (n :: r) => (match writeP s root (n :: r) c with | some x => (x.1, x.2, true) | none => (s, root, false))
  | _ => ([], -1, false)

/-! ### dropping -/
def foldsD (s : List Pc) : Int → List Bs → List (List En)
  | _, [] => []
  | p, n :: r => ((folderOf s p).getD []) :: foldsD s ((getE ((folderOf s p).getD []) n).getD (-1)) r
def restD (l : List En) (n : Bs) : Option Int → List En
  | some q => (putE l (mk n, q)).1
  | none => (dropE l n).1
def dT : List (List En) → List Bs → List ByteArray × Option Int
  | l :: fs, n :: ns => if restD l n (dT fs ns).2 = [] then ((dT fs ns).1, none) else ((dT fs ns).1 ++ [mk (foldT (restD l n (dT fs ns).2))], some (prOf (foldT (restD l n (dT fs ns).2))))
  | _, _ => ([], none)
def dropTs (x : List ByteArray × Option Int) : List ByteArray × Int := match x.2 with | some p => (x.1, p) | none => (x.1 ++ [mk (foldT [])], prOf (foldT []))
def dropP (s : List Pc) (root : Int) (ps : List Bs) : Option (List Pc × Int) :=
  if (walkP s root ps).isSome then (putAll s (dropTs (dT (foldsD s root ps) ps)).1).map fun s' => (s', (dropTs (dT (foldsD s root ps) ps)).2) else none
def dropA (s : List Pc) (root : Int) (path : Bs) : List Pc × Int × Bool :=
  match (if storeV s then pathP path else none) with
  | some (n :: r) => (match dropP s root (n :: r) with | some x => (x.1, x.2, true) | none => (s, root, false))
  | _ => ([], -1, false)
/-- As the reference goes: a number below 0 stands for an emptied folder. -/
def dropS (s : List Pc) (fs : List (List En)) (ns : List Bs) : Option (List Pc × Int) := (putAll s (dT fs ns).1).map fun s' => (s', (dT fs ns).2.getD (-1))
def dropUp (l : List En) (n : Bs) (x : List Pc × Int) : Option (List Pc × Int) :=
  if restD l n (if x.2 < 0 then none else some x.2) = [] then some (x.1, -1)
  else if (putT x.1 (mk (foldT (restD l n (if x.2 < 0 then none else some x.2))))).2.2 then some ((putT x.1 (mk (foldT (restD l n (if x.2 < 0 then none else some x.2))))).1, prOf (foldT (restD l n (if x.2 < 0 then none else some x.2)))) else none
--END
end Go.Proofs.YtokelopllbaikaaGreatDoor

/- Dropping and writing: how the program goes, and how the reference goes, in plain Lean. No program in sight. -/
set_option linter.unusedVariables false
namespace Go.Proofs.YtokelopllbaikaaGreatDoor
/-! ### what a way of folders holds -/
theorem foldT_textV (l : List En) : textV (foldT l) = true := by
  unfold foldT; split
  · rename_i h; exact foldB_text h
  · decide
theorem foldT_pv (l : List En) : pv (prOf (foldT l)) = true := prOf_pv (foldT_textV l)
theorem pv_nonneg {p : Int} (h : pv p = true) : 0 ≤ p := by
  unfold pv inI at h; rw [decide_eq_true_eq] at h; exact h.1
/-! ### dropping, as the program goes -/
/-! ### dropping, as the reference goes -/
theorem dT_pv : ∀ (fs : List (List En)) (ns : List Bs) (p : Int), (dT fs ns).2 = some p → pv p = true
  | [], _, p, h => by unfold dT at h; cases h
  | _ :: _, [], p, h => by unfold dT at h; cases h
  | l :: fs, n :: ns, p, h => by
    rw [dT] at h
    split at h
    · cases h
    · injection h with h; subst h; exact foldT_pv _
theorem dropS_cons (s : List Pc) (l : List En) (fs : List (List En)) (n : Bs) (ns : List Bs) : dropS s (l :: fs) (n :: ns) = (dropS s fs ns).bind (dropUp l n) := by
  unfold dropS
  have hp := dT_pv fs ns
  have e : (if (dT fs ns).2.getD (-1) < 0 then none else some ((dT fs ns).2.getD (-1))) = (dT fs ns).2 := by
    cases h : (dT fs ns).2 with
    | none => rfl
    | some p =>
      have := pv_nonneg (hp p h)
      rw [Option.getD_some, if_neg (by omega)]
  rw [dT]
  cases hput : putAll s (dT fs ns).1 with
  | none =>
    split
    · rw [hput]; rfl
    · show (putAll s ((dT fs ns).1 ++ _)).map _ = _
      rw [putAll_append, hput]; rfl
  | some s1 =>
    simp only [Option.map_some, Option.bind_some]
    unfold dropUp
    simp only [e]
    split
    · rw [hput]; rfl
    · show (putAll s ((dT fs ns).1 ++ _)).map _ = _
      rw [putAll_append, hput, Option.bind_some, putAll_one]
      split <;> rfl
theorem dropP_S {s : List Pc} {root : Int} {ps : List Bs} (hw : (walkP s root ps).isSome = true) :
    dropP s root ps = (dropS s (foldsD s root ps) ps).bind fun x => if x.2 < 0 then (if (putT x.1 (mk (foldT []))).2.2 then some ((putT x.1 (mk (foldT []))).1, prOf (foldT [])) else none) else some x := by
  unfold dropP dropS
  rw [if_pos hw]
  have hp := dT_pv (foldsD s root ps) ps
  cases h : (dT (foldsD s root ps) ps).2 with
  | none =>
    unfold dropTs
    rw [h]
    simp only
    rw [putAll_append]
    cases putAll s (dT (foldsD s root ps) ps).1 with
    | none => rfl
    | some s1 =>
      simp only [Option.bind_some, Option.map_some, Option.getD_none]
      rw [if_pos (by omega), putAll_one]
      split <;> rfl
  | some p =>
    have := pv_nonneg (hp p h)
    unfold dropTs
    rw [h]
    simp only
    cases putAll s (dT (foldsD s root ps) ps).1 with
    | none => rfl
    | some s1 =>
      simp only [Option.bind_some, Option.map_some, Option.getD_some]
      rw [if_neg (by omega)]
/-! ### the folders to write, as the program goes -/
def foldsL (s : List Pc) : Option Int → List Bs → Option (List (List En))
  | a, [] => if leafOk s a then some [] else none
  | a, n :: r => (listAt s a).bind fun l => (foldsL s (getE l n) r).map fun fs => l :: fs
theorem foldsW_L (s : List Pc) : ∀ (r : List Bs) (a : Option Int) (n : Bs), foldsW s a (n :: r) = foldsL s a (n :: r)
  | [], a, n => by
    rw [foldsW, foldsL]
    cases listAt s a with
    | none => rfl
    | some l =>
      simp only [Option.bind_some, foldsL, foldsW]
      cases leafOk s (getE l n) <;> rfl
  | m :: r, a, n => by
    rw [foldsW, foldsL]
    cases listAt s a with
    | none => rfl
    | some l =>
      simp only [Option.bind_some]
      rw [foldsW_L s r (getE l n) m]
      rfl
end Go.Proofs.YtokelopllbaikaaGreatDoor
