/- Stores of pieces, in plain Lean. No program in sight. -/
import Derived.Test.YtjadgjlidejjpaaDoorHeap
import Derived.Test.YtjadgjlidejjpaaDoorPure
set_option linter.unusedVariables false
namespace Go.Proofs.YtjadgjlidejjpaaDoor
--BEGIN
abbrev tx (s : ByteArray) : Bs := s.data.toList
def pieceOk (p : Pc) : Bool := textV (tx p.2) && (prOf (tx p.2) == p.1)
def pc0 : Pc := (0, ⟨#[]⟩)
def storeAt (l : List Pc) (k : Nat) : Bool := pieceOk (l.getD k pc0) && (k == 0 || decide ((l.getD (k - 1) pc0).1 < (l.getD k pc0).1))
def storeV (l : List Pc) : Bool := decide (l.length ≤ 40) && (List.range l.length).all (storeAt l)
theorem getD_pc {l : List Pc} {k : Nat} (h : k < l.length) : l.getD k pc0 = l[k] := by rw [List.getD_eq_getElem?_getD, List.getElem?_eq_getElem h]; rfl
theorem pieceOk_iff {p : Pc} : pieceOk p = true ↔ textV (tx p.2) = true ∧ prOf (tx p.2) = p.1 := by unfold pieceOk; rw [Bool.and_eq_true, beq_iff_eq]
theorem pieceOk_pv {p : Pc} (h : pieceOk p = true) : pv p.1 = true := by
  obtain ⟨h1, h2⟩ := pieceOk_iff.1 h; rw [← h2]; exact prOf_pv h1
def Sorted (l : List Pc) : Prop := l.Pairwise fun a b => a.1 < b.1
theorem storeV_iff {l : List Pc} : storeV l = true ↔ l.length ≤ 40 ∧ (∀ p ∈ l, pieceOk p = true) ∧ Sorted l := by
  unfold storeV
  rw [Bool.and_eq_true, decide_eq_true_eq, List.all_eq_true]
  constructor
  · rintro ⟨h1, h2⟩
    have hk : ∀ k (h : k < l.length), pieceOk l[k] = true ∧ (k = 0 ∨ (l.getD (k - 1) pc0).1 < l[k].1) := by
      intro k h
      have := h2 k (List.mem_range.2 h)
      unfold storeAt at this
      rw [Bool.and_eq_true, Bool.or_eq_true, beq_iff_eq, decide_eq_true_eq, getD_pc h] at this
      exact this
    refine ⟨h1, fun p hp => ?_, ?_⟩
    · obtain ⟨k, h, rfl⟩ := List.getElem_of_mem hp; exact (hk k h).1
    · refine List.pairwise_iff_getElem.2 ?_
      have aux : ∀ j (hj : j < l.length) i (hi : i < l.length), i < j → l[i].1 < l[j].1 := by
        intro j
        induction j with
        | zero => intro _ i _ h; omega
        | succ j ih =>
          intro hj i hi hij
          have h3 := (hk (j + 1) hj).2
          have h4 : l.getD (j + 1 - 1) pc0 = l[j] := getD_pc (k := j) (by omega)
          rw [h4] at h3
          rcases h3 with h3 | h3
          · omega
          · by_cases e : i = j
            · subst e; exact h3
            · have := ih (by omega) i hi (by omega); omega
      exact fun i j hi hj hij => aux j hj i hi hij
  · rintro ⟨h1, h2, h3⟩
    refine ⟨h1, fun k hk => ?_⟩
    rw [List.mem_range] at hk
    unfold storeAt
    rw [Bool.and_eq_true, Bool.or_eq_true, beq_iff_eq, decide_eq_true_eq, getD_pc hk]
    refine ⟨h2 _ (by simp), ?_⟩
    by_cases e : k = 0
    · exact .inl e
    · right
      rw [getD_pc (k := k - 1) (by omega)]
      exact List.pairwise_iff_getElem.1 h3 (k - 1) k (by omega) hk (by omega)
theorem storeV_len {l : List Pc} (h : storeV l = true) : l.length ≤ 40 := (storeV_iff.1 h).1
theorem storeV_sorted {l : List Pc} (h : storeV l = true) : Sorted l := (storeV_iff.1 h).2.2
theorem storeV_piece {l : List Pc} (h : storeV l = true) {p : Pc} (hp : p ∈ l) : pieceOk p = true := (storeV_iff.1 h).2.1 p hp
theorem storeV_bad {l : List Pc} {k : Nat} (h : k < l.length) (hb : storeAt l k = false) : storeV l = false := by
  cases hv : storeV l
  · rfl
  · unfold storeV at hv
    rw [Bool.and_eq_true, List.all_eq_true] at hv
    rw [hv.2 k (List.mem_range.2 h)] at hb; cases hb
theorem storeV_long {l : List Pc} (h : ¬ l.length ≤ 40) : storeV l = false := by
  unfold storeV; rw [decide_eq_false h]; rfl
def StoreUpto (l : List Pc) (k : Nat) : Prop := ∀ j, j < k → storeAt l j = true
theorem StoreUpto.zero (l : List Pc) : StoreUpto l 0 := fun j h => by omega
theorem StoreUpto.succ {l : List Pc} {k : Nat} (h : StoreUpto l k) (hk : storeAt l k = true) : StoreUpto l (k + 1) := fun j hj => by
  by_cases e : j = k
  · subst e; exact hk
  · exact h j (by omega)
theorem StoreUpto.done {l : List Pc} {k : Nat} (h : StoreUpto l k) (hk : ¬ k < l.length) (hl : l.length ≤ 40) : storeV l = true := by
  unfold storeV; rw [decide_eq_true hl, Bool.true_and, List.all_eq_true]
  intro j hj; rw [List.mem_range] at hj; exact h j (by omega)
theorem storeV_nil : storeV [] = true := rfl
theorem storeV_sub {l m : List Pc} (h : storeV l = true) (hs : m.Sublist l) : storeV m = true := by
  obtain ⟨h1, h2, h3⟩ := storeV_iff.1 h
  exact storeV_iff.2 ⟨Nat.le_trans hs.length_le h1, fun p hp => h2 p (hs.subset hp), h3.sublist hs⟩

/-! ### where a print stands -/
def below (l : List Pc) (p : Int) : Nat := (l.takeWhile fun x => decide (x.1 < p)).length
theorem below_le (l : List Pc) (p : Int) : below l p ≤ l.length := (List.takeWhile_sublist _).length_le
theorem below_of : ∀ (l : List Pc) (p : Int) (i : Nat), i ≤ l.length → (∀ t (h : t < l.length), t < i → l[t].1 < p) → (∀ h : i < l.length, ¬ l[i].1 < p) → below l p = i
  | [], p, i, hi, _, _ => by simp at hi; subst hi; rfl
  | x :: r, p, 0, _, _, h2 => by
    have := h2 (by simp)
    simp at this
    unfold below; rw [List.takeWhile_cons]
    rw [if_neg (by simpa using this)]; rfl
  | x :: r, p, i + 1, hi, h1, h2 => by
    have h0 := h1 0 (by simp) (by omega)
    simp at h0
    have ih := below_of r p i (by simpa using hi) (fun t h ht => h1 (t + 1) (Nat.succ_lt_succ h) (Nat.succ_lt_succ ht)) (fun h => h2 (Nat.succ_lt_succ h))
    unfold below at ih ⊢
    rw [List.takeWhile_cons, if_pos (by simpa using h0), List.length_cons, ih]
theorem below_lt : ∀ (l : List Pc) (p : Int) (t : Nat) (h : t < l.length), t < below l p → l[t].1 < p
  | x :: r, p, t, h, ht => by
    unfold below at ht
    rw [List.takeWhile_cons] at ht
    split at ht
    · rename_i hx
      cases t with
      | zero => simpa using hx
      | succ t => simpa using below_lt r p t (by simpa using h) (by unfold below; simpa using ht)
    · simp at ht
theorem below_ge : ∀ (l : List Pc) (p : Int) (h : below l p < l.length), ¬ l[below l p].1 < p
  | [], p, h => by simp at h
  | x :: r, p, h => by
    by_cases hx : x.1 < p
    · have e : below (x :: r) p = below r p + 1 := by unfold below; rw [List.takeWhile_cons, if_pos (by simpa using hx)]; rfl
      have h' : below r p < r.length := by rw [e] at h; simpa using h
      have := below_ge r p h'
      simp only [e, List.getElem_cons_succ]; exact this
    · have e : below (x :: r) p = 0 := by unfold below; rw [List.takeWhile_cons, if_neg (by simpa using hx)]; rfl
      simp only [e, List.getElem_cons_zero]; exact hx
def hereP (l : List Pc) (p : Int) : Bool := decide (below l p < l.length) && decide ((l.getD (below l p) pc0).1 = p)
def getT (l : List Pc) (p : Int) : Option ByteArray := (l.find? fun x => x.1 == p).map (·.2)
theorem getT_some {l : List Pc} {p : Int} {t : ByteArray} (h : getT l p = some t) : (p, t) ∈ l := by
  unfold getT at h
  obtain ⟨x, hx, rfl⟩ := Option.map_eq_some_iff.1 h
  have h1 := List.mem_of_find?_eq_some hx
  have h2 := List.find?_some hx
  simp at h2
  rw [← h2]; exact h1
theorem getT_none {l : List Pc} {p : Int} (h : getT l p = none) : ∀ x ∈ l, x.1 ≠ p := by
  unfold getT at h
  rw [Option.map_eq_none_iff, List.find?_eq_none] at h
  intro x hx e; exact h x hx (by simp [e])
theorem getT_none_iff {l : List Pc} {p : Int} : getT l p = none ↔ ∀ x ∈ l, x.1 ≠ p := by
  refine ⟨getT_none, fun h => ?_⟩
  unfold getT
  rw [Option.map_eq_none_iff, List.find?_eq_none]
  intro x hx; simpa using h x hx
theorem sorted_inj {l : List Pc} (h : Sorted l) {a b : Pc} (ha : a ∈ l) (hb : b ∈ l) (e : a.1 = b.1) : a = b := by
  obtain ⟨i, hi, rfl⟩ := List.getElem_of_mem ha
  obtain ⟨j, hj, rfl⟩ := List.getElem_of_mem hb
  have hp := List.pairwise_iff_getElem.1 h
  by_cases h1 : i < j
  · have := hp i j hi hj h1; omega
  · by_cases h2 : j < i
    · have := hp j i hj hi h2; omega
    · have : i = j := by omega
      subst this; rfl
theorem getT_mem {l : List Pc} (hs : Sorted l) {p : Int} {t : ByteArray} (h : (p, t) ∈ l) : getT l p = some t := by
  cases hg : getT l p with
  | none => exact absurd rfl (getT_none hg _ h)
  | some u =>
    have := sorted_inj hs (getT_some hg) h rfl
    injection this with _ e; rw [e]
theorem below_sorted {l : List Pc} (hs : Sorted l) {p : Int} {t : Nat} (h : t < l.length) (ht : below l p ≤ t) : ¬ l[t].1 < p := by
  by_cases e : below l p = t
  · subst e; exact below_ge l p h
  · have h1 := below_ge l p (by omega)
    have h2 := List.pairwise_iff_getElem.1 hs (below l p) t (by omega) h (by omega)
    omega
theorem getT_here {l : List Pc} (hs : Sorted l) {p : Int} : getT l p = if hereP l p then some (l.getD (below l p) pc0).2 else none := by
  unfold hereP
  by_cases hlt : below l p < l.length
  · rw [decide_eq_true hlt, Bool.true_and, getD_pc hlt]
    by_cases e : l[below l p].1 = p
    · rw [decide_eq_true e, if_pos rfl]
      exact getT_mem hs (by
        have e2 : (p, l[below l p].2) = l[below l p] := Prod.ext e.symm rfl
        rw [e2]; exact List.getElem_mem hlt)
    · rw [decide_eq_false e, if_neg (by simp)]
      refine getT_none_iff.2 fun x hx hxe => ?_
      obtain ⟨t, ht, rfl⟩ := List.getElem_of_mem hx
      by_cases h1 : t < below l p
      · have := below_lt l p t ht h1; omega
      · have h2 := below_ge l p hlt
        by_cases e2 : below l p = t
        · subst e2; exact e hxe
        · have h3 := List.pairwise_iff_getElem.1 hs (below l p) t hlt ht (by omega)
          omega
  · rw [decide_eq_false hlt, Bool.false_and, if_neg (by simp)]
    refine getT_none_iff.2 fun x hx hxe => ?_
    obtain ⟨t, ht, rfl⟩ := List.getElem_of_mem hx
    have := below_lt l p t ht (by omega)
    omega

/-! ### one text more -/
def putT (l : List Pc) (t : ByteArray) : List Pc × Int × Bool :=
  if storeV l then
    if textV (tx t) then
      match getT l (prOf (tx t)) with
      | some u => if u = t then (l, prOf (tx t), true) else (l, -1, false)
      | none => if l.length = 40 then (l, -1, false) else (l.take (below l (prOf (tx t))) ++ (prOf (tx t), t) :: l.drop (below l (prOf (tx t))), prOf (tx t), true)
    else (l, -1, false)
  else ([], -1, false)
theorem putT_bad {l : List Pc} {t : ByteArray} (h : storeV l = false) : putT l t = ([], -1, false) := by unfold putT; rw [h]; rfl
theorem putT_text {l : List Pc} {t : ByteArray} (h : storeV l = true) (ht : textV (tx t) = false) : putT l t = (l, -1, false) := by unfold putT; rw [h, ht]; rfl
theorem putT_there {l : List Pc} {t : ByteArray} (h : storeV l = true) (ht : textV (tx t) = true) (hg : getT l (prOf (tx t)) = some t) : putT l t = (l, prOf (tx t), true) := by
  unfold putT; rw [h, ht, hg]; simp
theorem putT_clash {l : List Pc} {t u : ByteArray} (h : storeV l = true) (ht : textV (tx t) = true) (hg : getT l (prOf (tx t)) = some u) (hne : u ≠ t) : putT l t = (l, -1, false) := by
  unfold putT; rw [h, ht, hg]; simp [hne]
theorem putT_full {l : List Pc} {t : ByteArray} (h : storeV l = true) (ht : textV (tx t) = true) (hg : getT l (prOf (tx t)) = none) (hl : l.length = 40) : putT l t = (l, -1, false) := by
  unfold putT; rw [h, ht, hg]; simp [hl]
theorem putT_new {l : List Pc} {t : ByteArray} (h : storeV l = true) (ht : textV (tx t) = true) (hg : getT l (prOf (tx t)) = none) (hl : l.length ≠ 40) :
    putT l t = (l.take (below l (prOf (tx t))) ++ (prOf (tx t), t) :: l.drop (below l (prOf (tx t))), prOf (tx t), true) := by
  unfold putT; rw [h, ht, hg]; simp [hl]
theorem insert_sorted {l : List Pc} (hs : Sorted l) {x : Pc} (hx : ∀ y ∈ l, y.1 ≠ x.1) : Sorted (l.take (below l x.1) ++ x :: l.drop (below l x.1)) := by
  unfold Sorted
  rw [List.pairwise_append, List.pairwise_cons]
  have hlo : ∀ a ∈ l.take (below l x.1), a.1 < x.1 := by
    intro a ha
    obtain ⟨t, ht, rfl⟩ := List.getElem_of_mem ha
    rw [List.length_take] at ht
    rw [List.getElem_take]
    exact below_lt l x.1 t (by omega) (by omega)
  have hhi : ∀ b ∈ l.drop (below l x.1), x.1 < b.1 := by
    intro b hb
    have hm := List.mem_of_mem_drop hb
    obtain ⟨t, ht, rfl⟩ := List.getElem_of_mem hb
    rw [List.length_drop] at ht
    rw [List.getElem_drop] at hm ⊢
    have h1 := below_sorted hs (p := x.1) (t := below l x.1 + t) (by omega) (by omega)
    have h2 := hx _ hm
    omega
  refine ⟨hs.sublist (List.take_sublist _ _), ⟨hhi, hs.sublist (List.drop_sublist _ _)⟩, fun a ha b hb => ?_⟩
  have h1 := hlo a ha
  rcases List.mem_cons.1 hb with rfl | hb
  · exact h1
  · have := hhi b hb; omega
/-- What a text that was put brings. -/
structure PutOk (l : List Pc) (t : ByteArray) (l' : List Pc) : Prop where
  valid : storeV l' = true
  mem : ∀ p, p ∈ l' ↔ p ∈ l ∨ p = (prOf (tx t), t)
  text : textV (tx t) = true
  len : l'.length ≤ l.length + 1
theorem putT_ok {l : List Pc} {t : ByteArray} (hok : (putT l t).2.2 = true) : storeV l = true ∧ PutOk l t (putT l t).1 ∧ (putT l t).2.1 = prOf (tx t) := by
  cases h : storeV l
  · rw [putT_bad h] at hok; cases hok
  cases ht : textV (tx t)
  · rw [putT_text h ht] at hok; cases hok
  cases hg : getT l (prOf (tx t)) with
  | some u =>
    by_cases e : u = t
    · subst e
      rw [putT_there h ht hg]
      refine ⟨rfl, ⟨h, fun p => ⟨.inl, fun hp => hp.elim id fun e => ?_⟩, ht, by simp⟩, rfl⟩
      rw [e]; exact getT_some hg
    · rw [putT_clash h ht hg e] at hok; cases hok
  | none =>
    by_cases hl : l.length = 40
    · rw [putT_full h ht hg hl] at hok; cases hok
    · rw [putT_new h ht hg hl]
      have hmem : ∀ p, p ∈ (l.take (below l (prOf (tx t))) ++ (prOf (tx t), t) :: l.drop (below l (prOf (tx t)))) ↔ p ∈ l ∨ p = (prOf (tx t), t) := by
        intro p
        rw [List.mem_append, List.mem_cons]
        constructor
        · rintro (hp | rfl | hp)
          · exact .inl (List.mem_of_mem_take hp)
          · exact .inr rfl
          · exact .inl (List.mem_of_mem_drop hp)
        · rintro (hp | rfl)
          · rw [← List.take_append_drop (below l (prOf (tx t))) l, List.mem_append] at hp
            rcases hp with hp | hp
            · exact .inl hp
            · exact .inr (.inr hp)
          · exact .inr (.inl rfl)
      have hlen : (l.take (below l (prOf (tx t))) ++ (prOf (tx t), t) :: l.drop (below l (prOf (tx t)))).length = l.length + 1 := by
        have := below_le l (prOf (tx t)); simp; omega
      refine ⟨rfl, ⟨storeV_iff.2 ⟨by have := storeV_len h; rw [hlen]; omega, fun p hp => ?_, insert_sorted (storeV_sorted h) (x := (prOf (tx t), t)) (getT_none hg)⟩, hmem, ht, by rw [hlen]; omega⟩, rfl⟩
      rcases (hmem p).1 hp with hp | rfl
      · exact storeV_piece h hp
      · exact pieceOk_iff.2 ⟨ht, rfl⟩
theorem putT_no {l : List Pc} {t : ByteArray} (h : storeV l = true) (hok : (putT l t).2.2 = false) : putT l t = (l, -1, false) := by
  cases ht : textV (tx t)
  · exact putT_text h ht
  cases hg : getT l (prOf (tx t)) with
  | some u =>
    by_cases e : u = t
    · subst e
      rw [putT_there h ht hg] at hok; cases hok
    · exact putT_clash h ht hg e
  | none =>
    by_cases hl : l.length = 40
    · exact putT_full h ht hg hl
    · rw [putT_new h ht hg hl] at hok; cases hok
theorem putT_len (l : List Pc) (t : ByteArray) : (putT l t).1.length ≤ 40 := by
  cases h : storeV l
  · rw [putT_bad h]; simp
  · cases hok : (putT l t).2.2
    · rw [putT_no h hok]; exact storeV_len h
    · exact storeV_len (putT_ok hok).2.1.valid
theorem putT_bd (l : List Pc) (t : ByteArray) : -1 ≤ (putT l t).2.1 ∧ (putT l t).2.1 ≤ 16777212 := by
  have hb := prOf_bd (tx t)
  cases h : storeV l
  · rw [putT_bad h]; simp
  · cases hok : (putT l t).2.2
    · rw [putT_no h hok]; simp
    · rw [(putT_ok hok).2.2]; exact hb
/-- When a text can be put. -/
theorem putT_can {l : List Pc} {t : ByteArray} : (putT l t).2.2 = true ↔ storeV l = true ∧ textV (tx t) = true ∧ (∀ u, (prOf (tx t), u) ∈ l → u = t) ∧ ((prOf (tx t), t) ∈ l ∨ l.length < 40) := by
  constructor
  · intro hok
    cases h : storeV l
    · rw [putT_bad h] at hok; cases hok
    cases ht : textV (tx t)
    · rw [putT_text h ht] at hok; cases hok
    refine ⟨rfl, rfl, ?_⟩
    cases hg : getT l (prOf (tx t)) with
    | some u =>
      by_cases e : u = t
      · subst e
        exact ⟨fun v hv => by have := getT_mem (storeV_sorted h) hv; rw [hg] at this; injection this with e; exact e.symm, .inl (getT_some hg)⟩
      · rw [putT_clash h ht hg e] at hok; cases hok
    | none =>
      by_cases hl : l.length = 40
      · rw [putT_full h ht hg hl] at hok; cases hok
      · exact ⟨fun v hv => absurd rfl (getT_none hg _ hv), .inr (by have := storeV_len h; omega)⟩
  · rintro ⟨h, ht, h1, h2⟩
    cases hg : getT l (prOf (tx t)) with
    | some u =>
      have := h1 u (getT_some hg)
      subst this
      rw [putT_there h ht hg]
    | none =>
      rw [putT_new h ht hg]
      rcases h2 with h2 | h2
      · exact absurd rfl (getT_none hg _ h2)
      · omega
/-- Two stores with the same pieces are the same. -/
theorem sorted_ext : ∀ {a b : List Pc}, Sorted a → Sorted b → (∀ p, p ∈ a ↔ p ∈ b) → a = b := by
  intro a b ha hb h
  have na : a.Nodup := ha.imp (fun h e => by subst e; omega)
  have nb : b.Nodup := hb.imp (fun h e => by subst e; omega)
  have hp : a.Perm b := (List.perm_ext_iff_of_nodup na nb).2 h
  exact hp.eq_of_pairwise (le := fun x y : Pc => x.1 < y.1) (fun x y _ _ h1 h2 => by omega) ha hb
theorem store_ext {a b : List Pc} (ha : storeV a = true) (hb : storeV b = true) (h : ∀ p, p ∈ a ↔ p ∈ b) : a = b := sorted_ext (storeV_sorted ha) (storeV_sorted hb) h
theorem store_keep {l : List Pc} {t : ByteArray} {l' : List Pc} (h : PutOk l t l') {p : Int} {u : ByteArray} (hu : (p, u) ∈ l) : getT l' p = some u := getT_mem (storeV_sorted h.valid) ((h.mem _).2 (.inl hu))
theorem store_put {l : List Pc} {t : ByteArray} {l' : List Pc} (h : PutOk l t l') : getT l' (prOf (tx t)) = some t := getT_mem (storeV_sorted h.valid) ((h.mem _).2 (.inr rfl))

/-! ### the right pieces of a list -/
def rightF : List Pc → List Pc → Option (List Pc)
  | s, [] => some s
  | s, p :: r => if pieceOk p then (if (putT s p.2).2.2 then rightF (putT s p.2).1 r else none) else rightF s r
def rightP (l : List Pc) : List Pc × Bool := match rightF [] l with | some s => (s, true) | none => ([], false)
theorem rightF_ok : ∀ (l s s' : List Pc), storeV s = true → rightF s l = some s' → storeV s' = true ∧ (∀ p, p ∈ s' ↔ p ∈ s ∨ (p ∈ l ∧ pieceOk p = true)) ∧ s'.length ≤ s.length + l.length
  | [], s, s', hs, h => by
    rw [rightF] at h; injection h with h; subst h
    exact ⟨hs, fun p => by simp, by simp⟩
  | q :: r, s, s', hs, h => by
    rw [rightF] at h
    cases hq : pieceOk q
    · rw [hq] at h
      have ih := rightF_ok r s s' hs h
      refine ⟨ih.1, fun p => ?_, by have := ih.2.2; simp; omega⟩
      rw [ih.2.1 p, List.mem_cons]
      constructor
      · rintro (h1 | h1)
        · exact .inl h1
        · exact .inr ⟨.inr h1.1, h1.2⟩
      · rintro (h1 | ⟨rfl | h1, h2⟩)
        · exact .inl h1
        · rw [hq] at h2; cases h2
        · exact .inr ⟨h1, h2⟩
    · rw [hq, if_pos rfl] at h
      split at h
      · rename_i hok
        obtain ⟨_, hp, _⟩ := putT_ok hok
        have ih := rightF_ok r _ s' hp.valid h
        have he : (prOf (tx q.2), q.2) = q := by rw [(pieceOk_iff.1 hq).2]
        refine ⟨ih.1, fun p => ?_, by have := ih.2.2; have := hp.len; simp; omega⟩
        rw [ih.2.1 p, hp.mem p, he, List.mem_cons]
        constructor
        · rintro ((h1 | rfl) | h1)
          · exact .inl h1
          · exact .inr ⟨.inl rfl, hq⟩
          · exact .inr ⟨.inr h1.1, h1.2⟩
        · rintro (h1 | ⟨rfl | h1, h2⟩)
          · exact .inl (.inl h1)
          · exact .inl (.inr rfl)
          · exact .inr ⟨h1, h2⟩
      · cases h
--END
end Go.Proofs.YtjadgjlidejjpaaDoor
