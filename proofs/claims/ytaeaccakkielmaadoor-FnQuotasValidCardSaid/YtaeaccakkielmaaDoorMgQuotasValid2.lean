/- Written by merge.py: Hx, Fo, Fp, Fw, Vp, Fa, Far, Mk, St, Qt, Ap2, Ne, Ve, STag, Vt, Heap2, SVersion, Av, R3, Ss, Fb, Ht. -/
import Derived.Laws.Strings
import Derived.Laws.AppendOwnNone
import Derived.Laws.StructEq
import Derived.RegionTactic
import Derived.Deep.RegionLaw
import Derived.Deep.RegionHeld3
import Derived.Test.YtaeaccakkielmaaDoorMgQuotasValid1
/- Hexadecimal texts, in plain Lean. No program in sight. -/
set_option linter.unusedVariables false
namespace Go.Proofs.YtaeaccakkielmaaDoor
--BEGIN
def hexD (d : Nat) : UInt8 := if d < 10 then UInt8.ofNat (48 + d) else UInt8.ofNat (87 + d)
def hexF : Nat → Nat → Bs
  | 0, _ => []
  | f + 1, n => if n < 16 then [hexD n] else hexF f (n / 16) ++ [hexD (n % 16)]
def hexT (n : Int) : Bs := if pv n then hexF 7 n.toNat else []
def hexV (c : UInt8) : Option Nat := if digitC c then some (c.toNat - 48) else if inI c.toNat 97 102 then some (c.toNat - 87) else none
def hexN : Nat → Bs → Option Nat
  | n, [] => some n
  | n, c :: r => match hexV c with
    | some d => hexN (16 * n + d) r
    | none => none
def readH (s : Bs) : Int :=
  if 1 ≤ s.length ∧ s.length ≤ 6 then
    match hexN 0 s with
    | some n => if hexT n = s then (n : Int) else -1
    | none => -1
  else -1
theorem hexV_hexD : ∀ d, d < 16 → hexV (hexD d) = some d := by decide
theorem hexV_lt {c : UInt8} {d : Nat} (h : hexV c = some d) : d < 16 := by
  unfold hexV at h
  split at h
  · rename_i h1; unfold digitC inI at h1; simp at h1 h; omega
  · split at h
    · rename_i h1; unfold inI at h1; simp at h1 h; omega
    · cases h
theorem hexN_append : ∀ (a : Bs) (n : Nat) (b : Bs), hexN n (a ++ b) = (hexN n a).bind fun m => hexN m b
  | [], n, b => rfl
  | c :: r, n, b => by
    rw [List.cons_append, hexN, hexN]
    cases hexV c with
    | none => rfl
    | some d => exact hexN_append r _ b
theorem hexN_hexF : ∀ (f n : Nat), n < 16 ^ f → hexN 0 (hexF f n) = some n
  | 0, n, h => by have : n = 0 := by simpa using h
                  subst this; rfl
  | f + 1, n, h => by
    rw [hexF]
    split
    · rename_i h1
      rw [hexN, hexV_hexD n h1]; simp [hexN]
    · rw [hexN_append, hexN_hexF f (n / 16) (by rw [Nat.pow_succ] at h; omega)]
      show hexN (n / 16) [hexD (n % 16)] = some n
      rw [hexN, hexV_hexD (n % 16) (by omega)]
      simp only [hexN]; congr 1; omega
theorem hexF_len : ∀ (f n k : Nat), n < 16 ^ (k + 1) → (hexF f n).length ≤ k + 1
  | 0, n, k, _ => by simp [hexF]
  | f + 1, n, k, h => by
    rw [hexF]
    split
    · simp
    · rename_i h1
      cases k with
      | zero => simp at h; omega
      | succ k =>
        have := hexF_len f (n / 16) k (by rw [Nat.pow_succ] at h; omega)
        simp; omega
theorem hexF_ne (f n : Nat) : 1 ≤ (hexF (f + 1) n).length := by
  rw [hexF]; split <;> simp
theorem hexT_ok {n : Nat} (h : n ≤ 16777212) : hexT n = hexF 7 n := by
  unfold hexT; rw [if_pos (pv_iff.2 (by omega))]; rfl
theorem hexT_bad {n : Int} (h : pv n = false) : hexT n = [] := by unfold hexT; rw [h]; rfl
theorem hexT_len (n : Int) : (hexT n).length ≤ 6 := by
  unfold hexT; split
  · rename_i h
    have h2 := pv_iff.1 h
    exact hexF_len 7 n.toNat 5 (by have : n.toNat ≤ 16777212 := by omega
                                   have e : (16 : Nat) ^ (5 + 1) = 16777216 := by decide
                                   omega)
  · simp
theorem hexT_pos {n : Int} (h : pv n = true) : 1 ≤ (hexT n).length := by
  unfold hexT; rw [if_pos h]; exact hexF_ne 6 _
theorem hexN_hexT {n : Int} (h : pv n = true) : hexN 0 (hexT n) = some n.toNat := by
  unfold hexT; rw [if_pos h]
  have h2 := pv_iff.1 h
  exact hexN_hexF 7 n.toNat (by have : n.toNat ≤ 16777212 := by omega
                                have e : (16 : Nat) ^ 7 = 268435456 := by decide
                                omega)
theorem readH_hexT {n : Int} (h : pv n = true) : readH (hexT n) = n := by
  have h2 := pv_iff.1 h
  have e : ((n.toNat : Nat) : Int) = n := by omega
  unfold readH
  rw [if_pos ⟨hexT_pos h, hexT_len n⟩, hexN_hexT h]
  show (if hexT (n.toNat : Int) = hexT n then ((n.toNat : Nat) : Int) else -1) = n
  rw [e, if_pos rfl]
theorem readH_cases (s : Bs) : readH s = -1 ∨ ∃ n : Nat, readH s = n ∧ pv (n : Int) = true ∧ hexT n = s := by
  unfold readH
  split
  · rename_i hl
    cases h : hexN 0 s with
    | none => left; rfl
    | some n =>
      by_cases e : hexT n = s
      · right
        refine ⟨n, by simp [e], ?_, e⟩
        cases hp : pv (n : Int)
        · rw [hexT_bad hp] at e; subst e; simp at hl
        · rfl
      · left; simp [e]
  · left; rfl
theorem readH_bd (s : Bs) : -1 ≤ readH s ∧ readH s ≤ 16777212 := by
  rcases readH_cases s with h | ⟨n, h, hp, _⟩
  · omega
  · have := pv_iff.1 hp; omega
theorem readH_some {s : Bs} (h : 0 ≤ readH s) : pv (readH s) = true ∧ hexT (readH s) = s := by
  rcases readH_cases s with h1 | ⟨n, h1, hp, he⟩
  · omega
  · rw [h1]; exact ⟨hp, he⟩
theorem hexT_inj {a b : Int} (ha : pv a = true) (hb : pv b = true) (h : hexT a = hexT b) : a = b := by
  rw [← readH_hexT ha, ← readH_hexT hb, h]
/-- What the reference has come to: N is left, 'acc' written. -/
def HexAt (n0 N : Nat) (acc : Bs) : Prop := acc.length ≤ 7 ∧ ∃ f, N < 16 ^ (f + 1) ∧ f + acc.length = 7 ∧ hexF 7 n0 = (if N < 16 then [] else hexF f (N / 16)) ++ acc
theorem HexAt.start {n0 : Nat} (h : n0 ≤ 16777212) : HexAt n0 n0 [hexD (n0 % 16)] := by
  refine ⟨by simp, 6, by have e : (16 : Nat) ^ (6 + 1) = 268435456 := by decide
                         omega, by simp, ?_⟩
  rw [hexF]
  split
  · rename_i h1; rw [Nat.mod_eq_of_lt h1]; rfl
  · rfl
theorem HexAt.step {n0 N : Nat} {acc : Bs} (h : HexAt n0 N acc) (hN : 16 ≤ N) : HexAt n0 (N / 16) (hexD (N / 16 % 16) :: acc) := by
  obtain ⟨hl, f, hf, hfl, he⟩ := h
  cases f with
  | zero => simp at hf; omega
  | succ f =>
    refine ⟨by simp; omega, f, by rw [Nat.pow_succ] at hf; omega, by simp; omega, ?_⟩
    rw [he, if_neg (by omega), hexF]
    split
    · rename_i h1; rw [Nat.mod_eq_of_lt h1]; rfl
    · simp
theorem HexAt.done {n0 N : Nat} {acc : Bs} (h : HexAt n0 N acc) (hN : N < 16) : hexF 7 n0 = acc := by
  obtain ⟨hl, f, hf, hfl, he⟩ := h
  rw [he, if_pos hN]; rfl
/-- What a reader has come to. -/
theorem hexN_snoc {s : Bs} {k : Nat} (hk : k < s.length) {n : Nat} (h : hexN 0 (s.take k) = some n) : hexN 0 (s.take (k + 1)) = (hexV s[k]).map fun d => 16 * n + d := by
  rw [List.take_succ_eq_append_getElem hk, hexN_append, h]
  show hexN n [s[k]] = _
  rw [hexN]
  cases hexV s[k] <;> rfl
theorem readH_char {s : Bs} {k : Nat} (hk : k < s.length) {n : Nat} (h : hexN 0 (s.take k) = some n) (hb : hexV s[k] = none) : readH s = -1 := by
  have h1 : hexN 0 s = none := by
    have e := (List.take_append_drop (k + 1) s).symm
    have h2 := hexN_snoc hk h
    rw [hb] at h2
    rw [e, hexN_append, h2]; rfl
  unfold readH
  rw [h1]; split <;> rfl
theorem readH_ok {s : Bs} (h1 : 1 ≤ s.length) {n : Nat} (h : hexN 0 s = some n) (he : hexT n = s) : readH s = n := by
  have h6 := hexT_len (n : Int)
  rw [he] at h6
  unfold readH
  rw [if_pos ⟨h1, h6⟩, h]
  show (if hexT (n : Int) = s then (n : Int) else -1) = n
  rw [if_pos he]
theorem readH_no {s : Bs} {n : Nat} (h : hexN 0 s = some n) (he : hexT n ≠ s) : readH s = -1 := by
  unfold readH
  rw [h]
  split
  · show (if hexT (n : Int) = s then (n : Int) else -1) = -1
    rw [if_neg he]
  · rfl
theorem readH_nil : readH [] = -1 := rfl
theorem readH_long {s : Bs} (h : 6 < s.length) : readH s = -1 := by unfold readH; rw [if_neg (by omega)]
theorem hexT_ne_long {s : Bs} (h : 6 < s.length) (n : Int) : hexT n ≠ s := by
  intro e; have := hexT_len n; rw [e] at this; omega
theorem hexT_chars (n : Int) : ∀ c ∈ hexT n, (hexV c).isSome = true := by
  by_cases hp : pv n = true
  · have h := hexN_hexT hp
    have aux : ∀ (s : Bs) (a m : Nat), hexN a s = some m → ∀ c ∈ s, (hexV c).isSome = true := by
      intro s
      induction s with
      | nil => intro a m _ c hc; simp at hc
      | cons x r ih =>
        intro a m hm c hc
        rw [hexN] at hm
        cases hx : hexV x with
        | none => rw [hx] at hm; cases hm
        | some d =>
          rw [hx] at hm
          rw [List.mem_cons] at hc
          rcases hc with rfl | hc
          · rw [hx]; rfl
          · exact ih _ _ hm c hc
    exact aux _ _ _ h
  · rw [hexT_bad (by simpa using hp)]; intro c hc; simp at hc
--END
end Go.Proofs.YtaeaccakkielmaaDoor

/- Folders, files and paths, in plain Lean. No program in sight. -/
set_option linter.unusedVariables false
namespace Go.Proofs.YtaeaccakkielmaaDoor
--BEGIN
/-! ### texts in order -/
abbrev lessB (a b : Bs) : Bool := Op.bytesLess a b
theorem lessB_iff : ∀ {a b : Bs}, lessB a b = true ↔ a < b
  | [], [] => by simp [lessB, Op.bytesLess]
  | _ :: _, [] => by simp [lessB, Op.bytesLess]
  | [], _ :: _ => by simp [lessB, Op.bytesLess]
  | x :: a, y :: b => by
    have ih := lessB_iff (a := a) (b := b)
    unfold lessB at ih ⊢
    rw [Op.bytesLess, List.cons_lt_cons_iff, Bool.or_eq_true, Bool.and_eq_true, decide_eq_true_eq, beq_iff_eq, ih]
theorem lessB_irrefl (a : Bs) : lessB a a = false := by
  cases h : lessB a a
  · rfl
  · exact absurd (lessB_iff.1 h) (List.lt_irrefl a)
theorem lessB_trans {a b c : Bs} (h1 : lessB a b = true) (h2 : lessB b c = true) : lessB a c = true := lessB_iff.2 (List.lt_trans (lessB_iff.1 h1) (lessB_iff.1 h2))
theorem lessB_asymm {a b : Bs} (h : lessB a b = true) : lessB b a = false := by
  cases h2 : lessB b a
  · rfl
  · have := lessB_trans h h2; rw [lessB_irrefl] at this; cases this
theorem lessB_tri {a b : Bs} (h1 : lessB a b = false) (h2 : lessB b a = false) : a = b := by
  have e1 : ¬ a < b := fun h => by rw [lessB_iff.2 h] at h1; cases h1
  have e2 : ¬ b < a := fun h => by rw [lessB_iff.2 h] at h2; cases h2
  exact List.le_antisymm (List.not_lt.1 e2) (List.not_lt.1 e1)
theorem tx_mk (b : Bs) : tx (mk b) = b := rfl
theorem mk_tx (s : ByteArray) : mk (tx s) = s := by cases s; rfl
theorem tx_inj {a b : ByteArray} (h : tx a = tx b) : a = b := by rw [← mk_tx a, ← mk_tx b, h]

/-! ### entries -/
def en0 : En := (⟨#[]⟩, 0)
def entOk (e : En) : Bool := wordV (tx e.1) && pv e.2
def entAt (l : List En) (k : Nat) : Bool := entOk (l.getD k en0) && (k == 0 || lessB (tx (l.getD (k - 1) en0).1) (tx (l.getD k en0).1))
def entsV (l : List En) : Bool := decide (l.length ≤ 3) && (List.range l.length).all (entAt l)
def SortE (l : List En) : Prop := l.Pairwise fun a b => lessB (tx a.1) (tx b.1) = true
theorem getD_en {l : List En} {k : Nat} (h : k < l.length) : l.getD k en0 = l[k] := by rw [List.getD_eq_getElem?_getD, List.getElem?_eq_getElem h]; rfl
theorem entsV_iff {l : List En} : entsV l = true ↔ l.length ≤ 3 ∧ (∀ p ∈ l, entOk p = true) ∧ SortE l := by
  unfold entsV
  rw [Bool.and_eq_true, decide_eq_true_eq, List.all_eq_true]
  constructor
  · rintro ⟨h1, h2⟩
    have hk : ∀ k (h : k < l.length), entOk l[k] = true ∧ (k = 0 ∨ lessB (tx (l.getD (k - 1) en0).1) (tx l[k].1) = true) := by
      intro k h
      have := h2 k (List.mem_range.2 h)
      unfold entAt at this
      rw [Bool.and_eq_true, Bool.or_eq_true, beq_iff_eq, getD_en h] at this
      exact this
    refine ⟨h1, fun p hp => ?_, ?_⟩
    · obtain ⟨k, h, rfl⟩ := List.getElem_of_mem hp; exact (hk k h).1
    · refine List.pairwise_iff_getElem.2 ?_
      have aux : ∀ j (hj : j < l.length) i (hi : i < l.length), i < j → lessB (tx l[i].1) (tx l[j].1) = true := by
        intro j
        induction j with
        | zero => intro _ i _ h; omega
        | succ j ih =>
          intro hj i hi hij
          have h3 := (hk (j + 1) hj).2
          have h4 : l.getD (j + 1 - 1) en0 = l[j] := getD_en (k := j) (by omega)
          rw [h4] at h3
          rcases h3 with h3 | h3
          · omega
          · by_cases e : i = j
            · subst e; exact h3
            · exact lessB_trans (ih (by omega) i hi (by omega)) h3
      exact fun i j hi hj hij => aux j hj i hi hij
  · rintro ⟨h1, h2, h3⟩
    refine ⟨h1, fun k hk => ?_⟩
    rw [List.mem_range] at hk
    unfold entAt
    rw [Bool.and_eq_true, Bool.or_eq_true, beq_iff_eq, getD_en hk]
    refine ⟨h2 _ (by simp), ?_⟩
    by_cases e : k = 0
    · exact .inl e
    · right
      rw [getD_en (k := k - 1) (by omega)]
      exact List.pairwise_iff_getElem.1 h3 (k - 1) k (by omega) hk (by omega)
theorem entsV_len {l : List En} (h : entsV l = true) : l.length ≤ 3 := (entsV_iff.1 h).1
theorem entsV_sorted {l : List En} (h : entsV l = true) : SortE l := (entsV_iff.1 h).2.2
theorem entsV_ok {l : List En} (h : entsV l = true) {p : En} (hp : p ∈ l) : entOk p = true := (entsV_iff.1 h).2.1 p hp
theorem entOk_iff {p : En} : entOk p = true ↔ wordV (tx p.1) = true ∧ pv p.2 = true := by unfold entOk; rw [Bool.and_eq_true]
theorem entsV_bad {l : List En} {k : Nat} (h : k < l.length) (hb : entAt l k = false) : entsV l = false := by
  cases hv : entsV l
  · rfl
  · unfold entsV at hv
    rw [Bool.and_eq_true, List.all_eq_true] at hv
    rw [hv.2 k (List.mem_range.2 h)] at hb; cases hb
theorem entsV_long {l : List En} (h : ¬ l.length ≤ 3) : entsV l = false := by unfold entsV; rw [decide_eq_false h]; rfl
def EntUpto (l : List En) (k : Nat) : Prop := ∀ j, j < k → entAt l j = true
theorem EntUpto.zero (l : List En) : EntUpto l 0 := fun j h => by omega
theorem EntUpto.succ {l : List En} {k : Nat} (h : EntUpto l k) (hk : entAt l k = true) : EntUpto l (k + 1) := fun j hj => by
  by_cases e : j = k
  · subst e; exact hk
  · exact h j (by omega)
theorem EntUpto.done {l : List En} {k : Nat} (h : EntUpto l k) (hk : ¬ k < l.length) (hl : l.length ≤ 3) : entsV l = true := by
  unfold entsV; rw [decide_eq_true hl, Bool.true_and, List.all_eq_true]
  intro j hj; rw [List.mem_range] at hj; exact h j (by omega)
theorem entsV_nil : entsV [] = true := rfl
theorem entsV_sub {l m : List En} (h : entsV l = true) (hs : m.Sublist l) : entsV m = true := by
  obtain ⟨h1, h2, h3⟩ := entsV_iff.1 h
  exact entsV_iff.2 ⟨Nat.le_trans hs.length_le h1, fun p hp => h2 p (hs.subset hp), h3.sublist hs⟩

/-! ### where a name stands -/
def posE (l : List En) (n : Bs) : Nat := (l.takeWhile fun x => lessB (tx x.1) n).length
theorem posE_le (l : List En) (n : Bs) : posE l n ≤ l.length := (List.takeWhile_sublist _).length_le
theorem posE_of : ∀ (l : List En) (n : Bs) (i : Nat), i ≤ l.length → (∀ t (h : t < l.length), t < i → lessB (tx l[t].1) n = true) → (∀ h : i < l.length, lessB (tx l[i].1) n = false) → posE l n = i
  | [], n, i, hi, _, _ => by simp at hi; subst hi; rfl
  | x :: r, n, 0, _, _, h2 => by
    have := h2 (by simp)
    simp at this
    unfold posE; rw [List.takeWhile_cons]
    rw [if_neg (by simp [this])]; rfl
  | x :: r, n, i + 1, hi, h1, h2 => by
    have h0 := h1 0 (by simp) (by omega)
    simp at h0
    have ih := posE_of r n i (by simpa using hi) (fun t h ht => h1 (t + 1) (Nat.succ_lt_succ h) (Nat.succ_lt_succ ht)) (fun h => h2 (Nat.succ_lt_succ h))
    unfold posE at ih ⊢
    rw [List.takeWhile_cons, if_pos h0, List.length_cons, ih]
theorem posE_lt : ∀ (l : List En) (n : Bs) (t : Nat) (h : t < l.length), t < posE l n → lessB (tx l[t].1) n = true
  | x :: r, n, t, h, ht => by
    unfold posE at ht
    rw [List.takeWhile_cons] at ht
    split at ht
    · rename_i hx
      cases t with
      | zero => simpa using hx
      | succ t => simpa using posE_lt r n t (by simpa using h) (by unfold posE; simpa using ht)
    · simp at ht
theorem posE_ge : ∀ (l : List En) (n : Bs) (h : posE l n < l.length), lessB (tx l[posE l n].1) n = false
  | [], n, h => by simp at h
  | x :: r, n, h => by
    by_cases hx : lessB (tx x.1) n = true
    · have e : posE (x :: r) n = posE r n + 1 := by unfold posE; rw [List.takeWhile_cons, if_pos hx]; rfl
      have h' : posE r n < r.length := by rw [e] at h; simpa using h
      have := posE_ge r n h'
      simp only [e, List.getElem_cons_succ]; exact this
    · have e : posE (x :: r) n = 0 := by unfold posE; rw [List.takeWhile_cons, if_neg hx]; rfl
      simp only [e, List.getElem_cons_zero]; simpa using hx
def hereE (l : List En) (n : Bs) : Bool := decide (posE l n < l.length) && (tx (l.getD (posE l n) en0).1 == n)
def getE (l : List En) (n : Bs) : Option Int := (l.find? fun x => tx x.1 == n).map (·.2)
theorem getE_some {l : List En} {n : Bs} {p : Int} (h : getE l n = some p) : (mk n, p) ∈ l := by
  unfold getE at h
  obtain ⟨x, hx, rfl⟩ := Option.map_eq_some_iff.1 h
  have h1 := List.mem_of_find?_eq_some hx
  have h2 := List.find?_some hx
  simp at h2
  have e : x = (mk n, x.2) := Prod.ext (tx_inj (by rw [h2]; rfl)) rfl
  rw [← e]; exact h1
theorem getE_none_iff {l : List En} {n : Bs} : getE l n = none ↔ ∀ x ∈ l, tx x.1 ≠ n := by
  unfold getE
  rw [Option.map_eq_none_iff, List.find?_eq_none]
  simp
theorem sortE_inj {l : List En} (h : SortE l) {a b : En} (ha : a ∈ l) (hb : b ∈ l) (e : tx a.1 = tx b.1) : a = b := by
  obtain ⟨i, hi, rfl⟩ := List.getElem_of_mem ha
  obtain ⟨j, hj, rfl⟩ := List.getElem_of_mem hb
  have hp := List.pairwise_iff_getElem.1 h
  by_cases h1 : i < j
  · have := hp i j hi hj h1; rw [e, lessB_irrefl] at this; cases this
  · by_cases h2 : j < i
    · have := hp j i hj hi h2; rw [e, lessB_irrefl] at this; cases this
    · have : i = j := by omega
      subst this; rfl
theorem getE_mem {l : List En} (hs : SortE l) {n : Bs} {p : Int} (h : (mk n, p) ∈ l) : getE l n = some p := by
  cases hg : getE l n with
  | none => exact absurd rfl (getE_none_iff.1 hg _ h)
  | some u =>
    have := sortE_inj hs (getE_some hg) h rfl
    injection this with _ e; rw [e]
theorem getE_here {l : List En} (hs : SortE l) {n : Bs} : getE l n = if hereE l n then some (l.getD (posE l n) en0).2 else none := by
  unfold hereE
  by_cases hlt : posE l n < l.length
  · rw [decide_eq_true hlt, Bool.true_and, getD_en hlt]
    by_cases e : tx l[posE l n].1 = n
    · rw [beq_iff_eq.2 e, if_pos rfl]
      exact getE_mem hs (by
        have e2 : (mk n, l[posE l n].2) = l[posE l n] := Prod.ext (tx_inj (by rw [e]; rfl)) rfl
        rw [e2]; exact List.getElem_mem hlt)
    · rw [beq_eq_false_iff_ne.2 e, if_neg (by simp)]
      refine getE_none_iff.2 fun x hx hxe => ?_
      obtain ⟨t, ht, rfl⟩ := List.getElem_of_mem hx
      by_cases h1 : t < posE l n
      · have := posE_lt l n t ht h1; rw [hxe, lessB_irrefl] at this; cases this
      · by_cases e2 : posE l n = t
        · subst e2; exact e hxe
        · have h2 := posE_ge l n hlt
          have h3 := List.pairwise_iff_getElem.1 hs (posE l n) t hlt ht (by omega)
          rw [hxe] at h3; rw [h3] at h2; cases h2
  · rw [decide_eq_false hlt, Bool.false_and, if_neg (by simp)]
    refine getE_none_iff.2 fun x hx hxe => ?_
    obtain ⟨t, ht, rfl⟩ := List.getElem_of_mem hx
    have := posE_lt l n t ht (by omega)
    rw [hxe, lessB_irrefl] at this; cases this
theorem posE_sorted {l : List En} (hs : SortE l) {n : Bs} {t : Nat} (h : t < l.length) (ht : posE l n ≤ t) : lessB (tx l[t].1) n = false := by
  by_cases e : posE l n = t
  · subst e; exact posE_ge l n h
  · cases h1 : lessB (tx l[t].1) n
    · rfl
    · have h2 := posE_ge l n (by omega)
      have h3 := List.pairwise_iff_getElem.1 hs (posE l n) t (by omega) h (by omega)
      rw [lessB_trans h3 h1] at h2; cases h2

/-! ### one entry more, one less -/
def insE (l : List En) (e : En) : List En := l.take (posE l (tx e.1)) ++ e :: l.drop (posE l (tx e.1) + if hereE l (tx e.1) then 1 else 0)
def putE (l : List En) (e : En) : List En × Bool := if entsV l then (if entsV (insE l e) then (insE l e, true) else (l, false)) else ([], false)
def dropE (l : List En) (n : Bs) : List En × Bool := if entsV l then (if hereE l n then (l.take (posE l n) ++ l.drop (posE l n + 1), true) else (l, false)) else ([], false)
theorem hereE_iff {l : List En} {n : Bs} : hereE l n = true ↔ ∃ h : posE l n < l.length, tx l[posE l n].1 = n := by
  unfold hereE
  rw [Bool.and_eq_true, decide_eq_true_eq, beq_iff_eq]
  constructor
  · rintro ⟨h1, h2⟩; rw [getD_en h1] at h2; exact ⟨h1, h2⟩
  · rintro ⟨h1, h2⟩; rw [getD_en h1]; exact ⟨h1, h2⟩
theorem hereE_get {l : List En} (hs : SortE l) {n : Bs} : hereE l n = (getE l n).isSome := by
  rw [getE_here hs]; cases hereE l n <;> rfl
theorem mem_insE {l : List En} (hs : SortE l) (e x : En) : x ∈ insE l e ↔ x = e ∨ (x ∈ l ∧ tx x.1 ≠ tx e.1) := by
  unfold insE
  rw [List.mem_append, List.mem_cons]
  have hlo : ∀ a ∈ l.take (posE l (tx e.1)), tx a.1 ≠ tx e.1 := by
    intro a ha he
    obtain ⟨t, ht, rfl⟩ := List.getElem_of_mem ha
    rw [List.length_take] at ht
    rw [List.getElem_take] at he
    have := posE_lt l (tx e.1) t (by omega) (by omega)
    rw [he, lessB_irrefl] at this; cases this
  cases hh : hereE l (tx e.1)
  · simp only [Bool.false_eq_true, if_false, Nat.add_zero]
    rw [hereE_get hs, Option.isSome_eq_false_iff, Option.isNone_iff_eq_none] at hh
    have hn := getE_none_iff.1 hh
    constructor
    · rintro (h | h | h)
      · exact .inr ⟨List.mem_of_mem_take h, hlo _ h⟩
      · exact .inl h
      · exact .inr ⟨List.mem_of_mem_drop h, hn _ (List.mem_of_mem_drop h)⟩
    · rintro (h | ⟨h, _⟩)
      · exact .inr (.inl h)
      · rw [← List.take_append_drop (posE l (tx e.1)) l, List.mem_append] at h
        exact h.elim .inl fun h => .inr (.inr h)
  · simp only [if_true]
    obtain ⟨hp, he⟩ := hereE_iff.1 hh
    have hdr : l.drop (posE l (tx e.1)) = l[posE l (tx e.1)] :: l.drop (posE l (tx e.1) + 1) := List.drop_eq_getElem_cons hp
    constructor
    · rintro (h | h | h)
      · exact .inr ⟨List.mem_of_mem_take h, hlo _ h⟩
      · exact .inl h
      · refine .inr ⟨List.mem_of_mem_drop h, fun hx => ?_⟩
        obtain ⟨t, ht, rfl⟩ := List.getElem_of_mem h
        rw [List.length_drop] at ht
        rw [List.getElem_drop] at hx
        have h3 := List.pairwise_iff_getElem.1 hs (posE l (tx e.1)) (posE l (tx e.1) + 1 + t) hp (by omega) (by omega)
        rw [hx, he, lessB_irrefl] at h3; cases h3
    · rintro (h | ⟨h, hne⟩)
      · exact .inr (.inl h)
      · rw [← List.take_append_drop (posE l (tx e.1)) l, List.mem_append, hdr, List.mem_cons] at h
        rcases h with h | h | h
        · exact .inl h
        · rw [h] at hne; exact absurd he hne
        · exact .inr (.inr h)
theorem insE_sorted {l : List En} (hs : SortE l) (e : En) : SortE (insE l e) := by
  unfold insE SortE
  rw [List.pairwise_append, List.pairwise_cons]
  have hlo : ∀ a ∈ l.take (posE l (tx e.1)), lessB (tx a.1) (tx e.1) = true := by
    intro a ha
    obtain ⟨t, ht, rfl⟩ := List.getElem_of_mem ha
    rw [List.length_take] at ht
    rw [List.getElem_take]
    exact posE_lt l (tx e.1) t (by omega) (by omega)
  have hhi : ∀ b ∈ l.drop (posE l (tx e.1) + if hereE l (tx e.1) then 1 else 0), lessB (tx e.1) (tx b.1) = true := by
    intro b hb
    have hm := List.mem_of_mem_drop hb
    obtain ⟨t, ht, rfl⟩ := List.getElem_of_mem hb
    rw [List.length_drop] at ht
    rw [List.getElem_drop] at hm ⊢
    generalize hq : posE l (tx e.1) + (if hereE l (tx e.1) then 1 else 0) = q at *
    have hq2 : posE l (tx e.1) ≤ q := by rw [← hq]; omega
    have h1 := posE_sorted hs (n := tx e.1) (t := q + t) (by omega) (by omega)
    cases h2 : lessB (tx e.1) (tx l[q + t].1)
    · have h3 := lessB_tri h1 h2
      cases hh : hereE l (tx e.1)
      · rw [hereE_get hs, Option.isSome_eq_false_iff, Option.isNone_iff_eq_none] at hh
        exact absurd h3 (getE_none_iff.1 hh _ hm)
      · rw [hh, if_pos rfl] at hq
        obtain ⟨hp, he⟩ := hereE_iff.1 hh
        have h4 := List.pairwise_iff_getElem.1 hs (posE l (tx e.1)) (q + t) hp (by omega) (by omega)
        rw [he, h3, lessB_irrefl] at h4; cases h4
    · rfl
  refine ⟨hs.sublist (List.take_sublist _ _), ⟨hhi, hs.sublist (List.drop_sublist _ _)⟩, fun a ha b hb => ?_⟩
  have h1 := hlo a ha
  rcases List.mem_cons.1 hb with rfl | hb
  · exact h1
  · exact lessB_trans h1 (hhi b hb)
theorem insE_len (l : List En) (e : En) : (insE l e).length ≤ l.length + 1 := by
  have := posE_le l (tx e.1)
  unfold insE; simp; omega
theorem dropE_filter {l : List En} (h : entsV l = true) (n : Bs) : (dropE l n).1 = l.filter fun x => !(tx x.1 == n) := by
  have hs := entsV_sorted h
  unfold dropE
  rw [h, if_pos rfl]
  cases hh : hereE l n
  · rw [hereE_get hs, Option.isSome_eq_false_iff, Option.isNone_iff_eq_none] at hh
    have hn := getE_none_iff.1 hh
    rw [if_neg (by simp)]
    refine (List.filter_eq_self.2 fun x hx => ?_).symm
    simpa using hn x hx
  · rw [if_pos rfl]
    obtain ⟨hp, he⟩ := hereE_iff.1 hh
    have hdr : l.drop (posE l n) = l[posE l n] :: l.drop (posE l n + 1) := List.drop_eq_getElem_cons hp
    conv => rhs; rw [← List.take_append_drop (posE l n) l, hdr, List.filter_append, List.filter_cons]
    rw [if_neg (by simp [he])]
    show l.take (posE l n) ++ l.drop (posE l n + 1) = _
    congr 1
    · refine (List.filter_eq_self.2 fun x hx => ?_).symm
      obtain ⟨t, ht, rfl⟩ := List.getElem_of_mem hx
      rw [List.length_take] at ht
      rw [List.getElem_take]
      have := posE_lt l n t (by omega) (by omega)
      simp only [Bool.not_eq_true', beq_eq_false_iff_ne]
      intro e; rw [e, lessB_irrefl] at this; cases this
    · refine (List.filter_eq_self.2 fun x hx => ?_).symm
      obtain ⟨t, ht, rfl⟩ := List.getElem_of_mem hx
      rw [List.length_drop] at ht
      rw [List.getElem_drop]
      have h4 := List.pairwise_iff_getElem.1 hs (posE l n) (posE l n + 1 + t) hp (by omega) (by omega)
      simp only [Bool.not_eq_true', beq_eq_false_iff_ne]
      intro e; rw [he, e, lessB_irrefl] at h4; cases h4
theorem dropE_ok {l : List En} (h : entsV l = true) (n : Bs) : (dropE l n).2 = hereE l n := by
  unfold dropE; rw [h, if_pos rfl]; cases hereE l n <;> rfl
theorem dropE_valid {l : List En} (h : entsV l = true) (n : Bs) : entsV (dropE l n).1 = true := by
  rw [dropE_filter h]; exact entsV_sub h List.filter_sublist
theorem dropE_bad {l : List En} (h : entsV l = false) (n : Bs) : dropE l n = ([], false) := by unfold dropE; rw [h]; rfl
theorem dropE_lt {l : List En} (h : entsV l = true) (n : Bs) : decide ((dropE l n).1.length < l.length) = hereE l n := by
  unfold dropE
  rw [h, if_pos rfl]
  cases hh : hereE l n
  · simp
  · obtain ⟨hp, _⟩ := hereE_iff.1 hh
    simp; omega
theorem putE_here {l : List En} (h : entsV l = true) {e : En} (he : entOk e = true) (hh : hereE l (tx e.1) = true) : putE l e = (insE l e, true) := by
  unfold putE
  rw [h, if_pos rfl, if_pos]
  refine entsV_iff.2 ⟨?_, fun p hp => ?_, insE_sorted (entsV_sorted h) e⟩
  · obtain ⟨hp, _⟩ := hereE_iff.1 hh
    have := entsV_len h
    unfold insE; rw [hh]; simp; omega
  · rcases (mem_insE (entsV_sorted h) e p).1 hp with rfl | ⟨hp, _⟩
    · exact he
    · exact entsV_ok h hp
theorem putE_bad {l : List En} (h : entsV l = false) (e : En) : putE l e = ([], false) := by unfold putE; rw [h]; rfl
theorem putE_ok {l : List En} {e : En} (h : (putE l e).2 = true) : entsV l = true ∧ entsV (putE l e).1 = true ∧ (putE l e).1 = insE l e := by
  unfold putE at h ⊢
  cases h1 : entsV l
  · rw [h1] at h; cases h
  · rw [h1, if_pos rfl] at h
    rw [if_pos rfl]
    cases h2 : entsV (insE l e)
    · rw [h2] at h; cases h
    · exact ⟨rfl, h2, rfl⟩
theorem putE_len (l : List En) (e : En) : (putE l e).1.length ≤ 3 := by
  unfold putE
  cases h1 : entsV l
  · simp
  · rw [if_pos rfl]
    split
    · rename_i h; exact entsV_len h
    · exact entsV_len h1
--END
end Go.Proofs.YtaeaccakkielmaaDoor

/- Folders' texts, files, paths, walks, in plain Lean. No program in sight. -/
set_option linter.unusedVariables false
namespace Go.Proofs.YtaeaccakkielmaaDoor
--BEGIN
/-! ### a folder's text -/
def entT (e : En) : Bs := tx e.1 ++ 61 :: (hexT e.2 ++ [59])
def foldB (l : List En) : Bs := 100 :: l.flatMap entT
def foldT (l : List En) : Bs := if entsV l then foldB l else []
def headN (s : Bs) : Bs := s.takeWhile fun c => c != 61
def tailN (s : Bs) : Bs := s.drop ((headN s).length + 1)
def headD' (s : Bs) : Bs := s.takeWhile fun c => c != 59
def tailD (s : Bs) : Bs := s.drop ((headD' s).length + 1)
def parE : Nat → Bs → Option (List En)
  | 0, s => if s = [] then some [] else none
  | n + 1, s => if s = [] then some [] else (parE n (tailD (tailN s))).map fun l => (mk (headN s), readH (headD' (tailN s))) :: l
def readF (s : Bs) : Option (List En) := match parE 3 (s.drop 1) with | some l => if entsV l && (foldB l == s) then some l else none | none => none
theorem word_chars {s : Bs} (h : wordV s = true) : ∀ c ∈ s, smallC c = true ∨ digitC c = true := by
  unfold wordV at h
  rw [Bool.and_eq_true, List.all_eq_true] at h
  intro c hc
  have := h.2 c hc
  rwa [Bool.or_eq_true] at this
theorem word_range {c : UInt8} (h : smallC c = true ∨ digitC c = true) : (48 ≤ c.toNat ∧ c.toNat ≤ 57) ∨ (97 ≤ c.toNat ∧ c.toNat ≤ 122) := by
  unfold smallC digitC inI at h
  rw [decide_eq_true_eq, decide_eq_true_eq] at h
  omega
theorem hex_range {c : UInt8} (h : (hexV c).isSome = true) : (48 ≤ c.toNat ∧ c.toNat ≤ 57) ∨ (97 ≤ c.toNat ∧ c.toNat ≤ 122) := by
  unfold hexV at h
  split at h
  · rename_i h1; exact word_range (.inr h1)
  · split at h
    · rename_i h1; unfold inI at h1; rw [decide_eq_true_eq] at h1; omega
    · cases h
theorem byte_ne {c : UInt8} {n : Nat} (hn : n < 256) (h : c.toNat ≠ n) : c ≠ UInt8.ofNat n := by
  intro e; apply h; rw [e, UInt8.toNat_ofNat']; omega
theorem range_ne {c : UInt8} (h : (48 ≤ c.toNat ∧ c.toNat ≤ 57) ∨ (97 ≤ c.toNat ∧ c.toNat ≤ 122)) : c ≠ 61 ∧ c ≠ 59 ∧ c ≠ 47 ∧ c ≠ 32 ∧ okC c = true := by
  refine ⟨byte_ne (n := 61) (by omega) (by omega), byte_ne (n := 59) (by omega) (by omega), byte_ne (n := 47) (by omega) (by omega), byte_ne (n := 32) (by omega) (by omega), ?_⟩
  unfold okC; rw [decide_eq_true_eq]; omega
theorem takeWhile_stop {p : UInt8 → Bool} {a : Bs} {c : UInt8} {r : Bs} (ha : ∀ x ∈ a, p x = true) (hc : p c = false) : (a ++ c :: r).takeWhile p = a := by
  rw [List.takeWhile_append_of_pos ha, List.takeWhile_cons, hc]; simp
theorem drop_past (a : Bs) (c : UInt8) (r : Bs) : (a ++ c :: r).drop (a.length + 1) = r := by
  rw [List.drop_append]; simp
theorem entT_word {e : En} (h : entOk e = true) : ∀ c ∈ tx e.1, (c != 61) = true := fun c hc => by
  have := (range_ne (word_range (word_chars (entOk_iff.1 h).1 c hc))).1; simpa using this
theorem entT_hex (n : Int) : ∀ c ∈ hexT n, (c != 59) = true := fun c hc => by
  have := (range_ne (hex_range (hexT_chars n c hc))).2.1; simpa using this
theorem headN_ent {e : En} (h : entOk e = true) (r : Bs) : headN (entT e ++ r) = tx e.1 := by
  unfold headN entT
  rw [List.append_assoc, List.cons_append]
  exact takeWhile_stop (entT_word h) (by decide)
theorem tailN_ent {e : En} (h : entOk e = true) (r : Bs) : tailN (entT e ++ r) = hexT e.2 ++ 59 :: r := by
  unfold tailN
  rw [headN_ent h]
  unfold entT
  rw [List.append_assoc, List.cons_append, drop_past, List.append_assoc]; rfl
theorem headD_ent (n : Int) (r : Bs) : headD' (hexT n ++ 59 :: r) = hexT n := takeWhile_stop (entT_hex n) (by decide)
theorem tailD_ent (n : Int) (r : Bs) : tailD (hexT n ++ 59 :: r) = r := by unfold tailD; rw [headD_ent, drop_past]
theorem entT_ne (e : En) (r : Bs) : entT e ++ r ≠ [] := by unfold entT; simp
theorem parE_ok : ∀ (n : Nat) (l : List En), l.length ≤ n → (∀ e ∈ l, entOk e = true) → parE n (l.flatMap entT) = some l
  | 0, l, hn, _ => by
    have : l = [] := List.eq_nil_of_length_eq_zero (by omega)
    subst this; rfl
  | n + 1, [], _, _ => rfl
  | n + 1, e :: r, hn, h => by
    have he := h e (by simp)
    rw [List.flatMap_cons, parE, if_neg (entT_ne _ _), headN_ent he, tailN_ent he, headD_ent, tailD_ent, parE_ok n r (by simpa using hn) (fun x hx => h x (by simp [hx])), readH_hexT (entOk_iff.1 he).2]
    rw [mk_tx]; rfl
theorem readF_iff {s : Bs} {l : List En} : readF s = some l ↔ entsV l = true ∧ foldB l = s := by
  unfold readF
  constructor
  · intro h
    split at h
    · split at h
      · rename_i hc
        injection h with h; subst h
        rw [Bool.and_eq_true, beq_iff_eq] at hc; exact hc
      · cases h
    · cases h
  · rintro ⟨h1, rfl⟩
    have e : (foldB l).drop 1 = l.flatMap entT := rfl
    rw [e, parE_ok 3 l (entsV_len h1) (fun x hx => entsV_ok h1 hx)]
    show (if entsV l && (foldB l == foldB l) then some l else none) = some l
    rw [h1]; simp
theorem readF_none {s : Bs} (h : ∀ l, entsV l = true → foldB l ≠ s) : readF s = none := by
  cases hr : readF s with
  | none => rfl
  | some l => obtain ⟨h1, h2⟩ := readF_iff.1 hr; exact absurd h2 (h l h1)
theorem foldB_inj {l m : List En} (h1 : entsV l = true) (h2 : entsV m = true) (h : foldB l = foldB m) : l = m := by
  have a := readF_iff.2 ⟨h1, h⟩
  have b := readF_iff.2 ⟨h2, rfl⟩
  rw [a] at b; injection b
theorem readF_foldT {l : List En} (h : entsV l = true) : readF (foldT l) = some l := by unfold foldT; rw [h, if_pos rfl]; exact readF_iff.2 ⟨h, rfl⟩
theorem entT_len (e : En) (h : entOk e = true) : (entT e).length ≤ 16 := by
  have h1 := hexT_len e.2
  have h2 : (tx e.1).length ≤ 8 := by
    have := (entOk_iff.1 h).1; unfold wordV at this; rw [Bool.and_eq_true, Bool.and_eq_true, decide_eq_true_eq] at this; exact this.1.1.2
  unfold entT
  rw [List.length_append, List.length_cons, List.length_append, List.length_singleton]; omega
theorem flat_ent_len : ∀ l : List En, (∀ e ∈ l, entOk e = true) → (l.flatMap entT).length ≤ 16 * l.length
  | [], _ => by simp
  | e :: r, h => by
    have h1 := entT_len e (h e (by simp))
    have h2 := flat_ent_len r fun x hx => h x (by simp [hx])
    rw [List.flatMap_cons, List.length_append, List.length_cons]; omega
theorem foldB_len {l : List En} (h : entsV l = true) : (foldB l).length ≤ 49 := by
  have h1 := flat_ent_len l fun e he => entsV_ok h he
  have h2 := entsV_len h
  unfold foldB; rw [List.length_cons]; omega
theorem foldT_len (l : List En) : (foldT l).length ≤ 49 := by
  unfold foldT; split
  · rename_i h; exact foldB_len h
  · simp
theorem entT_ok {e : En} (h : entOk e = true) : ∀ c ∈ entT e, okC c = true := by
  intro c hc
  unfold entT at hc
  rw [List.mem_append, List.mem_cons, List.mem_append, List.mem_singleton] at hc
  rcases hc with hc | rfl | hc | rfl
  · exact (range_ne (word_range (word_chars (entOk_iff.1 h).1 c hc))).2.2.2.2
  · decide
  · exact (range_ne (hex_range (hexT_chars _ c hc))).2.2.2.2
  · decide
theorem foldB_text {l : List En} (h : entsV l = true) : textV (foldB l) = true := by
  unfold textV
  rw [Bool.and_eq_true, decide_eq_true_eq, List.all_eq_true]
  refine ⟨by have := foldB_len h; omega, fun c hc => ?_⟩
  unfold foldB at hc
  rcases List.mem_cons.1 hc with rfl | hc
  · decide
  · obtain ⟨e, he, hc⟩ := List.mem_flatMap.1 hc
    exact entT_ok (entsV_ok h he) c hc

/-! ### files -/
def contV (s : Bs) : Bool := textV s && decide (s.length ≤ 40)
def fileT (s : Bs) : Bs := if contV s then 102 :: s else []
def readFi (s : Bs) : Option Bs := match s with | [] => none | c :: r => if c == 102 && contV r then some r else none
def textK (s : Bs) : Int := if (readFi s).isSome then 1 else if (readF s).isSome then 2 else 0
theorem readFi_iff {s r : Bs} : readFi s = some r ↔ s = 102 :: r ∧ contV r = true := by
  unfold readFi
  cases s with
  | nil => simp
  | cons c t =>
    simp only
    constructor
    · intro h
      split at h
      · rename_i hc
        injection h with h; subst h
        rw [Bool.and_eq_true, beq_iff_eq] at hc
        exact ⟨by rw [hc.1], hc.2⟩
      · cases h
    · rintro ⟨h1, h2⟩
      injection h1 with h3 h4; subst h3 h4
      rw [h2]; simp
theorem readF_file {s : Bs} (h : (readFi s).isSome = true) : readF s = none := by
  obtain ⟨r, hr⟩ := Option.isSome_iff_exists.1 h
  obtain ⟨rfl, _⟩ := readFi_iff.1 hr
  refine readF_none fun l _ e => ?_
  unfold foldB at e; injection e with e _; exact absurd e (by decide)
theorem textK_two {s : Bs} : textK s = 2 ↔ (readF s).isSome = true := by
  unfold textK
  cases h : (readFi s).isSome
  · cases h2 : (readF s).isSome <;> simp
  · rw [readF_file h]; simp
theorem textK_one {s : Bs} : textK s = 1 ↔ (readFi s).isSome = true := by
  unfold textK
  cases h : (readFi s).isSome
  · cases h2 : (readF s).isSome <;> simp
  · simp
theorem fileT_ok {s : Bs} (h : contV s = true) : fileT s = 102 :: s := by unfold fileT; rw [h, if_pos rfl]
theorem fileT_text {s : Bs} (h : contV s = true) : textV (fileT s) = true := by
  rw [fileT_ok h]
  unfold contV textV at h
  rw [Bool.and_eq_true, Bool.and_eq_true, decide_eq_true_eq, decide_eq_true_eq] at h
  unfold textV
  rw [Bool.and_eq_true, decide_eq_true_eq, List.all_cons, Bool.and_eq_true]
  exact ⟨by simp; omega, by decide, h.1.2⟩
theorem readFi_fileT {s : Bs} (h : contV s = true) : readFi (fileT s) = some s := readFi_iff.2 ⟨fileT_ok h, h⟩

/-! ### paths -/
def joinB (ps : List Bs) : Bs := ps.flatMap fun p => 47 :: p
def partsV (ps : List Bs) : Bool := decide (ps.length ≤ 3) && ps.all wordV
def joinP (ps : List Bs) : Bs := if partsV ps then (if ps = [] then [47] else joinB ps) else []
def splitS (c : UInt8) : Bs → List Bs
  | [] => [[]]
  | x :: r => if x = c then [] :: splitS c r else match splitS c r with | p :: ps => (x :: p) :: ps | [] => [[x]]
theorem splitS_ne (c : UInt8) (s : Bs) : splitS c s ≠ [] := by
  cases s with
  | nil => simp [splitS]
  | cons x r =>
    rw [splitS]; split
    · simp
    · split <;> simp
theorem joinB_split : ∀ s : Bs, joinB (splitS 47 s) = 47 :: s
  | [] => rfl
  | x :: r => by
    rw [splitS]
    have ih := joinB_split r
    split
    · rename_i h
      subst h
      unfold joinB at ih ⊢
      rw [List.flatMap_cons, ih]; rfl
    · split
      · rename_i p ps he
        rw [he] at ih
        unfold joinB at ih ⊢
        rw [List.flatMap_cons] at ih ⊢
        injection ih with _ ih
        show 47 :: x :: (p.append _) = _
        rw [ih]
      · rename_i he; exact absurd he (splitS_ne 47 r)
def pathP (s : Bs) : Option (List Bs) := if s = [47] then some [] else if s.headD 0 = 47 then (if partsV (splitS 47 s.tail) then some (splitS 47 s.tail) else none) else none
theorem pathP_join {s : Bs} {ps : List Bs} (h : pathP s = some ps) : partsV ps = true ∧ joinP ps = s := by
  unfold pathP at h
  split at h
  · rename_i e; injection h with h; subst h e; exact ⟨rfl, rfl⟩
  · split at h
    · rename_i hd
      split at h
      · rename_i hv
        injection h with h; subst h
        refine ⟨hv, ?_⟩
        unfold joinP
        rw [hv, if_pos rfl, if_neg (splitS_ne _ _), joinB_split]
        cases s with
        | nil => exact absurd hd (by decide)
        | cons x r => simp at hd; subst hd; rfl
      · cases h
    · cases h
theorem splitS_word {p : Bs} (hp : ∀ c ∈ p, c ≠ 47) : splitS 47 p = [p] := by
  induction p with
  | nil => rfl
  | cons x r ih =>
    rw [splitS, if_neg (hp x (by simp)), ih fun c hc => hp c (by simp [hc])]
theorem splitS_join {p : Bs} (hp : ∀ c ∈ p, c ≠ 47) (r : Bs) : splitS 47 (p ++ 47 :: r) = p :: splitS 47 r := by
  induction p with
  | nil => rw [List.nil_append, splitS, if_pos rfl]
  | cons x q ih =>
    rw [List.cons_append, splitS, if_neg (hp x (by simp)), ih fun c hc => hp c (by simp [hc])]
theorem word_noslash {p : Bs} (h : wordV p = true) : ∀ c ∈ p, c ≠ 47 := fun c hc => (range_ne (word_range (word_chars h c hc))).2.2.1
theorem split_joinB : ∀ (ps : List Bs) (p : Bs), wordV p = true → (∀ q ∈ ps, wordV q = true) → splitS 47 (p ++ joinB ps) = p :: ps
  | [], p, hp, _ => by unfold joinB; rw [List.flatMap_nil, List.append_nil]; exact splitS_word (word_noslash hp)
  | q :: r, p, hp, h => by
    have e : p ++ joinB (q :: r) = p ++ 47 :: (q ++ joinB r) := by unfold joinB; rw [List.flatMap_cons]; rfl
    rw [e, splitS_join (word_noslash hp), split_joinB r q (h q (by simp)) fun x hx => h x (by simp [hx])]
theorem partsV_iff {ps : List Bs} : partsV ps = true ↔ ps.length ≤ 3 ∧ ∀ p ∈ ps, wordV p = true := by unfold partsV; rw [Bool.and_eq_true, decide_eq_true_eq, List.all_eq_true]
theorem word_ne {p : Bs} (h : wordV p = true) : p ≠ [] := by
  intro e; subst e; cases h
theorem pathP_of {ps : List Bs} (h : partsV ps = true) : pathP (joinP ps) = some ps := by
  obtain ⟨h1, h2⟩ := partsV_iff.1 h
  unfold joinP
  rw [h, if_pos rfl]
  cases ps with
  | nil => rfl
  | cons p r =>
    rw [if_neg (by simp)]
    have e : joinB (p :: r) = 47 :: (p ++ joinB r) := by unfold joinB; rw [List.flatMap_cons]; rfl
    have hne := word_ne (h2 p (by simp))
    unfold pathP
    rw [e, if_neg (by intro e2; injection e2 with _ e2; rw [List.append_eq_nil_iff] at e2; exact hne e2.1), if_pos (by rfl), List.tail_cons, split_joinB r p (h2 p (by simp)) fun x hx => h2 x (by simp [hx]), h, if_pos rfl]
theorem joinP_inj {a b : List Bs} (ha : partsV a = true) (hb : partsV b = true) (h : joinP a = joinP b) : a = b := by
  have h1 := pathP_of ha
  have h2 := pathP_of hb
  rw [h, h2] at h1; injection h1 with h1; exact h1.symm
def belowP (path above : Bs) : Bool := match pathP path, pathP above with | some a, some b => b.isPrefixOf a | _, _ => false

/-! ### walks -/
def folderOf (s : List Pc) (p : Int) : Option (List En) := (getT s p).bind fun t => readF (tx t)
def fileOf (s : List Pc) (p : Int) : Option Bs := (getT s p).bind fun t => readFi (tx t)
def walkP (s : List Pc) : Int → List Bs → Option Int
  | p, [] => if (getT s p).isSome then some p else none
  | p, n :: r => (folderOf s p).bind fun l => (getE l n).bind fun q => walkP s q r
def walkTo (s : List Pc) (root : Int) (path : Bs) : Option Int := if storeV s then (pathP path).bind fun ps => walkP s root ps else none
def readAt (s : List Pc) (root : Int) (path : Bs) : Option Bs := (walkTo s root path).bind fun p => fileOf s p
theorem getT_valid {s : List Pc} (hs : storeV s = true) {p : Int} {t : ByteArray} (h : getT s p = some t) : textV (tx t) = true ∧ prOf (tx t) = p ∧ pv p = true := by
  have := pieceOk_iff.1 (storeV_piece hs (getT_some h))
  have h2 : prOf (tx t) = p := this.2
  exact ⟨this.1, h2, by rw [← h2]; exact prOf_pv this.1⟩
theorem folder_valid {s : List Pc} {p : Int} {l : List En} (h : folderOf s p = some l) : entsV l = true := by
  unfold folderOf at h
  obtain ⟨t, _, h2⟩ := Option.bind_eq_some_iff.1 h
  exact (readF_iff.1 h2).1
theorem walkP_there {s : List Pc} : ∀ {ps : List Bs} {p q : Int}, walkP s p ps = some q → (getT s q).isSome = true
  | [], p, q, h => by
    rw [walkP] at h; split at h
    · rename_i hs; injection h with h; subst h; exact hs
    · cases h
  | n :: r, p, q, h => by
    rw [walkP] at h
    obtain ⟨l, _, h⟩ := Option.bind_eq_some_iff.1 h
    obtain ⟨x, _, h⟩ := Option.bind_eq_some_iff.1 h
    exact walkP_there h
--END
end Go.Proofs.YtaeaccakkielmaaDoor

/- Writing into stores and dropping out of them, in plain Lean. No program in sight. -/
set_option linter.unusedVariables false
namespace Go.Proofs.YtaeaccakkielmaaDoor
--BEGIN
/-! ### some texts more -/
def putAll : List Pc → List ByteArray → Option (List Pc)
  | s, [] => some s
  | s, t :: r => if (putT s t).2.2 then putAll (putT s t).1 r else none
theorem putAll_append : ∀ (a b : List ByteArray) (s : List Pc), putAll s (a ++ b) = (putAll s a).bind fun s' => putAll s' b
  | [], b, s => rfl
  | t :: r, b, s => by
    rw [List.cons_append, putAll, putAll]
    split
    · exact putAll_append r b _
    · rfl
theorem putAll_one (s : List Pc) (t : ByteArray) : putAll s [t] = if (putT s t).2.2 then some (putT s t).1 else none := rfl
theorem putAll_ok : ∀ (ts : List ByteArray) (s s' : List Pc), storeV s = true → putAll s ts = some s' → storeV s' = true ∧ ∀ p, p ∈ s' ↔ p ∈ s ∨ ∃ t ∈ ts, p = (prOf (tx t), t)
  | [], s, s', hs, h => by
    rw [putAll] at h; injection h with h; subst h
    exact ⟨hs, fun p => by simp⟩
  | t :: r, s, s', hs, h => by
    rw [putAll] at h
    split at h
    · rename_i hok
      obtain ⟨_, hp, _⟩ := putT_ok hok
      obtain ⟨h1, h2⟩ := putAll_ok r _ s' hp.valid h
      refine ⟨h1, fun p => ?_⟩
      rw [h2 p, hp.mem p]
      constructor
      · rintro ((h3 | h3) | ⟨u, hu, h3⟩)
        · exact .inl h3
        · exact .inr ⟨t, by simp, h3⟩
        · exact .inr ⟨u, by simp [hu], h3⟩
      · rintro (h3 | ⟨u, hu, h3⟩)
        · exact .inl (.inl h3)
        · rcases List.mem_cons.1 hu with rfl | hu
          · exact .inl (.inr h3)
          · exact .inr ⟨u, hu, h3⟩
    · cases h
theorem nodup_len {α : Type} [DecidableEq α] : ∀ (a b : List α), a.Nodup → (∀ x ∈ a, x ∈ b) → a.length ≤ b.length
  | [], b, _, _ => by simp
  | x :: r, b, h, hs => by
    have hx := hs x (by simp)
    have hn := List.nodup_cons.1 h
    have ih := nodup_len r (b.erase x) hn.2 fun y hy => (List.mem_erase_of_ne (fun e => hn.1 (by rw [← e]; exact hy))).2 (hs y (by simp [hy]))
    rw [List.length_erase_of_mem hx] at ih
    have hp : 0 < b.length := List.length_pos_of_mem hx
    rw [List.length_cons]; omega
theorem putAll_can : ∀ (ts : List ByteArray) (s s' : List Pc), storeV s = true → storeV s' = true → (∀ p, p ∈ s' ↔ p ∈ s ∨ ∃ t ∈ ts, p = (prOf (tx t), t)) → putAll s ts = some s'
  | [], s, s', hs, hs', h => by
    rw [putAll]; congr 1
    exact store_ext hs hs' fun p => by rw [h p]; simp
  | t :: r, s, s', hs, hs', h => by
    have hin : (prOf (tx t), t) ∈ s' := (h _).2 (.inr ⟨t, by simp, rfl⟩)
    have htx := (pieceOk_iff.1 (storeV_piece hs' hin)).1
    have hok : (putT s t).2.2 = true := by
      refine putT_can.2 ⟨hs, htx, fun u hu => ?_, ?_⟩
      · have := sorted_inj (storeV_sorted hs') ((h _).2 (.inl hu)) hin rfl
        injection this
      · by_cases hm : (prOf (tx t), t) ∈ s
        · exact .inl hm
        · right
          have h1 : ((prOf (tx t), t) :: s).length ≤ s'.length := by
            have nl : s.Nodup := (storeV_sorted hs).imp (fun h e => by subst e; omega)
            refine nodup_len _ _ (List.nodup_cons.2 ⟨hm, nl⟩) fun p hp => ?_
            rcases List.mem_cons.1 hp with rfl | hp
            · exact hin
            · exact (h _).2 (.inl hp)
          have h2 := storeV_len hs'
          rw [List.length_cons] at h1; omega
    rw [putAll, if_pos hok]
    obtain ⟨_, hp, _⟩ := putT_ok hok
    refine putAll_can r _ s' hp.valid hs' fun p => ?_
    rw [h p, hp.mem p]
    constructor
    · rintro (h3 | ⟨u, hu, h3⟩)
      · exact .inl (.inl h3)
      · rcases List.mem_cons.1 hu with rfl | hu
        · exact .inl (.inr h3)
        · exact .inr ⟨u, hu, h3⟩
    · rintro ((h3 | h3) | ⟨u, hu, h3⟩)
      · exact .inl h3
      · exact .inr ⟨t, by simp, h3⟩
      · exact .inr ⟨u, by simp [hu], h3⟩
/-- Whatever the order: the same texts lead to the same store, or none. -/
theorem putAll_congr {s : List Pc} {a b : List ByteArray} (hs : storeV s = true) (h : ∀ t, t ∈ a ↔ t ∈ b) : putAll s a = putAll s b := by
  have key : ∀ {a b : List ByteArray} {s' : List Pc}, (∀ t, t ∈ a ↔ t ∈ b) → putAll s a = some s' → putAll s b = some s' := by
    intro a b s' h ha
    obtain ⟨h1, h2⟩ := putAll_ok a s s' hs ha
    refine putAll_can b s s' hs h1 fun p => ?_
    rw [h2 p]
    simp only [h]
  cases ha : putAll s a with
  | some s' => exact (key h ha).symm
  | none =>
    cases hb : putAll s b with
    | none => rfl
    | some s' => rw [key (fun t => (h t).symm) hb] at ha; cases ha
theorem putAll_bad {s : List Pc} {t : ByteArray} {r : List ByteArray} (h : storeV s = false) : putAll s (t :: r) = none := by
  rw [putAll, putT_bad h]; rfl
theorem getT_keep {s s' : List Pc} {ts : List ByteArray} (hs : storeV s = true) (h : putAll s ts = some s') {p : Int} {t : ByteArray} (hg : getT s p = some t) : getT s' p = some t := by
  obtain ⟨h1, h2⟩ := putAll_ok _ _ _ hs h
  exact getT_mem (storeV_sorted h1) ((h2 _).2 (.inl (getT_some hg)))
theorem getT_put {s s' : List Pc} {ts : List ByteArray} (hs : storeV s = true) (h : putAll s ts = some s') {t : ByteArray} (ht : t ∈ ts) : getT s' (prOf (tx t)) = some t := by
  obtain ⟨h1, h2⟩ := putAll_ok _ _ _ hs h
  exact getT_mem (storeV_sorted h1) ((h2 _).2 (.inr ⟨t, ht, rfl⟩))
theorem folder_keep {s s' : List Pc} {ts : List ByteArray} (hs : storeV s = true) (h : putAll s ts = some s') {p : Int} {l : List En} (hg : folderOf s p = some l) : folderOf s' p = some l := by
  unfold folderOf at hg ⊢
  obtain ⟨t, h1, h2⟩ := Option.bind_eq_some_iff.1 hg
  rw [getT_keep hs h h1]; exact h2
theorem file_keep {s s' : List Pc} {ts : List ByteArray} (hs : storeV s = true) (h : putAll s ts = some s') {p : Int} {l : Bs} (hg : fileOf s p = some l) : fileOf s' p = some l := by
  unfold fileOf at hg ⊢
  obtain ⟨t, h1, h2⟩ := Option.bind_eq_some_iff.1 hg
  rw [getT_keep hs h h1]; exact h2

/-! ### writing -/
def leafOk (s : List Pc) : Option Int → Bool
  | some q => (fileOf s q).isSome
  | none => true
def listAt (s : List Pc) : Option Int → Option (List En)
  | some p => folderOf s p
  | none => some []
def foldsW (s : List Pc) : Option Int → List Bs → Option (List (List En))
  | _, [] => some []
  | a, n :: r => (listAt s a).bind fun l => if r.isEmpty && !leafOk s (getE l n) then none else (foldsW s (getE l n) r).map fun fs => l :: fs
def upT : List (List En) → List Bs → Int → Option (List ByteArray × Int)
  | l :: fs, n :: ns, leaf => (upT fs ns leaf).bind fun x => if (putE l (mk n, x.2)).2 then some (x.1 ++ [mk (foldT (putE l (mk n, x.2)).1)], prOf (foldT (putE l (mk n, x.2)).1)) else none
  | _, _, leaf => some ([], leaf)
def writeP (s : List Pc) (root : Int) (ps : List Bs) (c : Bs) : Option (List Pc × Int) :=
  (foldsW s (some root) ps).bind fun fs => (upT fs ps (prOf (fileT c))).bind fun x => (putAll s (mk (fileT c) :: x.1)).map fun s' => (s', x.2)
/-- As the reference goes. -/
def setP (s : List Pc) (a : Option Int) (ps : List Bs) (leaf : Int) : Option (List Pc × Int) :=
  (foldsW s a ps).bind fun fs => (upT fs ps leaf).bind fun x => (putAll s x.1).map fun s' => (s', x.2)
theorem setP_nil (s : List Pc) (a : Option Int) (leaf : Int) : setP s a [] leaf = some (s, leaf) := rfl
def setUp (l : List En) (n : Bs) (x : List Pc × Int) : Option (List Pc × Int) :=
  if (putE l (mk n, x.2)).2 then (if (putT x.1 (mk (foldT (putE l (mk n, x.2)).1))).2.2 then some ((putT x.1 (mk (foldT (putE l (mk n, x.2)).1))).1, prOf (foldT (putE l (mk n, x.2)).1)) else none) else none
theorem setP_cons (s : List Pc) (a : Option Int) (n : Bs) (r : List Bs) (leaf : Int) :
    setP s a (n :: r) leaf = (listAt s a).bind fun l => if r.isEmpty && !leafOk s (getE l n) then none else (setP s (getE l n) r leaf).bind (setUp l n) := by
  unfold setP
  rw [foldsW]
  cases listAt s a with
  | none => rfl
  | some l =>
    simp only [Option.bind_some]
    split
    · rfl
    · cases foldsW s (getE l n) r with
      | none => rfl
      | some fs =>
        simp only [Option.map_some, Option.bind_some]
        rw [upT]
        cases upT fs r leaf with
        | none => rfl
        | some x =>
          simp only [Option.bind_some]
          unfold setUp
          cases hp : putAll s x.1 with
          | none =>
            split
            · simp only [Option.bind_some]; rw [putAll_append, hp]; rfl
            · rfl
          | some s1 =>
            simp only [Option.map_some, Option.bind_some]
            split
            · simp only [Option.bind_some]
              rw [putAll_append, hp, Option.bind_some, putAll_one]
              split <;> rfl
            · rfl
theorem writeP_set {s : List Pc} (hs : storeV s = true) (root : Int) (ps : List Bs) (c : Bs) :
    writeP s root ps c = (setP s (some root) ps (prOf (fileT c))).bind fun x => if (putT x.1 (mk (fileT c))).2.2 then some ((putT x.1 (mk (fileT c))).1, x.2) else none := by
  unfold writeP setP
  cases foldsW s (some root) ps with
  | none => rfl
  | some fs =>
    simp only [Option.bind_some]
    cases upT fs ps (prOf (fileT c)) with
    | none => rfl
    | some x =>
      simp only [Option.bind_some]
      have e : putAll s (mk (fileT c) :: x.1) = putAll s (x.1 ++ [mk (fileT c)]) := putAll_congr hs fun t => by simp [or_comm]
      rw [e, putAll_append]
      cases putAll s x.1 with
      | none => rfl
      | some s1 =>
        simp only [Option.bind_some, Option.map_some]
        rw [putAll_one]
        split <;> rfl
def writeA (s : List Pc) (root : Int) (path c : Bs) : List Pc × Int × Bool :=
  match (if storeV s && contV c then pathP path else none) with
  | some (n :: r) => (match writeP s root (n :: r) c with | some x => (x.1, x.2, true) | none => (s, root, false))
  | _ => ([], -1, false)

/-! ### dropping -/
def foldsD (s : List Pc) : Int → List Bs → List (List En)
  | _, [] => []
  | p, n :: r => ((folderOf s p).getD []) :: foldsD s ((getE ((folderOf s p).getD []) n).getD (-1)) r
def restD (l : List En) (n : Bs) : Option Int → List En
  | some q => (putE l (mk n, q)).1
  | none => (dropE l n).1
def dT : List (List En) → List Bs → List ByteArray × Option Int
  | l :: fs, n :: ns => if restD l n (dT fs ns).2 = [] then ((dT fs ns).1, none) else ((dT fs ns).1 ++ [mk (foldT (restD l n (dT fs ns).2))], some (prOf (foldT (restD l n (dT fs ns).2))))
  | _, _ => ([], none)
def dropTs (x : List ByteArray × Option Int) : List ByteArray × Int := match x.2 with | some p => (x.1, p) | none => (x.1 ++ [mk (foldT [])], prOf (foldT []))
def dropP (s : List Pc) (root : Int) (ps : List Bs) : Option (List Pc × Int) :=
  if (walkP s root ps).isSome then (putAll s (dropTs (dT (foldsD s root ps) ps)).1).map fun s' => (s', (dropTs (dT (foldsD s root ps) ps)).2) else none
def dropA (s : List Pc) (root : Int) (path : Bs) : List Pc × Int × Bool :=
  match (if storeV s then pathP path else none) with
  | some (n :: r) => (match dropP s root (n :: r) with | some x => (x.1, x.2, true) | none => (s, root, false))
  | _ => ([], -1, false)
/-- As the reference goes: a number below 0 stands for an emptied folder. -/
def dropS (s : List Pc) (fs : List (List En)) (ns : List Bs) : Option (List Pc × Int) := (putAll s (dT fs ns).1).map fun s' => (s', (dT fs ns).2.getD (-1))
def dropUp (l : List En) (n : Bs) (x : List Pc × Int) : Option (List Pc × Int) :=
  if restD l n (if x.2 < 0 then none else some x.2) = [] then some (x.1, -1)
  else if (putT x.1 (mk (foldT (restD l n (if x.2 < 0 then none else some x.2))))).2.2 then some ((putT x.1 (mk (foldT (restD l n (if x.2 < 0 then none else some x.2))))).1, prOf (foldT (restD l n (if x.2 < 0 then none else some x.2)))) else none
--END
end Go.Proofs.YtaeaccakkielmaaDoor

/- Versions and tags in plain Lean. -/
set_option linter.unusedVariables false
namespace Go.Proofs.YtaeaccakkielmaaDoor

def verAt (k : Nat) (v : Vr) : Bool := pv v.1 && (decide (-1 ≤ v.2.1) && (decide (v.2.1 < k) && wordV v.2.2.data.toList))
def versFrom : Nat → List Vr → Bool
  | _, [] => true
  | k, v :: r => verAt k v && versFrom (k + 1) r
def versV (l : List Vr) : Bool := decide (l.length ≤ 12) && versFrom 0 l
theorem versFrom_append : ∀ (a : List Vr) (k : Nat) (b : List Vr), versFrom k (a ++ b) = (versFrom k a && versFrom (k + a.length) b)
  | [], k, b => by simp [versFrom]
  | v :: r, k, b => by
    rw [List.cons_append, versFrom, versFrom, versFrom_append r (k + 1) b, Bool.and_assoc]
    congr 3
    simp; omega
theorem versFrom_take {l : List Vr} {k : Nat} (h : k < l.length) : versFrom 0 (l.take (k + 1)) = (versFrom 0 (l.take k) && verAt k l[k]) := by
  rw [List.take_succ_eq_append_getElem h, versFrom_append]
  have : (l.take k).length = k := by rw [List.length_take]; omega
  simp [versFrom, this]
theorem versFrom_bad {l : List Vr} {k : Nat} (h : k < l.length) (hv : verAt k l[k] = false) : versFrom 0 l = false := by
  have h1 : l = l.take (k + 1) ++ l.drop (k + 1) := (List.take_append_drop _ _).symm
  rw [h1, versFrom_append, versFrom_take h, hv, Bool.and_false, Bool.false_and]
theorem versFrom_all {l : List Vr} {k : Nat} (h : ¬ k < l.length) (hv : versFrom 0 (l.take k) = true) : versFrom 0 l = true := by
  rwa [List.take_of_length_le (by omega)] at hv
theorem versFrom_at : ∀ (l : List Vr) (j k : Nat) (h : k < l.length), versFrom j l = true → verAt (j + k) l[k] = true
  | [], _, _, h, _ => by simp at h
  | v :: r, j, 0, _, hv => by rw [versFrom, Bool.and_eq_true] at hv; simpa using hv.1
  | v :: r, j, k + 1, h, hv => by
    rw [versFrom, Bool.and_eq_true] at hv
    have := versFrom_at r (j + 1) k (by simpa using h) hv.2
    have e : j + (k + 1) = j + 1 + k := by omega
    rw [e]; exact this
theorem versV_len {l : List Vr} (h : versV l = true) : l.length ≤ 12 := by
  unfold versV at h; rw [Bool.and_eq_true] at h; simpa using h.1
theorem versV_at {l : List Vr} (h : versV l = true) {k : Nat} (hk : k < l.length) : verAt k l[k] = true := by
  unfold versV at h; rw [Bool.and_eq_true] at h
  have := versFrom_at l 0 k hk h.2
  simpa using this
theorem verAt_iff {k : Nat} {v : Vr} : verAt k v = true ↔ pv v.1 = true ∧ -1 ≤ v.2.1 ∧ v.2.1 < k ∧ wordV v.2.2.data.toList = true := by
  unfold verAt; simp only [Bool.and_eq_true, decide_eq_true_eq]

def makeTag (l : List Vr) (name : ByteArray) (n : Int) : Option Tg :=
  if wordV name.data.toList && versV l && decide (0 ≤ n ∧ n < l.length) then some (name, n, (l.getD n.toNat (0, 0, name)).1, prList [prOf name.data.toList, n, (l.getD n.toNat (0, 0, name)).1]) else none
def tagR (l : List Vr) (t : Tg) : Bool := decide (makeTag l t.1 t.2.1 = some t)
def rightTags (l : List Vr) (ts : List Tg) : List Tg := ts.filter (tagR l)
theorem makeTag_ok {l : List Vr} {name : ByteArray} {k : Nat} (hw : wordV name.data.toList = true) (hv : versV l = true) (hk : k < l.length) : makeTag l name k = some (name, (k : Int), l[k].1, prList [prOf name.data.toList, (k : Int), l[k].1]) := by
  have e : l.getD k (0, 0, name) = l[k] := by rw [List.getD_eq_getElem?_getD, List.getElem?_eq_getElem hk]; rfl
  unfold makeTag
  rw [hw, hv, if_pos (by simp; omega), Int.toNat_natCast, e]
theorem makeTag_none {l : List Vr} {name : ByteArray} {n : Int} (h : wordV name.data.toList = false ∨ versV l = false ∨ n < 0 ∨ (l.length : Int) ≤ n) : makeTag l name n = none := by
  unfold makeTag
  rw [if_neg]
  intro hh
  simp only [Bool.and_eq_true, decide_eq_true_eq] at hh
  rcases h with h | h | h | h
  · rw [h] at hh; cases hh.1.1
  · rw [h] at hh; cases hh.1.2
  · omega
  · omega
theorem makeTag_some {l : List Vr} {name : ByteArray} {n : Int} {t : Tg} (h : makeTag l name n = some t) : ∃ (k : Nat) (hk : k < l.length), n = k ∧ wordV name.data.toList = true ∧ versV l = true ∧ t = (name, (k : Int), l[k].1, prList [prOf name.data.toList, (k : Int), l[k].1]) := by
  by_cases hh : (wordV name.data.toList && versV l && decide (0 ≤ n ∧ n < l.length)) = true
  · simp only [Bool.and_eq_true, decide_eq_true_eq] at hh
    obtain ⟨⟨h1, h2⟩, h3⟩ := hh
    obtain ⟨k, rfl⟩ := Int.eq_ofNat_of_zero_le h3.1
    have hk : k < l.length := by omega
    have h4 := makeTag_ok h1 h2 hk
    rw [h4] at h
    injection h with h
    exact ⟨k, hk, rfl, h1, h2, h.symm⟩
  · unfold makeTag at h
    rw [if_neg hh] at h; cases h
theorem tagR_iff {l : List Vr} {t : Tg} : tagR l t = true ↔ makeTag l t.1 t.2.1 = some t := by unfold tagR; exact decide_eq_true_iff
/-- A made tag is right. -/
theorem tagR_made {l : List Vr} {name : ByteArray} {n : Int} {t : Tg} (h : makeTag l name n = some t) : tagR l t = true ∧ t.1 = name ∧ t.2.1 = n := by
  obtain ⟨k, hk, rfl, h1, h2, rfl⟩ := makeTag_some h
  exact ⟨tagR_iff.2 h, rfl, rfl⟩
/-- With another seal a right tag is wrong. -/
theorem tagR_seal {l : List Vr} {a : ByteArray} {n r s s' : Int} (h : tagR l (a, n, r, s) = true) (hne : s' ≠ s) : tagR l (a, n, r, s') = false := by
  cases h2 : tagR l (a, n, r, s')
  · rfl
  · have h1 := tagR_iff.1 h
    have h2 := tagR_iff.1 h2
    simp only at h1 h2
    rw [h1] at h2
    injection h2 with h2
    injection h2 with _ h2
    injection h2 with _ h2
    injection h2 with _ h2
    exact absurd h2.symm hne
theorem versV_snoc {l : List Vr} {v : Vr} (hl : versV l = true) : versV (l ++ [v]) = (decide (l.length < 12) && verAt l.length v) := by
  unfold versV at *
  rw [Bool.and_eq_true] at hl
  rw [versFrom_append, hl.2, List.length_append]
  simp [versFrom]
  congr 1
  rw [decide_eq_decide]; omega
/-- A right tag stays right when a version is added. -/
theorem tagR_stays {l : List Vr} {v : Vr} {t : Tg} (hl : versV (l ++ [v]) = true) (h : tagR l t = true) : tagR (l ++ [v]) t = true := by
  obtain ⟨k, hk, h1, h2, h3, h4⟩ := makeTag_some (tagR_iff.1 h)
  refine tagR_iff.2 ?_
  rw [h1, makeTag_ok h2 hl (by simp; omega), List.getElem_append_left hk]
  exact congrArg some h4.symm
theorem rightTags_idem (l : List Vr) (ts : List Tg) : rightTags l (rightTags l ts) = rightTags l ts := by
  unfold rightTags; rw [List.filter_filter]; simp
end Go.Proofs.YtaeaccakkielmaaDoor

/- Files below a root, sizes, quotas, archives, in plain Lean. No program in sight. -/
set_option linter.unusedVariables false
namespace Go.Proofs.YtaeaccakkielmaaDoor
--BEGIN
/-! ### files -/
def filesP (s : List Pc) : Nat → Int → List Bs → List Bs
  | 0, _, _ => []
  | f + 1, p, ps => ((folderOf s p).getD []).flatMap fun e => if (fileOf s e.2).isSome then [joinP (ps ++ [tx e.1])] else filesP s f e.2 (ps ++ [tx e.1])
def allF (s : List Pc) (root : Int) : List Bs := if storeV s then filesP s 3 root [] else []
def specF (s : List Pc) (p : Int) (ps : List Bs) : List Bs := if (fileOf s p).isSome && !ps.isEmpty then [joinP ps] else filesP s (3 - ps.length) p ps
def contentAt (s : List Pc) (root : Int) (path : Bs) : Bs := (readAt s root path).getD []
def sizeOf' (s : List Pc) (root : Int) (l : List Bs) : Int := l.foldl (fun n p => n + ((contentAt s root p).length : Int)) 0
def totalP (s : List Pc) (root : Int) : Int := sizeOf' s root (allF s root)
def usedP (s : List Pc) (root : Int) (path : Bs) : Int := if (pathP path).isSome && storeV s then sizeOf' s root ((allF s root).filter fun f => belowP f path) else -1
abbrev Qt := ByteArray × Int
def encQ (q : Qt) : List Value := [.string q.1, .int .i64 q.2]
def quoAt (l : List Qt) (k : Nat) : Bool := match l[k]? with | some q => (pathP (tx q.1)).isSome && inI q.2 0 1000 && !((l.take k).any fun o => tx o.1 == tx q.1) | none => true
def quoV (l : List Qt) : Bool := decide (l.length ≤ 6) && (List.range l.length).all (quoAt l)
def overP (s : List Pc) (root : Int) (l : List Qt) : List Bs := if quoV l && storeV s then (l.filter fun q => decide (usedP s root (tx q.1) > q.2)).map fun q => tx q.1 else []

/-! ### archives -/
structure Ar where
  ps : List Pc
  op : Int
  vs : List Vr
def archV (a : Ar) : Bool := storeV a.ps && (versV a.vs && ((folderOf a.ps a.op).isSome && a.vs.all fun v => (folderOf a.ps v.1).isSome))
def newA (s : List Pc) : Ar × Bool := if (putT s (mk (foldT []))).2.2 then (⟨(putT s (mk (foldT []))).1, (putT s (mk (foldT []))).2.1, []⟩, true) else (⟨[], 0, []⟩, false)
def addV (l : List Vr) (v : Vr) : List Vr × Bool := if versV l then (if versV (l ++ [v]) then (l ++ [v], true) else (l, false)) else ([], false)
def joinW (c : Bs) : List Bs → Bs
  | [] => []
  | [p] => p
  | p :: r => p ++ c ++ joinW c r
def filesAns (a : Ar) : Bs := if allF a.ps a.op = [] then [110, 111, 110, 101] else joinW [32] (allF a.ps a.op)
def wWrite : Bs := [119, 114, 105, 116, 101]
def wDrop : Bs := [100, 114, 111, 112]
def wKeep : Bs := [107, 101, 101, 112]
def wBack : Bs := [98, 97, 99, 107]
def wRead : Bs := [114, 101, 97, 100]
def wFiles : Bs := [102, 105, 108, 101, 115]
def wOk : Bs := [111, 107]
def wNo : Bs := [110, 111]
def lineA (a : Ar) (ws : List Bs) : Ar × Bs :=
  match ws with
  | [x, p, c] => if x = wWrite then (match writeA a.ps a.op p c with | (s, r, true) => (⟨s, r, a.vs⟩, wOk) | _ => (a, wNo)) else (a, wNo)
  | [x, p] =>
    if x = wDrop then (match dropA a.ps a.op p with | (s, r, true) => (⟨s, r, a.vs⟩, wOk) | _ => (a, wNo))
    else if x = wKeep then (match addV a.vs (a.op, (a.vs.length : Int) - 1, mk p) with | (v, true) => (⟨a.ps, a.op, v⟩, wOk) | _ => (a, wNo))
    else if x = wBack then (if 0 ≤ readH p ∧ readH p < a.vs.length then (⟨a.ps, ((a.vs.getD (readH p).toNat (0, 0, ⟨#[]⟩)).1), a.vs⟩, wOk) else (a, wNo))
    else if x = wRead then (match readAt a.ps a.op p with | some t => (a, 61 :: t) | none => (a, wNo))
    else (a, wNo)
  | [x] => if x = wFiles then (a, filesAns a) else (a, wNo)
  | _ => (a, wNo)
def archL (a : Ar) (line : Bs) : Ar × Bs := if archV a then lineA a (splitS 32 line) else (⟨[], 0, []⟩, [])
def archLs : Ar → List Bs → Ar × List Bs
  | a, [] => (a, [])
  | a, l :: r => ((archLs (archL a l).1 r).1, (archL a l).2 :: (archLs (archL a l).1 r).2)
def archM (a : Ar) (ls : List Bs) : Ar × List Bs := if archV a && decide (ls.length ≤ 12) then archLs a ls else (⟨[], 0, []⟩, [])
--END
end Go.Proofs.YtaeaccakkielmaaDoor

/- Regions that draw their order and whose calls make memory of their own: ONE walk, in the order of the text, in every world that is as this one below its heap's size. -/
set_option linter.unusedVariables false
namespace Go.Proofs.YtaeaccakkielmaaDoor
open Go.RowKit

/-- What may have come since: new blocks, and a count of draws. -/
structure Since where
  os : Array Obj
  n : Nat
instance : Inhabited Since := ⟨⟨#[], 0⟩⟩
def far (w : World) (p : Since) : World := { w with heap := w.heap ++ p.os, drawn := p.n }
theorem far_size (w : World) (p : Since) : (far w p).heap.size = w.heap.size + p.os.size := by simp [far]
theorem far_below (w : World) (p : Since) : Below w.heap.size w (far w p) := ⟨rfl, rfl, rfl, by rw [far_size]; omega, fun k hk => by simp [far, Array.getElem?_append, hk]⟩
theorem below_far {w w' : World} (h : Below w.heap.size w w') : ∃ p, w' = far w p := by
  refine ⟨⟨w'.heap.extract w.heap.size w'.heap.size, w'.drawn⟩, ?_⟩
  obtain ⟨h1, h2, h3, h4, h5⟩ := h
  obtain ⟨hp, t, d, o, out⟩ := w'
  simp only at h1 h2 h3 h4 h5
  subst h1 h2 h3
  have e : hp = w.heap ++ hp.extract w.heap.size hp.size := by
    apply Array.ext_getElem?
    intro k
    by_cases hk : k < w.heap.size
    · rw [h5 k hk, Array.getElem?_append_left hk]
    · rw [Array.getElem?_append_right (by omega), Array.getElem?_extract]
      have e : w.heap.size + (k - w.heap.size) = k := by omega
      rw [e]
      split
      · rfl
      · rename_i hn
        rw [Array.getElem?_eq_none]
        omega
  unfold far
  exact congrArg (fun h => (⟨h, w.tape, d, w.os, w.output⟩ : World)) e
theorem far_cell {w : World} {a : Addr} {v : Value} (h : w.cell? a = some v) (p : Since) : (far w p).cell? a = some v :=
  ((far_below w p).cell (World.block_lt_of_cell? w _ h)).trans h
theorem wp_region_far {P : Program} {id : Nat} {Q : Exit → Act → World → Prop} {a : Act} {w : World} {l : List Oper} (hm : P.follows .mixedOrders = true) (hB : Region.lexB .any l.toArray = true)
    (h : wpQuiet P l.toArray (fun w' => ∃ p : Since, w' = far w p) (fun a' => ∀ w', (∃ p : Since, w' = far w p) → Q .normal a' w') l a) : (Code.region id l.toArray true).wp P Q a w :=
  wp_region_quiet (C := fun w' => ∃ p : Since, w' = far w p) hm hB (below_far ((Below.refl _ w).drew)) (by simpa using h)
section
variable {P : Program} {f : FuncId} {args : Array Value} {w : World} {p : Since} {v : Value}
theorem far_call (h : Calls P f args (far w p) fun e w' => e = .returned v ∧ Below (far w p).heap.size (far w p) w') : Calls P f args (far w p) fun e w'' => e = .returned v ∧ ∃ q : Since, w'' = far w q :=
  h.mono fun _ _ ⟨he, hb⟩ => ⟨he, below_far (Below_then (far_below w p) hb (Nat.le_refl _))⟩
theorem far_same (h : Calls P f args (far w p) fun e w' => e = .returned v ∧ far w p = w') : Calls P f args (far w p) fun e w'' => e = .returned v ∧ ∃ q : Since, w'' = far w q :=
  h.mono fun _ _ ⟨he, hb⟩ => ⟨he, p, hb.symm⟩
theorem far_drawn (h : Calls P f args (far w p) fun e w' => e = .returned v ∧ ∃ n, w' = (far w p).drewN n) : Calls P f args (far w p) fun e w'' => e = .returned v ∧ ∃ q : Since, w'' = far w q :=
  far_call (h.mono fun _ _ ⟨he, n, hn⟩ => ⟨he, by rw [hn]; exact Below_drewN (Below.refl _ _) n⟩)
theorem far_drawn_ (h : Calls P f args (far w p) fun e w' => e = .returned v ∧ Drawn_ (far w p) w') : Calls P f args (far w p) fun e w'' => e = .returned v ∧ ∃ q : Since, w'' = far w q :=
  far_drawn h
end
theorem Below_drew {w w1 : World} (h : Below w.drew.heap.size w.drew w1) : Below w.heap.size w w1 := ⟨h.os, h.tape, h.output, h.size, h.block⟩
theorem Sl.far {α : Type} {enc : α → List Value} {w : World} {size : Nat} {A : Option Addr} {l : List α} (h : Sl w enc size A l) (p : Since) : Sl (far w p) enc size A l := h.below (far_below w p)
end Go.Proofs.YtaeaccakkielmaaDoor

/- Marks that a law writes into slices, and looks for afterwards. -/
set_option linter.unusedVariables false
namespace Go.Proofs.YtaeaccakkielmaaDoor
open Go.RowKit

/-! ### plain -/
def dgo : Nat → Nat → Bs → Bs
  | 0, _, acc => acc
  | f + 1, k, acc => if k = 0 then acc else dgo f (k / 10) (UInt8.ofNat (48 + k % 10) :: acc)
def markT (k : Nat) : Bs := if k = 0 then [109, 48] else 109 :: dgo k k []
def MarkAt (k0 : Nat) (acc : Bs) (K : Nat) : Prop := ∃ f, K ≤ f ∧ dgo k0 k0 [] = dgo f K acc
theorem MarkAt.start (k0 : Nat) : MarkAt k0 [] k0 := ⟨k0, Nat.le_refl _, rfl⟩
theorem MarkAt.step {k0 : Nat} {acc : Bs} {K : Nat} (h : MarkAt k0 acc K) (hK : 0 < K) : MarkAt k0 (UInt8.ofNat (48 + K % 10) :: acc) (K / 10) := by
  obtain ⟨f, hf, e⟩ := h
  cases f with
  | zero => omega
  | succ f => exact ⟨f, by omega, by rw [e, dgo, if_neg (by omega)]⟩
theorem MarkAt.done {k0 : Nat} {acc : Bs} {K : Nat} (h : MarkAt k0 acc K) (hK : ¬ 0 < K) : dgo k0 k0 [] = acc := by
  obtain ⟨f, hf, e⟩ := h
  have : K = 0 := by omega
  subst this
  rw [e]
  cases f with
  | zero => rfl
  | succ f => rw [dgo, if_pos rfl]
theorem markT_pos {k : Nat} (h : 0 < k) : markT k = 109 :: dgo k k [] := by unfold markT; rw [if_neg (by omega)]
theorem markT_zero : markT 0 = [109, 48] := rfl

/-! ### memory -/
theorem Own.grew {α : Type} {enc : α → List Value} {w w' : World} {base size : Nat} {E : TypeId} {u v : Value} {l : List α} (h : Own w base E size enc u l) (hg : Grew v w w') (hne : ∀ g, u.ownBlock = some g → v.ownBlock ≠ some g) : Own w' base E size enc u l := by
  refine World.ownsRow.kept h (row := v.ownBlock) hg ?_
  cases hu : u.ownBlock with
  | none => exact .inl rfl
  | some k => right; intro e; exact hne k hu e.symm
theorem Grew.below {w w' : World} {v : Value} (h : Below w.heap.size w w') : Grew v w w' := ⟨h.os, h.tape, h.output, h.size, fun k hk _ => h.block k hk⟩
theorem Grew.refl (v : Value) (w : World) : Grew v w w := ⟨rfl, rfl, rfl, Nat.le_refl _, fun _ _ _ => rfl⟩
theorem Grew.trans {v : Value} {w w1 w2 : World} (h : Grew v w w1) (h2 : Grew v w1 w2) : Grew v w w2 :=
  ⟨h2.os.trans h.os, h2.tape.trans h.tape, h2.output.trans h.output, Nat.le_trans h.size h2.size, fun k hk hne => (h2.block k (Nat.lt_of_lt_of_le hk h.size) hne).trans (h.block k hk hne)⟩
theorem Grew.set {v : Value} {w w1 : World} (h : Grew v w w1) {g o : Nat} (hv : v.ownBlock = some g) (u : Value) : Grew v w (w1.setCell ⟨g, o, none⟩ u) :=
  h.trans ⟨rfl, rfl, rfl, by simp [World.setCell], fun k hk hne => Below.heap_setCell _ _ _ _ (by rintro rfl; exact hne (by rw [hv]))⟩
/-- Below a base that is not above what v owns, nothing has turned. -/
theorem Grew.under {v : Value} {w0 w w' : World} (h : Grew v w w') (hb : Below w0.heap.size w0 w) (hv : ∀ g, v.ownBlock = some g → w0.heap.size ≤ g) : Below w0.heap.size w0 w' :=
  hb.trans ⟨h.os, h.tape, h.output, h.size, fun k hk => h.block k (Nat.lt_of_lt_of_le hk hb.size) (fun e => by have := hv k e.symm; omega)⟩
/-- A row that is owned, ready to be written anew. -/
theorem Own.row {α : Type} {enc : α → List Value} {w : World} {base size : Nat} {E : TypeId} {v : Value} {l : List α} (h : Own w base E size enc v l) (hl : 0 < l.length) :
    ∃ g cap, v = .slice (some ⟨g, 0, none⟩) l.length cap ∧ base ≤ g ∧ l.length ≤ cap ∧ cap ≤ maxLen ∧ Filled w g (cap * size) E [] := by
  rcases h.2 with ⟨hv, hn⟩ | ⟨g, cap, cur, hv, hg, hh, hnc, hcm, hsz, ht⟩
  · omega
  · exact ⟨g, cap, hv, hg, hnc, hcm, cur, hh, hsz, Nat.zero_le _, rfl⟩
theorem Filled.ownc {α : Type} {enc : α → List Value} {wr : World} {g cap : Nat} {E : TypeId} {l : List α} {size base : Nat} (h : Filled wr g (cap * size) E (flat enc l)) (he : ∀ x, (enc x).length = size) (hb : base ≤ g) (hm : cap ≤ maxLen) (hl : l.length ≤ cap) :
    Own wr base E size enc (.slice (some ⟨g, 0, none⟩) l.length cap) l := by
  obtain ⟨cs, hg, hs, hd, ht⟩ := h
  refine ⟨flat_length he l, .inr ⟨g, cap, cs, rfl, hb, hg, hl, hm, hs, ?_⟩⟩
  rw [← flat_length he l]; exact ht
theorem own_of_slice (g o n c : Nat) : (Value.slice (some ⟨g, o, none⟩) n c).ownBlock = some g := rfl

/-! ### walks -/

/-! ### numbers -/
def cntI (k n : Nat) : List Int := (List.range n).map fun j => ((k + j : Nat) : Int)
theorem cntI_len (k n : Nat) : (cntI k n).length = n := by simp [cntI]
theorem cntI_succ (k n : Nat) : cntI k (n + 1) = cntI k n ++ [((k + n : Nat) : Int)] := by simp [cntI, List.range_succ]
theorem cntI_at {k n j : Nat} (h : j < n) : (cntI k n)[j]'(by rw [cntI_len]; exact h) = ((k + j : Nat) : Int) := by simp [cntI]
theorem flatI_len (l : List Int) : (flat encI l).length = l.length := by rw [flat_length (size := 1) (fun _ => rfl), Nat.mul_one]
def Marked {α : Type} (E : TypeId) (size : Nat) (enc : α → List Value) (base : Nat) (v : Value) (l' : List α) (r : Nat) (w : World) (e : Ending) (w' : World) : Prop :=
  e = .returned (.int .i64 (r : Int)) ∧ Own w' base E size enc v l' ∧ Grew v w w'
theorem Own.empty {α : Type} {enc : α → List Value} {w : World} {base size : Nat} {E : TypeId} {v : Value} {l l' : List α} (h : Own w base E size enc v l) (hl : l.length = 0) (hl' : l'.length = 0) : Own w base E size enc v l' := by
  have e1 : l = [] := List.eq_nil_of_length_eq_zero hl
  have e2 : l' = [] := List.eq_nil_of_length_eq_zero hl'
  rw [e2]; rw [e1] at h; exact h
end Go.Proofs.YtaeaccakkielmaaDoor

/- Words for slices of structs: several cells written one after the other; marks at a number. -/
set_option linter.unusedVariables false
namespace Go.Proofs.YtaeaccakkielmaaDoor
open Go.RowKit

/-- Cells stored one after the other. -/
def setAll (w : World) (g : Nat) : Nat → List Value → World
  | _, [] => w
  | j, u :: r => setAll (w.setCell ⟨g, j, none⟩ u) g (j + 1) r
theorem Filled.stores_of {wr : World} {g N : Nat} {E : TypeId} : ∀ {done : List Value} (us : List Value) {j : Nat}, Filled wr g N E done → done.length = j → j + us.length ≤ N → Filled (setAll wr g j us) g N E (done ++ us) := by
  intro done us
  induction us generalizing wr done with
  | nil => intro j h _ _; rw [List.append_nil]; exact h
  | cons u r ih =>
    intro j h hd hl
    simp only [List.length_cons] at hl
    have h1 := h.store u (by omega)
    rw [hd] at h1
    have h2 := ih h1 (j := j + 1) (by simp; omega) (by omega)
    have e : done ++ u :: r = done ++ [u] ++ r := by simp
    rw [e]; exact h2
theorem Filled.stores {wr : World} {g N : Nat} {E : TypeId} {done : List Value} (h : Filled wr g N E done) (us : List Value) (hl : done.length + us.length ≤ N) : Filled (setAll wr g done.length us) g N E (done ++ us) :=
  Filled.stores_of us h rfl hl
theorem Own.sl' {α : Type} {enc : α → List Value} {w : World} {base size : Nat} {E : TypeId} {A : Option Addr} {n c : Nat} {l : List α} (h : Own w base E size enc (.slice A n c) l) : Sl w enc size A l := by
  obtain ⟨A', c', e, _, hs, _⟩ := h.sl
  injection e with e1 _ _
  rw [e1]; exact hs
theorem Own.up {α : Type} {enc : α → List Value} {w : World} {base size : Nat} {E : TypeId} {v : Value} {l : List α} (h : Own w base E size enc v l) : ∀ g, v.ownBlock = some g → g < w.heap.size := fun g hg => (h.blk g hg).2
theorem apart_of {u v : Value} {m n : Nat} (hu : ∀ g, u.ownBlock = some g → g < m) (hv : ∀ g, v.ownBlock = some g → n ≤ g) (h : m ≤ n) : ∀ g, u.ownBlock = some g → v.ownBlock ≠ some g := fun g h1 h2 => by
  have a := hu g h1; have b := hv g h2; exact absurd a (by omega)
theorem apart_of' {u v : Value} {m n : Nat} (hu : ∀ g, u.ownBlock = some g → n ≤ g) (hv : ∀ g, v.ownBlock = some g → g < m) (h : m ≤ n) : ∀ g, u.ownBlock = some g → v.ownBlock ≠ some g := fun g h1 h2 => by
  have a := hu g h1; have b := hv g h2; exact absurd b (by omega)
theorem Own.lo {α : Type} {enc : α → List Value} {w : World} {base size : Nat} {E : TypeId} {v : Value} {l : List α} (h : Own w base E size enc v l) : ∀ g, v.ownBlock = some g → base ≤ g := fun g hg => (h.blk g hg).1
end Go.Proofs.YtaeaccakkielmaaDoor

/- Quotas: rows, plain. -/
set_option linter.unusedVariables false
namespace Go.Proofs.YtaeaccakkielmaaDoor
open Go.RowKit
theorem Sl.getQ {w : World} {A : Option Addr} {l : List Qt} {k : Nat} (h : Sl w encQ 2 A l) (hk : k < l.length) :
    ∃ b o, A = some ⟨b, o, none⟩ ∧ w.cell? ⟨b, o + k * 2, none⟩ = some (.string l[k].1) ∧ w.cell? ⟨b, o + k * 2 + 1, none⟩ = some (.int .i64 l[k].2) := by
  obtain ⟨b, o, e, hc⟩ := h.get (fun _ => rfl) hk
  exact ⟨b, o, e, by simpa using hc 0 _ (by omega) rfl, by simpa [Nat.add_assoc] using hc 1 _ (by omega) rfl⟩
def FitQ (l : List Qt) : Prop := ∀ p ∈ l, p.1.size ≤ 1048576
theorem quoV_no {l : List Qt} {k : Nat} (hk : k < l.length) (h : quoAt l k = false) : quoV l = false := by
  unfold quoV
  rw [Bool.and_eq_false_iff]; right
  rw [List.all_eq_false]
  exact ⟨k, List.mem_range.2 hk, by rw [h]; simp⟩
theorem quoV_long {l : List Qt} (h : ¬ l.length ≤ 6) : quoV l = false := by
  unfold quoV; rw [decide_eq_false h]; rfl
theorem quoV_all {l : List Qt} (h : ∀ k, k < l.length → quoAt l k = true) : quoV l = decide (l.length ≤ 6) := by
  unfold quoV
  rw [show (List.range l.length).all (quoAt l) = true from List.all_eq_true.2 fun k hk => h k (List.mem_range.1 hk), Bool.and_true]
theorem quoAt_path {l : List Qt} {k : Nat} (hk : k < l.length) (h : (pathP (bs l[k].1)).isSome = false) : quoAt l k = false := by
  unfold quoAt; rw [List.getElem?_eq_getElem hk]; simp only [tx]; rw [h]; rfl
theorem quoAt_most {l : List Qt} {k : Nat} (hk : k < l.length) (h : inI l[k].2 0 1000 = false) : quoAt l k = false := by
  unfold quoAt; rw [List.getElem?_eq_getElem hk]; simp only; rw [h]; simp
theorem quoAt_twice {l : List Qt} {k j : Nat} (hk : k < l.length) (hj : j < k) (h : bs l[j].1 = bs l[k].1) : quoAt l k = false := by
  unfold quoAt; rw [List.getElem?_eq_getElem hk]; simp only
  rw [show ((l.take k).any fun o => tx o.1 == tx l[k].1) = true from List.any_eq_true.2 ⟨l[j], List.mem_take_iff_getElem.2 ⟨j, by omega, rfl⟩, by simpa [tx] using h⟩]
  simp
theorem quoAt_yes {l : List Qt} {k : Nat} (hk : k < l.length) (h1 : (pathP (bs l[k].1)).isSome = true) (h2 : inI l[k].2 0 1000 = true) (h3 : ∀ j (hj : j < l.length), j < k → bs l[j].1 ≠ bs l[k].1) : quoAt l k = true := by
  unfold quoAt; rw [List.getElem?_eq_getElem hk]; simp only [tx]
  rw [h1, h2]
  have e : ((l.take k).any fun o => bs o.1 == bs l[k].1) = false := by
    rw [List.any_eq_false]
    intro o ho
    obtain ⟨j, hj, rfl⟩ := List.mem_take_iff_getElem.1 ho
    have := h3 j (by omega) (by omega)
    simpa using this
  exact (congrArg (fun b => (true && true) && !b) e)
end Go.Proofs.YtaeaccakkielmaaDoor

/- 'append' of a whole slice onto a row of the call's own; 'append' of one struct. -/
set_option linter.unusedVariables false
namespace Go.Proofs.YtaeaccakkielmaaDoor
open Go.RowKit

theorem Own.cz {α : Type} {enc : α → List Value} {w : World} {base size : Nat} {E : TypeId} {A : Option Addr} {n c : Nat} {l : List α} (h : Own w base E size enc (.slice A n c) l) : A = none → c = 0 := by
  rintro rfl
  rcases h.2 with ⟨hv, hn⟩ | ⟨g, cap, cur, hv, hg, hh, hnc, hcm, hsz, ht⟩
  · injection hv
  · injection hv with e; cases e
theorem wpList_appN {P : Program} {α : Type} {enc : α → List Value} {ops : Array Oper} {rest : List Oper} {o : Oper} {a : Act} {Q : Exit → Act → World → Prop} {w0 wr : World} {B base size bytes : Nat} {t E : TypeId} {i : TypeInfo} {z : Value} {v : Value} {l m : List α} {A : Option Addr} {c : Nat}
    (ht : P.underlying t = some (.slice E)) (hi : P.info? E = some i) (hz : i.zero = some z) (hsize : i.size = size) (hby : i.bytes = bytes) (hzs : z.cells.size = size) (hsz : 0 < size) (hb200 : bytes ≤ 256)
    (hgd : o.guard = none) (s x : Operand) (ho : o.op = .call { callee := .builtin .append, args := #[s, x], argTypes := #[t, t] })
    (hown : Own wr base E size enc v l) (hb : Below B w0 wr) (hB : B ≤ base) (hbase : base ≤ wr.heap.size) (hn : l.length + m.length ≤ 33554432)
    (hsl : Sl wr enc size A m) (hcz : A = none → c = 0) (hce : ∀ y, (enc y).length = size) (h1 : ∀ y, ∀ u ∈ enc y, u.oneCell' = true)
    (hs : a.eval s = v) (hx : a.eval x = .slice A m.length c)
    (h : ∀ v' w', Own w' base E size enc v' (l ++ m) → Below B w0 w' → Grew v wr w' → wpList P ops Q rest (a.put o.dst v') w') : wpList P ops Q (o :: rest) a wr := by
  cases A with
  | none =>
    have hm : m = [] := by
      cases m with
      | nil => rfl
      | cons y r => obtain ⟨b, o, e, _⟩ := hsl (by simp); cases e
    subst hm
    rw [hcz rfl] at hx
    refine wpList_append_own_none hgd s x t ho base E i size ht hi v l.length (flat enc l) hs hown hx ?_
    exact h v wr (by rw [List.append_nil]; exact hown) hb (Grew.refl _ _)
  | some ad =>
    refine wpList_append_own _ hgd s x t ho base E i z size bytes ht hi hz hsize hby hzs hsz v l.length (flat enc l) hs hown ad m.length c (flat enc m) hx (flat_length hce m) ?_ ?_ ?_ ?_ hbase ?_
    · intro j u hu
      have hpos : 0 < m.length := by
        have hlt := (List.getElem?_eq_some_iff.1 hu).1
        rw [flat_length hce] at hlt
        cases m with
        | nil => simp at hlt
        | cons y r => simp
      obtain ⟨b, o', e, hc⟩ := hsl hpos
      injection e with e
      subst e
      have hadd : (⟨b, o', none⟩ : Addr).add j = ⟨b, o' + j, none⟩ := by unfold Addr.add; split <;> simp_all
      rw [hadd]; exact hc j u hu
    · intro u hu
      unfold flat at hu
      obtain ⟨y, _, hy⟩ := List.mem_flatMap.1 hu
      exact h1 y u hy
    · unfold maxLen; omega
    · have := Nat.mul_le_mul_left (l.length + m.length) hb200; omega
    · intro v' w' hown' hg _
      refine h v' w' ?_ (hb.grown hg (Nat.le_trans hB hbase) (fun k hk => Nat.le_trans hB (World.ownsRow.lt hown k hk).1)) hg
      show w'.ownsRow base E size v' (l ++ m).length (flat enc (l ++ m))
      rw [flat_append, List.length_append]; exact hown'
theorem oneI : ∀ y, ∀ u ∈ encI y, u.oneCell' = true := by intro y u hu; simp [encI] at hu; subst hu; rfl
theorem oneS : ∀ y, ∀ u ∈ encS y, u.oneCell' = true := by intro y u hu; simp [encS] at hu; subst hu; rfl
theorem oneP : ∀ y, ∀ u ∈ encP y, u.oneCell' = true := by intro y u hu; simp [encP] at hu; rcases hu with rfl | rfl <;> rfl
theorem oneV : ∀ y, ∀ u ∈ encV y, u.oneCell' = true := by intro y u hu; simp [encV] at hu; rcases hu with rfl | rfl | rfl <;> rfl
theorem oneT : ∀ y, ∀ u ∈ encT y, u.oneCell' = true := by intro y u hu; simp [encT] at hu; rcases hu with rfl | rfl | rfl | rfl <;> rfl
section
variable {ops : Array Oper} {rest : List Oper} {o : Oper} {a : Act} {Q : Exit → Act → World → Prop} {w0 wr : World} {v : Value}
theorem app_pcN {l m : List Pc} {A : Option Addr} {c : Nat} {s x : Operand} (hgd : o.guard = none) (ho : o.op = .call { callee := .builtin .append, args := #[s, x], argTypes := #[35, 35] })
    (hown : Own wr w0.heap.size 58 2 encP v l) (hb : Below w0.heap.size w0 wr) (hn : l.length + m.length ≤ 33554432) (hsl : Sl wr encP 2 A m) (hcz : A = none → c = 0)
    (hs : a.eval s = v) (hx : a.eval x = .slice A m.length c)
    (h : ∀ v' w', Own w' w0.heap.size 58 2 encP v' (l ++ m) → Below w0.heap.size w0 w' → Grew v wr w' → wpList Tryd.prog ops Q rest (a.put o.dst v') w') : wpList Tryd.prog ops Q (o :: rest) a wr := by
  obtain ⟨i0, hi0, hz0, hz1, hz2⟩ := info_parts pc_info
  exact wpList_appN Tryd.underlying35 hi0 hz0 hz1 hz2 rfl (by decide) (by decide) hgd s x ho hown hb (Nat.le_refl _) hb.size hn hsl hcz (fun _ => rfl) oneP hs hx h
theorem app_strN {l m : List ByteArray} {A : Option Addr} {c : Nat} {s x : Operand} (hgd : o.guard = none) (ho : o.op = .call { callee := .builtin .append, args := #[s, x], argTypes := #[37, 37] })
    (hown : Own wr w0.heap.size 9 1 encS v l) (hb : Below w0.heap.size w0 wr) (hn : l.length + m.length ≤ 33554432) (hsl : Sl wr encS 1 A m) (hcz : A = none → c = 0)
    (hs : a.eval s = v) (hx : a.eval x = .slice A m.length c)
    (h : ∀ v' w', Own w' w0.heap.size 9 1 encS v' (l ++ m) → Below w0.heap.size w0 w' → Grew v wr w' → wpList Tryd.prog ops Q rest (a.put o.dst v') w') : wpList Tryd.prog ops Q (o :: rest) a wr := by
  obtain ⟨i0, hi0, hz0, hz1, hz2⟩ := info_parts str_info
  exact wpList_appN Tryd.underlying37 hi0 hz0 hz1 hz2 rfl (by decide) (by decide) hgd s x ho hown hb (Nat.le_refl _) hb.size hn hsl hcz (fun _ => rfl) oneS hs hx h
end
/-! ### slices.Clone -/
set_option maxHeartbeats 2000000 in
set_option maxRecDepth 100000 in
theorem ClonePc_any (A : Option Addr) (c : Nat) (l : List Pc) (w : World) (hs : Sl w encP 2 A l) (hcz : A = none → c = 0) (hl : l.length ≤ 16777216) :
    Calls Tryd.prog 60 #[.slice A l.length c] w (OwnRes 58 2 encP l w) := by
  have HS := Lib.hid hs
  have HC := Lib.hid hcz
  clear hs hcz
  have hnil := fun (W : World) (A : Option Addr) (n c : Nat) => Lib.run_eql_slice_nil (P := Tryd.prog) W 35 58 A n c 0 0 Tryd.underlying35
  cases A with
  | none =>
    have hm : l = [] := by
      cases l with
      | nil => rfl
      | cons y r => obtain ⟨b, o, e, _⟩ := HS.out (by simp); cases e
    subst hm
    go_enter Tryd.func60, Tryd.ntmps60
    go_wp2
    go_ret
    exact ⟨_, rfl, Own.nil, Below.refl _ _⟩
  | some ad =>
    go_enter Tryd.func60, Tryd.ntmps60
    go_wp2_with (at_builtin; refine app_pcN rfl rfl (Own.made (Nat.le_refl _)) ((Below.refl _ _).alloc (Nat.le_refl _) _) (by simp; omega) (HS.out.alloc _) HC.out (by rfl) (by rfl) ?_; intro v1 w2 hown2 hb2 hg2; have HW2 := Lib.hid hown2; have HB2 := Lib.hid hb2; clear hown2 hb2 hg2)
    go_ret
    exact ⟨_, rfl, by have h := HW2.out; rwa [List.nil_append] at h, HB2.out⟩
end Go.Proofs.YtaeaccakkielmaaDoor

/- '==' and '!=' of structs. -/
set_option linter.unusedVariables false
namespace Go.Proofs.YtaeaccakkielmaaDoor
open Go.RowKit

end Go.Proofs.YtaeaccakkielmaaDoor

/- Versions and tags, walked. -/
set_option linter.unusedVariables false
namespace Go.Proofs.YtaeaccakkielmaaDoor
open Go.RowKit

def FitV (l : List Vr) : Prop := ∀ v ∈ l, v.2.2.size ≤ 16777216
theorem FitV.at {l : List Vr} (h : FitV l) {k : Nat} (hk : k < l.length) : l[k].2.2.size ≤ 16777216 := h _ (by simp)
theorem verAt_no {k : Nat} {v : Vr} (h : pv v.1 = false ∨ v.2.1 < -1 ∨ (k : Int) ≤ v.2.1 ∨ wordV (bs v.2.2) = false) : verAt k v = false := by
  cases hv : verAt k v
  · rfl
  · obtain ⟨h1, h2, h3, h4⟩ := verAt_iff.1 hv
    rcases h with h | h | h | h
    · rw [h] at h1; cases h1
    · omega
    · omega
    · rw [h] at h4; cases h4
theorem versV_bad {l : List Vr} {k : Nat} (hk : k < l.length) (h : verAt k l[k] = false) : versV l = false := by
  unfold versV; rw [versFrom_bad hk h, Bool.and_false]
theorem versV_long {l : List Vr} (h : ¬ l.length ≤ 12) : versV l = false := by unfold versV; rw [decide_eq_false h]; rfl
theorem versV_good {l : List Vr} {k : Nat} (hk : ¬ k < l.length) (h : versFrom 0 (l.take k) = true) (hl : l.length ≤ 12) : versV l = true := by
  unfold versV; rw [versFrom_all hk h, decide_eq_true hl]; rfl


/-! ### prints of lists -/
def prFold (l : List Int) (k : Nat) : Int := (l.take k).foldl prPair 5
theorem prFold_succ {l : List Int} {k : Nat} (h : k < l.length) : prFold l (k + 1) = prPair (prFold l k) l[k] := by
  unfold prFold; rw [List.take_succ_eq_append_getElem h, List.foldl_append]; rfl
theorem prFold_pv {l : List Int} (h : l.all pv = true) : ∀ k, k ≤ l.length → pv (prFold l k) = true
  | 0, _ => (by show pv 5 = true; decide)
  | k + 1, hk => by rw [prFold_succ (by omega)]; exact prPair_pv (prFold_pv h k (by omega)) (List.all_eq_true.1 h _ (by simp))
theorem prList_ok {l : List Int} (hl : l.length ≤ 20) (h : l.all pv = true) {k : Nat} (hk : ¬ k < l.length) : prList l = prFold l k := by
  unfold prList prFold; rw [if_pos ⟨hl, h⟩, List.take_of_length_le (by omega)]
theorem prList_bad {l : List Int} (h : ¬ l.length ≤ 20 ∨ l.all pv = false) : prList l = -1 := by
  unfold prList; rw [if_neg]; rintro ⟨h1, h2⟩; rcases h with h | h
  · exact h h1
  · rw [h] at h2; cases h2
/-! ### tags -/
def zeroT : Tg := (⟨#[]⟩, 0, 0, 0)
def mkT (l : List Vr) (name : ByteArray) (n : Int) : Tg := (makeTag l name n).getD zeroT
def mkOk (l : List Vr) (name : ByteArray) (n : Int) : Bool := (makeTag l name n).isSome
abbrev tgV (t : Tg) : Value := .agg #[.string t.1, .int .i64 t.2.1, .int .i64 t.2.2.1, .int .i64 t.2.2.2]
def MkR (l : List Vr) (name : ByteArray) (n : Int) (w : World) (e : Ending) (w' : World) : Prop :=
  e = .returned (.tuple #[tgV (mkT l name n), .bool (mkOk l name n)]) ∧ Below w.heap.size w w'
theorem MkR.no {l : List Vr} {name : ByteArray} {n : Int} (h : wordV (bs name) = false ∨ versV l = false ∨ n < 0 ∨ (l.length : Int) ≤ n) {w w' : World} (hb : Below w.heap.size w w') : MkR l name n w (.returned (.tuple #[.agg #[.string ⟨#[]⟩, .int .i64 0, .int .i64 0, .int .i64 0], .bool false])) w' := by
  have e := makeTag_none h
  exact ⟨by unfold mkT mkOk; rw [e]; rfl, hb⟩
theorem MkR.yes {l : List Vr} {name : ByteArray} {k : Nat} (hw : wordV (bs name) = true) (hv : versV l = true) (hk : k < l.length) {w w' : World} (hb : Below w.heap.size w w') : MkR l name k w (.returned (.tuple #[.agg #[.string name, .int .i64 (k : Int), .int .i64 l[k].1, .int .i64 (prList [prOf (bs name), (k : Int), l[k].1])], .bool true])) w' := by
  have e := makeTag_ok hw hv hk
  exact ⟨by unfold mkT mkOk; rw [e]; rfl, hb⟩
/-- The variable of a result that is a tag. -/
theorem tag_var {w w1 : World} {cs : Array Value} {E : TypeId} (hb : Below (w.alloc (.cells cs E)).heap.size (w.alloc (.cells cs E)) w1) : w1.heap[w.heap.size]? = some (.cells cs E (0, 0)) :=
  (hb.block _ (by simp)).trans (heap_alloc_new w _)

theorem Sl.new3 {w : World} {a b c : Int} {E : TypeId} : Sl (w.alloc (.cells #[.int .i64 a, .int .i64 b, .int .i64 c] E)) encI 1 (some ⟨w.heap.size, 0, none⟩) [a, b, c] := by
  intro _
  refine ⟨w.heap.size, 0, rfl, fun j u hu => ?_⟩
  rw [cell_of_row _ _ _ _ E (0, 0) (heap_alloc_new w _)]
  simpa [flat, encI] using hu
end Go.Proofs.YtaeaccakkielmaaDoor

/- Tags: copies, sizes, comparisons and marks of their slices, as laws make them. Written by structgen.py. -/
set_option linter.unusedVariables false
namespace Go.Proofs.YtaeaccakkielmaaDoor
open Go.RowKit

def markTagL (k n : Nat) : List Tg := (List.range n).map fun j => (mk (markT (k + 4 * j + 0)), ((k + 4 * j + 1 : Nat) : Int), ((k + 4 * j + 2 : Nat) : Int), ((k + 4 * j + 3 : Nat) : Int))
theorem markTagL_len (k n : Nat) : (markTagL k n).length = n := by simp [markTagL]
theorem markTagL_succ (k n : Nat) : markTagL k (n + 1) = markTagL k n ++ [(mk (markT (k + 4 * n + 0)), ((k + 4 * n + 1 : Nat) : Int), ((k + 4 * n + 2 : Nat) : Int), ((k + 4 * n + 3 : Nat) : Int))] := by simp [markTagL, List.range_succ]
theorem markTagL_at {k n j : Nat} (h : j < n) : (markTagL k n)[j]'(by rw [markTagL_len]; exact h) = (mk (markT (k + 4 * j + 0)), ((k + 4 * j + 1 : Nat) : Int), ((k + 4 * j + 2 : Nat) : Int), ((k + 4 * j + 3 : Nat) : Int)) := by simp [markTagL]
/-- What is told of a slice of such structs that came in. -/
def TagsIn (w : World) (A : Option Addr) (n c : Nat) : Prop := ∃ l : List Tg, l.length = n ∧ n ≤ c ∧ c ≤ maxLen ∧ Sl w encT 4 A l ∧ ∀ p ∈ l, p.1.size ≤ maxLen
end Go.Proofs.YtaeaccakkielmaaDoor

/- Tags, walked: right ones. -/
set_option linter.unusedVariables false
namespace Go.Proofs.YtaeaccakkielmaaDoor
open Go.RowKit

theorem bytes_ext {a b : ByteArray} (h : (a.toList == b.toList) = true) : a = b := by
  have h2 := beq_iff_eq.1 h
  rw [ByteArray.toList_eq, ByteArray.toList_eq] at h2
  obtain ⟨⟨x⟩⟩ := a
  obtain ⟨⟨y⟩⟩ := b
  simp at h2; subst h2; rfl
def eqT (a b : Tg) : Bool := (a.1.toList == b.1.toList) && ((a.2.1 == b.2.1) && ((a.2.2.1 == b.2.2.1) && (a.2.2.2 == b.2.2.2)))
theorem eqT_iff {a b : Tg} : eqT a b = true ↔ a = b := by
  unfold eqT
  constructor
  · intro h
    simp only [Bool.and_eq_true, beq_iff_eq] at h
    obtain ⟨h1, h2, h3, h4⟩ := h
    obtain ⟨a1, a2, a3, a4⟩ := a
    obtain ⟨b1, b2, b3, b4⟩ := b
    simp only at h1 h2 h3 h4
    have := bytes_ext (beq_iff_eq.2 h1)
    subst this h2 h3 h4; rfl
  · rintro rfl; simp
theorem tagR_ok {l : List Vr} {t : Tg} (h : mkOk l t.1 t.2.1 = true) : tagR l t = eqT (mkT l t.1 t.2.1) t := by
  unfold mkOk at h
  cases hm : makeTag l t.1 t.2.1 with
  | none => rw [hm] at h; cases h
  | some m =>
    have e : mkT l t.1 t.2.1 = m := by unfold mkT; rw [hm]; rfl
    rw [e, Bool.eq_iff_iff, eqT_iff, tagR_iff, hm]
    exact ⟨fun h => Option.some.inj h, fun h => congrArg some h⟩
theorem tagR_no {l : List Vr} {t : Tg} (h : mkOk l t.1 t.2.1 = false) : tagR l t = false := by
  unfold mkOk at h
  cases hm : makeTag l t.1 t.2.1 with
  | none =>
    cases ht : tagR l t
    · rfl
    · rw [tagR_iff.1 ht] at hm; cases hm
  | some m => rw [hm] at h; cases h
theorem rightTags_take_yes {l : List Vr} {ts : List Tg} {k : Nat} (h : k < ts.length) (hp : tagR l ts[k] = true) : rightTags l (ts.take (k + 1)) = rightTags l (ts.take k) ++ [ts[k]] := filter_take_yes h hp
theorem rightTags_take_no {l : List Vr} {ts : List Tg} {k : Nat} (h : k < ts.length) (hp : tagR l ts[k] = false) : rightTags l (ts.take (k + 1)) = rightTags l (ts.take k) := filter_take_no h hp
def FitT (l : List Tg) : Prop := ∀ t ∈ l, t.1.size ≤ 16777216
theorem FitT.at {l : List Tg} (h : FitT l) {k : Nat} (hk : k < l.length) : l[k].1.size ≤ 16777216 := h _ (by simp)
section
variable {ops : Array Oper} {rest : List Oper} {o : Oper} {a : Act} {Q : Exit → Act → World → Prop} {w0 wr : World} {v : Value}
end
theorem rightTags_len (l : List Vr) (ts : List Tg) : (rightTags l ts).length ≤ ts.length := List.length_filter_le _ _
end Go.Proofs.YtaeaccakkielmaaDoor

/- More words for memory: 'append' of one element inside a region that draws its order. -/
set_option linter.unusedVariables false
namespace Go.Proofs.YtaeaccakkielmaaDoor
open Go.RowKit
theorem step_app1 {P : Program} {α : Type} {enc : α → List Value} {ops : Array Oper} {o : Oper} {a : Act} {K : Act → World → Prop} {Q : Exit → Act → World → Prop} {E' : Prop} {w0 W : World} {B base size bytes g : Nat} {t E : TypeId} {i : TypeInfo} {z : Value} {v : Value} {l : List α}
    (ht : P.underlying t = some (.slice E)) (hi : P.info? E = some i) (hz : i.zero = some z) (hsize : i.size = size) (hby : i.bytes = bytes) (hzs : z.cells.size = size) (hsz : 0 < size) (hb200 : bytes ≤ 256)
    (hgd : o.guard = none) (s x : Operand) (ho : o.op = .call { callee := .builtin .append, args := #[s, x], argTypes := #[t, t] })
    (hs : a.eval s = v) (hx : a.eval x = .slice (some ⟨g, 0, none⟩) 1 1)
    (hown : Own W base E size enc v l) (hb : Below B w0 W) (hB : B ≤ base) (hbase : base ≤ W.heap.size) (hn : l.length ≤ 16777216) (y : α) (hcell : ∀ j u, (enc y)[j]? = some u → W.cell? ⟨g, j, none⟩ = some u) (hce : (enc y).length = size) (h1 : ∀ u ∈ enc y, u.oneCell' = true)
    (h : ∀ v' w', Own w' base E size enc v' (l ++ [y]) → Below B w0 w' → K (a.put o.dst v') w') :
    if Region.wanted o (yielded ops a.tmps) = true then Oper.wp P o a W K Q else E' := by
  have hw : Region.wanted o (yielded ops a.tmps) = true := by simp [Region.wanted, hgd]
  rw [if_pos hw]
  refine wp_append_own W s x t ho base E i z size bytes ht hi hz hsize hby hzs hsz v l.length (flat enc l) hs hown ⟨g, 0, none⟩ 1 1 (enc y) hx (by rw [hce, Nat.one_mul]) ?_ h1 ?_ ?_ hbase ?_
  · intro j u hu
    have hadd : (⟨g, 0, none⟩ : Addr).add j = ⟨g, j, none⟩ := by unfold Addr.add; split <;> simp_all
    rw [hadd]; exact hcell j u hu
  · unfold maxLen; omega
  · have := Nat.mul_le_mul_left (l.length + 1) hb200; omega
  · intro v' w' hown' hg _
    refine h v' w' ?_ (hb.grown hg (Nat.le_trans hB hbase) (fun k hk => Nat.le_trans hB (World.ownsRow.lt hown k hk).1))
    show w'.ownsRow base E size v' (l ++ [y]).length (flat enc (l ++ [y]))
    rw [flat_snoc, List.length_append]; exact hown'
section
variable {ops : Array Oper} {o : Oper} {a : Act} {K : Act → World → Prop} {Q : Exit → Act → World → Prop} {E' : Prop} {w0 W : World} {v : Value}
theorem step_int {g : Nat} {l : List Int} {y : Int} {s x : Operand} (hgd : o.guard = none) (ho : o.op = .call { callee := .builtin .append, args := #[s, x], argTypes := #[78, 78] })
    (hs : a.eval s = v) (hx : a.eval x = .slice (some ⟨g, 0, none⟩) 1 1)
    (hown : Own W w0.heap.size 3 1 encI v l) (hb : Below w0.heap.size w0 W) (hn : l.length ≤ 16777216) (hc : W.cell? ⟨g, 0, none⟩ = some (.int .i64 y))
    (h : ∀ v' w', Own w' w0.heap.size 3 1 encI v' (l ++ [y]) → Below w0.heap.size w0 w' → K (a.put o.dst v') w') :
    if Region.wanted o (yielded ops a.tmps) = true then Oper.wp Tryd.prog o a W K Q else E' := by
  obtain ⟨i0, hi0, hz0, hz1, hz2⟩ := info_parts int_info
  exact step_app1 Tryd.underlying78 hi0 hz0 hz1 hz2 rfl (by decide) (by decide) hgd s x ho hs hx hown hb (Nat.le_refl _) hb.size hn y (by
    intro j u hu
    have hj : j = 0 := by have := (List.getElem?_eq_some_iff.1 hu).1; simp [encI] at this; omega
    subst hj; simp [encI] at hu; rw [← hu]; exact hc) rfl (by intro u hu; simp [encI] at hu; subst hu; rfl) h
end
end Go.Proofs.YtaeaccakkielmaaDoor

/- Versions: copies, sizes, comparisons and marks of their slices, as laws make them. Written by structgen.py. -/
set_option linter.unusedVariables false
namespace Go.Proofs.YtaeaccakkielmaaDoor
open Go.RowKit

def markVersionL (k n : Nat) : List Vr := (List.range n).map fun j => (((k + 3 * j + 0 : Nat) : Int), ((k + 3 * j + 1 : Nat) : Int), mk (markT (k + 3 * j + 2)))
theorem markVersionL_len (k n : Nat) : (markVersionL k n).length = n := by simp [markVersionL]
theorem markVersionL_succ (k n : Nat) : markVersionL k (n + 1) = markVersionL k n ++ [(((k + 3 * n + 0 : Nat) : Int), ((k + 3 * n + 1 : Nat) : Int), mk (markT (k + 3 * n + 2)))] := by simp [markVersionL, List.range_succ]
theorem markVersionL_at {k n j : Nat} (h : j < n) : (markVersionL k n)[j]'(by rw [markVersionL_len]; exact h) = (((k + 3 * j + 0 : Nat) : Int), ((k + 3 * j + 1 : Nat) : Int), mk (markT (k + 3 * j + 2))) := by simp [markVersionL]
/-- What is told of a slice of such structs that came in. -/
def VersionsIn (w : World) (A : Option Addr) (n c : Nat) : Prop := ∃ l : List Vr, l.length = n ∧ n ≤ c ∧ c ≤ maxLen ∧ Sl w encV 3 A l ∧ ∀ p ∈ l, p.2.2.size ≤ maxLen
end Go.Proofs.YtaeaccakkielmaaDoor

/- Versions: append, a copy, one more. -/
set_option linter.unusedVariables false
namespace Go.Proofs.YtaeaccakkielmaaDoor
open Go.RowKit

theorem step_appN {P : Program} {α : Type} {enc : α → List Value} {ops : Array Oper} {o : Oper} {a : Act} {K : Act → World → Prop} {Q : Exit → Act → World → Prop} {E' : Prop} {w0 wr : World} {B base size bytes : Nat} {t E : TypeId} {i : TypeInfo} {z : Value} {v : Value} {l m : List α} {A : Option Addr} {c : Nat}
    (ht : P.underlying t = some (.slice E)) (hi : P.info? E = some i) (hz : i.zero = some z) (hsize : i.size = size) (hby : i.bytes = bytes) (hzs : z.cells.size = size) (hsz : 0 < size) (hb200 : bytes ≤ 256)
    (hgd : o.guard = none) (s x : Operand) (ho : o.op = .call { callee := .builtin .append, args := #[s, x], argTypes := #[t, t] })
    (hown : Own wr base E size enc v l) (hb : Below B w0 wr) (hB : B ≤ base) (hbase : base ≤ wr.heap.size) (hn : l.length + m.length ≤ 33554432)
    (hsl : Sl wr enc size A m) (hcz : A = none → c = 0) (hce : ∀ y, (enc y).length = size) (h1 : ∀ y, ∀ u ∈ enc y, u.oneCell' = true)
    (hs : a.eval s = v) (hx : a.eval x = .slice A m.length c)
    (h : ∀ v' w', Own w' base E size enc v' (l ++ m) → Below B w0 w' → Grew v wr w' → K (a.put o.dst v') w') :
    if Region.wanted o (yielded ops a.tmps) = true then Oper.wp P o a wr K Q else E' := by
  have hw : Region.wanted o (yielded ops a.tmps) = true := by simp [Region.wanted, hgd]
  rw [if_pos hw]
  cases A with
  | none =>
    have hm : m = [] := by
      cases m with
      | nil => rfl
      | cons y r => obtain ⟨b, o, e, _⟩ := hsl (by simp); cases e
    subst hm
    rw [hcz rfl] at hx
    have hrun := run_append_owned_none (P := P) (w := wr) base t o.type E i size ht hi v l.length (flat enc l) hown
    have hK := h v wr (by rw [List.append_nil]; exact hown) hb (Grew.refl _ _)
    simp at hx
    unfold Oper.wp
    simp [execOp, ho, resolve, invoke, builtin, hs, hx, hrun, Result.andThen]
    exact hK
  | some ad =>
    refine wp_append_own wr s x t ho base E i z size bytes ht hi hz hsize hby hzs hsz v l.length (flat enc l) hs hown ad m.length c (flat enc m) hx (flat_length hce m) ?_ ?_ ?_ ?_ hbase ?_
    · intro j u hu
      have hpos : 0 < m.length := by
        have hlt := (List.getElem?_eq_some_iff.1 hu).1
        rw [flat_length hce] at hlt
        cases m with
        | nil => simp at hlt
        | cons y r => simp
      obtain ⟨b, o', e, hc⟩ := hsl hpos
      injection e with e
      subst e
      have hadd : (⟨b, o', none⟩ : Addr).add j = ⟨b, o' + j, none⟩ := by unfold Addr.add; split <;> simp_all
      rw [hadd]; exact hc j u hu
    · intro u hu
      unfold flat at hu
      obtain ⟨y, _, hy⟩ := List.mem_flatMap.1 hu
      exact h1 y u hy
    · unfold maxLen; omega
    · have := Nat.mul_le_mul_left (l.length + m.length) hb200; omega
    · intro v' w' hown' hg _
      refine h v' w' ?_ (hb.grown hg (Nat.le_trans hB hbase) (fun k hk => Nat.le_trans hB (World.ownsRow.lt hown k hk).1)) hg
      show w'.ownsRow base E size v' (l ++ m).length (flat enc (l ++ m))
      rw [flat_append, List.length_append]; exact hown'
theorem Grew.cell {v u : Value} {w w' : World} (h : Grew v w w') {b o : Nat} (hv : v.ownBlock ≠ some b) (hc : w.cell? ⟨b, o, none⟩ = some u) : w'.cell? ⟨b, o, none⟩ = some u := by
  rw [World.cell?_of_block (w := w) (h.block b (World.block_lt_of_cell? w _ hc) (fun e => hv e.symm))]; exact hc
theorem cell_alloc {u : Value} {w : World} {x : Obj} {a : Addr} (hc : w.cell? a = some u) : (w.alloc x).cell? a = some u :=
  (World.cell?_alloc_lt w x a (World.block_lt_of_cell? w _ hc)).trans hc
theorem keep3 {w w' : World} {x : Nat} {v0 v1 v2 : Value} (hb : Below w.heap.size w w') (h : w.cell? ⟨x, 0, none⟩ = some v0 ∧ w.cell? ⟨x, 1, none⟩ = some v1 ∧ w.cell? ⟨x, 2, none⟩ = some v2) :
    w'.cell? ⟨x, 0, none⟩ = some v0 ∧ w'.cell? ⟨x, 1, none⟩ = some v1 ∧ w'.cell? ⟨x, 2, none⟩ = some v2 :=
  ⟨Below_cells hb _ _ _ h.1, Below_cells hb _ _ _ h.2.1, Below_cells hb _ _ _ h.2.2⟩
section
variable {ops : Array Oper} {rest : List Oper} {o : Oper} {a : Act} {K : Act → World → Prop} {Q : Exit → Act → World → Prop} {E' : Prop} {w0 wr : World} {v : Value}
end
/-! ### 'append(append([]Version{}, l...), y)' in whatever order -/
def RowAt (w : World) (g : Nat) (y : Vr) : Prop := w.cell? ⟨g, 0, none⟩ = some (.int .i64 y.1) ∧ w.cell? ⟨g, 1, none⟩ = some (.int .i64 y.2.1) ∧ w.cell? ⟨g, 2, none⟩ = some (.string y.2.2)
theorem RowAt.alloc {w : World} {g : Nat} {y : Vr} (h : RowAt w g y) (x : Obj) : RowAt (w.alloc x) g y := ⟨cell_alloc h.1, cell_alloc h.2.1, cell_alloc h.2.2⟩
theorem RowAt.grew {w w' : World} {g : Nat} {y : Vr} {v : Value} (h : RowAt w g y) (hg : Grew v w w') (hv : v.ownBlock ≠ some g) : RowAt w' g y := ⟨hg.cell hv h.1, hg.cell hv h.2.1, hg.cell hv h.2.2⟩
section
variable {ops : Array Oper} {o : Oper} {a : Act} {K : Act → World → Prop} {Q : Exit → Act → World → Prop} {E' : Prop} {w1 : World} {l : List Vr} {A : Option Addr} {c : Nat} {y : Vr} {s x : Operand}
end
/-! ### slices.Clone -/
/-! ### one more version -/
end Go.Proofs.YtaeaccakkielmaaDoor

/- A block of three cells that may be written. -/
set_option linter.unusedVariables false
namespace Go.Proofs.YtaeaccakkielmaaDoor
open Go.RowKit
def Row3 (w : World) (b : Nat) (v0 v1 v2 : Value) : Prop :=
  (w.cell? ⟨b, 0, none⟩ = some v0 ∧ w.cell? ⟨b, 1, none⟩ = some v1 ∧ w.cell? ⟨b, 2, none⟩ = some v2) ∧ (∀ o, w.frozen? ⟨b, o, none⟩ = false) ∧ b < w.heap.size
theorem Row3.new {w : World} {v0 v1 v2 : Value} {E : TypeId} : Row3 (w.alloc (.cells #[v0, v1, v2] E)) w.heap.size v0 v1 v2 :=
  ⟨⟨new_cell rfl, new_cell rfl, new_cell rfl⟩, fun o => new_free o, by simp⟩
theorem Row3.only {w w' : World} {g b : Nat} {v0 v1 v2 : Value} (h : Row3 w b v0 v1 v2) (ho : Only g w w') (hb : b ≠ g) : Row3 w' b v0 v1 v2 :=
  ⟨⟨ho.cell hb h.1.1, ho.cell hb h.1.2.1, ho.cell hb h.1.2.2⟩, fun o => (ho.frozen hb h.2.2).trans (h.2.1 o), Nat.lt_of_lt_of_le h.2.2 ho.size⟩
theorem Row3.below {w w' : World} {b : Nat} {v0 v1 v2 : Value} (h : Row3 w b v0 v1 v2) (hb : Below w.heap.size w w') : Row3 w' b v0 v1 v2 :=
  ⟨⟨Below_cells hb _ _ _ h.1.1, Below_cells hb _ _ _ h.1.2.1, Below_cells hb _ _ _ h.1.2.2⟩, fun o => (World.frozen?_of_block (w := w) (hb.block b h.2.2)).trans (h.2.1 o), Nat.lt_of_lt_of_le h.2.2 hb.size⟩
theorem setCell_size (w : World) (p : Addr) (u : Value) : (w.setCell p u).heap.size = w.heap.size := by simp [World.setCell]
theorem Row3.set0 {w : World} {b : Nat} {v0 v1 v2 : Value} (h : Row3 w b v0 v1 v2) (u : Value) : Row3 (w.setCell ⟨b, 0, none⟩ u) b u v1 v2 :=
  ⟨⟨World.cell?_setCell_same _ _ _ h.1.1, (World.cell?_setCell_other _ _ _ _ (by simp)).trans h.1.2.1, (World.cell?_setCell_other _ _ _ _ (by simp)).trans h.1.2.2⟩, fun o => (World.frozen?_setCell _ _ _ _).trans (h.2.1 o), by rw [setCell_size]; exact h.2.2⟩
theorem Row3.set1 {w : World} {b : Nat} {v0 v1 v2 : Value} (h : Row3 w b v0 v1 v2) (u : Value) : Row3 (w.setCell ⟨b, 1, none⟩ u) b v0 u v2 :=
  ⟨⟨(World.cell?_setCell_other _ _ _ _ (by simp)).trans h.1.1, World.cell?_setCell_same _ _ _ h.1.2.1, (World.cell?_setCell_other _ _ _ _ (by simp)).trans h.1.2.2⟩, fun o => (World.frozen?_setCell _ _ _ _).trans (h.2.1 o), by rw [setCell_size]; exact h.2.2⟩
theorem Row3.set2 {w : World} {b : Nat} {v0 v1 v2 : Value} (h : Row3 w b v0 v1 v2) (u : Value) : Row3 (w.setCell ⟨b, 2, none⟩ u) b v0 v1 u :=
  ⟨⟨(World.cell?_setCell_other _ _ _ _ (by simp)).trans h.1.1, (World.cell?_setCell_other _ _ _ _ (by simp)).trans h.1.2.1, World.cell?_setCell_same _ _ _ h.1.2.2⟩, fun o => (World.frozen?_setCell _ _ _ _).trans (h.2.1 o), by rw [setCell_size]; exact h.2.2⟩
theorem Row3.other {w : World} {b : Nat} {v0 v1 v2 : Value} (h : Row3 w b v0 v1 v2) {p : Addr} (hp : p.block ≠ b) (u : Value) : Row3 (w.setCell p u) b v0 v1 v2 :=
  ⟨⟨(World.cell?_setCell_other _ _ _ _ (by rintro rfl; exact hp rfl)).trans h.1.1, (World.cell?_setCell_other _ _ _ _ (by rintro rfl; exact hp rfl)).trans h.1.2.1, (World.cell?_setCell_other _ _ _ _ (by rintro rfl; exact hp rfl)).trans h.1.2.2⟩, fun o => (World.frozen?_setCell _ _ _ _).trans (h.2.1 o), by rw [setCell_size]; exact h.2.2⟩
theorem Own.setBelow {α : Type} {enc : α → List Value} {w : World} {base size : Nat} {E : TypeId} {v : Value} {l : List α} (h : Own w base E size enc v l) {p : Addr} (hp : p.block < base) (u : Value) : Own (w.setCell p u) base E size enc v l :=
  h.only (g := p.block) ⟨rfl, rfl, rfl, by simp [World.setCell], fun k hk hne => Below.heap_setCell _ _ _ _ (by rintro rfl; exact hne rfl)⟩ hp
theorem Own.ne {α : Type} {w : World} {base size : Nat} {E : TypeId} {enc : α → List Value} {v : Value} {l : List α} (h : Own w base E size enc v l) : v.ownBlock ≠ some w.heap.size := fun e => Nat.lt_irrefl _ (World.ownsRow.lt h _ e).2
end Go.Proofs.YtaeaccakkielmaaDoor

/- 'append' of strings in regions that draw their order. -/
set_option linter.unusedVariables false
namespace Go.Proofs.YtaeaccakkielmaaDoor
open Go.RowKit

theorem sl_take {w : World} {A : Option Addr} {l : List ByteArray} (h : Sl w encS 1 A l) (m : Nat) : Sl w encS 1 A (l.take m) := by
  intro hn
  obtain ⟨b, o, e, hc⟩ := h (by simp at hn; omega)
  refine ⟨b, o, e, fun j u hu => hc j u ?_⟩
  rw [← List.take_append_drop m l, flat_append, List.getElem?_append_left (List.getElem?_eq_some_iff.1 hu).1]
  exact hu
theorem step_appW {P : Program} {α : Type} {enc : α → List Value} {ops : Array Oper} {o : Oper} {a : Act} {K : Act → World → Prop} {Q : Exit → Act → World → Prop} {E' : Prop} {w0 wr : World} {B base size bytes : Nat} {t E : TypeId} {i : TypeInfo} {z : Value} {v : Value} {l m : List α} {A : Option Addr} {c : Nat}
    (ht : P.underlying t = some (.slice E)) (hi : P.info? E = some i) (hz : i.zero = some z) (hsize : i.size = size) (hby : i.bytes = bytes) (hzs : z.cells.size = size) (hsz : 0 < size) (hb200 : bytes ≤ 256)
    (hw : Region.wanted o (yielded ops a.tmps) = true) (s x : Operand) (ho : o.op = .call { callee := .builtin .append, args := #[s, x], argTypes := #[t, t] })
    (hown : Own wr base E size enc v l) (hb : Below B w0 wr) (hB : B ≤ base) (hbase : base ≤ wr.heap.size) (hn : l.length + m.length ≤ 33554432)
    (hsl : Sl wr enc size A m) (hcz : A = none → c = 0) (hce : ∀ y, (enc y).length = size) (h1 : ∀ y, ∀ u ∈ enc y, u.oneCell' = true)
    (hs : a.eval s = v) (hx : a.eval x = .slice A m.length c)
    (h : ∀ v' w', Own w' base E size enc v' (l ++ m) → Below B w0 w' → Grew v wr w' → K (a.put o.dst v') w') :
    if Region.wanted o (yielded ops a.tmps) = true then Oper.wp P o a wr K Q else E' := by
  rw [if_pos hw]
  cases A with
  | none =>
    have hm : m = [] := by
      cases m with
      | nil => rfl
      | cons y r => obtain ⟨b, o, e, _⟩ := hsl (by simp); cases e
    subst hm
    rw [hcz rfl] at hx
    have hrun := run_append_owned_none (P := P) (w := wr) base t o.type E i size ht hi v l.length (flat enc l) hown
    have hK := h v wr (by rw [List.append_nil]; exact hown) hb (Grew.refl _ _)
    simp at hx
    unfold Oper.wp
    simp [execOp, ho, resolve, invoke, builtin, hs, hx, hrun, Result.andThen]
    exact hK
  | some ad =>
    refine wp_append_own wr s x t ho base E i z size bytes ht hi hz hsize hby hzs hsz v l.length (flat enc l) hs hown ad m.length c (flat enc m) hx (flat_length hce m) ?_ ?_ ?_ ?_ hbase ?_
    · intro j u hu
      have hpos : 0 < m.length := by
        have hlt := (List.getElem?_eq_some_iff.1 hu).1
        rw [flat_length hce] at hlt
        cases m with
        | nil => simp at hlt
        | cons y r => simp
      obtain ⟨b, o', e, hc⟩ := hsl hpos
      injection e with e
      subst e
      have hadd : (⟨b, o', none⟩ : Addr).add j = ⟨b, o' + j, none⟩ := by unfold Addr.add; split <;> simp_all
      rw [hadd]; exact hc j u hu
    · intro u hu
      unfold flat at hu
      obtain ⟨y, _, hy⟩ := List.mem_flatMap.1 hu
      exact h1 y u hy
    · unfold maxLen; omega
    · have := Nat.mul_le_mul_left (l.length + m.length) hb200; omega
    · intro v' w' hown' hg _
      refine h v' w' ?_ (hb.grown hg (Nat.le_trans hB hbase) (fun k hk => Nat.le_trans hB (World.ownsRow.lt hown k hk).1)) hg
      show w'.ownsRow base E size v' (l ++ m).length (flat enc (l ++ m))
      rw [flat_append, List.length_append]; exact hown'
abbrev rowS (y : ByteArray) : Obj := .cells #[.string y] 9
abbrev madeS : Obj := .cells #[] 9
section
variable {ops : Array Oper} {o : Oper} {a : Act} {K : Act → World → Prop} {Q : Exit → Act → World → Prop} {E' : Prop} {w1 : World} {l : List ByteArray} {A : Option Addr} {c : Nat} {y : ByteArray} {s x : Operand}
theorem step_strN {l m : List ByteArray} {w0 wr : World} {v : Value} {A : Option Addr} {c : Nat} {s x : Operand} (hw : Region.wanted o (yielded ops a.tmps) = true) (ho : o.op = .call { callee := .builtin .append, args := #[s, x], argTypes := #[37, 37] })
    (hown : Own wr w0.heap.size 9 1 encS v l) (hb : Below w0.heap.size w0 wr) (hn : l.length + m.length ≤ 33554432) (hsl : Sl wr encS 1 A m) (hcz : A = none → c = 0)
    (hs : a.eval s = v) (hx : a.eval x = .slice A m.length c)
    (h : ∀ v' w', Own w' w0.heap.size 9 1 encS v' (l ++ m) → Below w0.heap.size w0 w' → Grew v wr w' → K (a.put o.dst v') w') : if Region.wanted o (yielded ops a.tmps) = true then Oper.wp Tryd.prog o a wr K Q else E' := by
  obtain ⟨i0, hi0, hz0, hz1, hz2⟩ := info_parts str_info
  exact step_appW Tryd.underlying37 hi0 hz0 hz1 hz2 rfl (by decide) (by decide) hw s x ho hown hb (Nat.le_refl _) hb.size hn hsl hcz (fun _ => rfl) oneS hs hx h
def StrAt (w : World) (g : Nat) (y : ByteArray) : Prop := w.cell? ⟨g, 0, none⟩ = some (.string y)
theorem StrAt.new (w : World) (y : ByteArray) : StrAt (w.alloc (rowS y)) w.heap.size y := new_cell rfl
theorem StrAt.sl {w : World} {g : Nat} {y : ByteArray} (h : StrAt w g y) : Sl w encS 1 (some ⟨g, 0, none⟩) [y] := by
  intro _
  refine ⟨g, 0, rfl, fun j u hu => ?_⟩
  have hj : j = 0 := by have := (List.getElem?_eq_some_iff.1 hu).1; simp [flat, encS] at this; omega
  subst hj; simp [flat, encS] at hu; rw [← hu]; exact h
theorem step_str_a (hsl : Sl w1 encS 1 A l) (hcz : A = none → c = 0) (hl : l.length ≤ 16777216) (hw : Region.wanted o (yielded ops a.tmps) = true) (ho : o.op = .call { callee := .builtin .append, args := #[s, x], argTypes := #[37, 37] })
    (hs : a.eval s = .slice (some ⟨w1.heap.size, 0, none⟩) 0 0) (hx : a.eval x = .slice A l.length c)
    (h : ∀ v' w', Own w' w1.heap.size 9 1 encS v' l → Below w1.heap.size w1 w' → K (a.put o.dst v') w') : if Region.wanted o (yielded ops a.tmps) = true then Oper.wp Tryd.prog o a (w1.alloc madeS).drew K Q else E' :=
  step_strN (w0 := w1) (l := []) hw ho ((Own.made (w := w1) (Nat.le_refl _)).drew) (((Below.refl _ _).alloc (Nat.le_refl _) _).drew) (by simp; omega) ((hsl.alloc _).drew) hcz hs hx fun v' w' h1 h2 _ => h v' w' h1 h2
theorem step_str_b (hsl : Sl w1 encS 1 A l) (hcz : A = none → c = 0) (hl : l.length ≤ 16777216) (hw : Region.wanted o (yielded ops a.tmps) = true) (ho : o.op = .call { callee := .builtin .append, args := #[s, x], argTypes := #[37, 37] })
    (hs : a.eval s = .slice (some ⟨w1.heap.size, 0, none⟩) 0 0) (hx : a.eval x = .slice A l.length c)
    (h : ∀ v' w', Own w' w1.heap.size 9 1 encS v' l → Below w1.heap.size w1 w' → StrAt w' (w1.heap.size + 1) y → K (a.put o.dst v') w') : if Region.wanted o (yielded ops a.tmps) = true then Oper.wp Tryd.prog o a ((w1.alloc madeS).alloc (rowS y)).drew K Q else E' := by
  have hz : w1.heap.size ≤ (w1.alloc madeS).heap.size := by simp
  have hr := StrAt.new (w1.alloc madeS) y
  have hzz : (w1.alloc madeS).heap.size = w1.heap.size + 1 := by simp
  rw [hzz] at hr
  exact step_strN (w0 := w1) (l := []) hw ho (((Own.made (w := w1) (Nat.le_refl _)).alloc _).drew) ((((Below.refl _ _).alloc (Nat.le_refl _) _).alloc hz _).drew) (by simp; omega) (((hsl.alloc _).alloc _).drew) hcz hs hx fun v' w' h1 h2 h3 => h v' w' h1 h2 (Grew.cell (w := ((w1.alloc madeS).alloc (rowS y)).drew) h3 (by simp [Value.ownBlock]) hr)
theorem step_str_c (hsl : Sl w1 encS 1 A l) (hcz : A = none → c = 0) (hl : l.length ≤ 16777216) (hw : Region.wanted o (yielded ops a.tmps) = true) (ho : o.op = .call { callee := .builtin .append, args := #[s, x], argTypes := #[37, 37] })
    (hs : a.eval s = .slice (some ⟨w1.heap.size + 1, 0, none⟩) 0 0) (hx : a.eval x = .slice A l.length c)
    (h : ∀ v' w', Own w' w1.heap.size 9 1 encS v' l → Below w1.heap.size w1 w' → StrAt w' w1.heap.size y → K (a.put o.dst v') w') : if Region.wanted o (yielded ops a.tmps) = true then Oper.wp Tryd.prog o a ((w1.alloc (rowS y)).alloc madeS).drew K Q else E' := by
  have hz : w1.heap.size ≤ (w1.alloc (rowS y)).heap.size := by simp
  have hr : StrAt ((w1.alloc (rowS y)).alloc madeS) w1.heap.size y := cell_alloc (StrAt.new w1 y)
  have hm := (Own.made (enc := encS) (E := 9) (size := 1) (w := w1.alloc (rowS y)) hz).drew
  have hzz : (w1.alloc (rowS y)).heap.size = w1.heap.size + 1 := by simp
  rw [hzz] at hm
  exact step_strN (w0 := w1) (l := []) hw ho hm ((((Below.refl _ _).alloc (Nat.le_refl _) _).alloc hz _).drew) (by simp; omega) (((hsl.alloc _).alloc _).drew) hcz hs hx fun v' w' h1 h2 h3 => h v' w' h1 h2 (Grew.cell (w := ((w1.alloc (rowS y)).alloc madeS).drew) h3 (by simp [Value.ownBlock]) hr)
theorem step_str_d {w0 W : World} {v : Value} {g : Nat} (hown : Own W w0.heap.size 9 1 encS v l) (hb : Below w0.heap.size w0 W) (hr : StrAt W g y) (hl : l.length ≤ 16777216) (hw : Region.wanted o (yielded ops a.tmps) = true) (ho : o.op = .call { callee := .builtin .append, args := #[s, x], argTypes := #[37, 37] })
    (hs : a.eval s = v) (hx : a.eval x = .slice (some ⟨g, 0, none⟩) 1 1)
    (h : ∀ v' w', Own w' w0.heap.size 9 1 encS v' (l ++ [y]) → Below w0.heap.size w0 w' → K (a.put o.dst v') w') : if Region.wanted o (yielded ops a.tmps) = true then Oper.wp Tryd.prog o a W K Q else E' :=
  step_strN (l := l) (m := [y]) hw ho hown hb (by simp; omega) hr.sl (by intro h; cases h) hs hx fun v' w' h1 h2 _ => h v' w' h1 h2
end
section
variable {ops : Array Oper} {o : Oper} {a : Act} {K : Act → World → Prop} {Q : Exit → Act → World → Prop} {E' : Prop} {l : List ByteArray} {s x : Operand}
theorem step_str_e {w0 W : World} {v : Value} {y : ByteArray} (hown : Own W w0.heap.size 9 1 encS v l) (hb : Below w0.heap.size w0 W) (hl : l.length ≤ 16777216) (hw : Region.wanted o (yielded ops a.tmps) = true) (ho : o.op = .call { callee := .builtin .append, args := #[s, x], argTypes := #[37, 37] })
    (hs : a.eval s = v) (hx : a.eval x = .slice (some ⟨W.heap.size, 0, none⟩) 1 1)
    (h : ∀ v' w', Own w' w0.heap.size 9 1 encS v' (l ++ [y]) → Below w0.heap.size w0 w' → Grew v (W.alloc (rowS y)) w' → K (a.put o.dst v') w') : if Region.wanted o (yielded ops a.tmps) = true then Oper.wp Tryd.prog o a (W.alloc (rowS y)) K Q else E' :=
  step_strN (l := l) (m := [y]) hw ho (hown.alloc _) (hb.alloc hb.size _) (by simp; omega) (StrAt.new W y).sl (by intro h; cases h) hs hx h
end
theorem keepA {w w' : World} {b o b' o' : Nat} {u v : Value} (hb : Below w.heap.size w w') (h : w.cell? ⟨b, o, none⟩ = some u ∧ w.cell? ⟨b', o', none⟩ = some v) : w'.cell? ⟨b, o, none⟩ = some u ∧ w'.cell? ⟨b', o', none⟩ = some v := ⟨Below_cells hb _ _ _ h.1, Below_cells hb _ _ _ h.2⟩
section
variable {ops : Array Oper} {o : Oper} {a : Act} {K : Act → World → Prop} {Q : Exit → Act → World → Prop} {E' : Prop} {l : List ByteArray} {s x : Operand}
theorem step_str_g {w0 W : World} {v : Value} {y : ByteArray} (hown : Own W w0.heap.size 9 1 encS v l) (hb : Below w0.heap.size w0 W) (hl : l.length ≤ 16777216) (hw : Region.wanted o (yielded ops a.tmps) = true) (ho : o.op = .call { callee := .builtin .append, args := #[s, x], argTypes := #[37, 37] })
    (hs : a.eval s = v) (hx : a.eval x = .slice (some ⟨W.heap.size, 0, none⟩) 1 1)
    (h : ∀ v' w', Own w' w0.heap.size 9 1 encS v' (l ++ [y]) → Below w0.heap.size w0 w' → Grew v (W.drew.alloc (rowS y)) w' → K (a.put o.dst v') w') : if Region.wanted o (yielded ops a.tmps) = true then Oper.wp Tryd.prog o a (W.drew.alloc (rowS y)) K Q else E' :=
  step_str_e (w0 := w0) (W := W.drew) hown.drew hb.drew hl hw ho hs hx h
end
theorem str_add {x y : ByteArray} (hx : x.size ≤ 1073741824) (hy : y.size ≤ 1073741824) : Op.stringOp .add x y = pure (.string (x ++ y)) := by
  have h : ¬ (((x.size + y.size : Nat) : Int) > IntKind.i64.max) := by
    have e : IntKind.i64.max = 9223372036854775807 := by decide
    rw [e]; omega
  unfold Op.stringOp
  simp only [h, if_false]
theorem keep2 {w w' : World} {g : Nat} {u v : Value} (hb : Below w.heap.size w w') (h : w.cell? ⟨g, 0, none⟩ = some u ∧ w.cell? ⟨g, 1, none⟩ = some v) : w'.cell? ⟨g, 0, none⟩ = some u ∧ w'.cell? ⟨g, 1, none⟩ = some v := ⟨Below_cells hb _ _ _ h.1, Below_cells hb _ _ _ h.2⟩
theorem keep2G {w w' : World} {g : Nat} {u v z : Value} (hg : Grew z w w') (hne : z.ownBlock ≠ some g) (h : w.cell? ⟨g, 0, none⟩ = some u ∧ w.cell? ⟨g, 1, none⟩ = some v) : w'.cell? ⟨g, 0, none⟩ = some u ∧ w'.cell? ⟨g, 1, none⟩ = some v := ⟨Grew.cell hg hne h.1, Grew.cell hg hne h.2⟩
end Go.Proofs.YtaeaccakkielmaaDoor

/- strconv.FormatInt at base 16, walked. -/
set_option linter.unusedVariables false
namespace Go.Proofs.YtaeaccakkielmaaDoor
open Go.RowKit
--BEGIN
/-- The table by which trailing zeros are found: its place for 16. -/
theorem cell_allocQ {u : Value} {w : World} {x : Obj} {a : Addr} (hc : w.cell? a = some u) : (w.alloc x).cell? a = some u := (World.cell?_alloc_lt w x a (World.block_lt_of_cell? w _ hc)).trans hc
def TzL (w : World) : Prop := w.cell? ⟨5, 15, none⟩ = some (.int .u8 4)
theorem TzL.below {w w' : World} (h : TzL w) (hb : Below w.heap.size w w') : TzL w' := Below_cells hb _ _ _ h
set_option maxHeartbeats 2000000 in
set_option maxRecDepth 100000 in
theorem tz64_any (w : World) (ht : TzL w) : Calls Tryd.prog 124 #[.int .u64 16] w fun e w' => e = .returned (.int .i64 4) ∧ w = w' := by
  unfold TzL at ht
  have hA : bits .and .u64 16 (IntKind.u64.wrap (-16)) = 16 := by kernel_rfl
  have hW : IntKind.u64.wrap (16 * 285870213051353865) = 4573923408821661840 := by kernel_rfl
  go_enter Tryd.func124, Tryd.ntmps124
  go_wp2
  go_ret
  exact ⟨rfl, rfl⟩
set_option maxHeartbeats 2000000 in
set_option maxRecDepth 100000 in
theorem tz_any (w : World) (ht : TzL w) : Calls Tryd.prog 115 #[.int .u64 16] w fun e w' => e = .returned (.int .i64 4) ∧ w = w' := by
  have HT := Lib.hid ht
  clear ht
  go_enter Tryd.func115, Tryd.ntmps115
  go_wp2_with (go_at_call 124; refine (tz64_any _ HT.out).mono ?_; rintro e w' ⟨rfl, rfl⟩)
  go_ret
  exact ⟨rfl, rfl⟩
set_option maxHeartbeats 2000000 in
set_option maxRecDepth 100000 in
theorem pow2_any (w : World) : Calls Tryd.prog 114 #[.int .i64 16] w fun e w' => e = .returned (.bool true) ∧ w = w' := by
  go_enter Tryd.func114, Tryd.ntmps114
  go_wp2
  go_ret
  exact ⟨rfl, rfl⟩
/-- N is left, 'acc' stands behind. -/
def HexI (n0 N : Nat) (acc : Bs) : Prop := ∃ f, N < 16 ^ (f + 1) ∧ f + 1 + acc.length = 7 ∧ hexF 7 n0 = hexF (f + 1) N ++ acc
theorem HexI.start {n0 : Nat} (h : n0 ≤ 16777212) : HexI n0 n0 [] := by
  have e : (16 : Nat) ^ (6 + 1) = 268435456 := by decide
  exact ⟨6, by omega, rfl, by simp⟩
theorem HexI.step {n0 N : Nat} {acc : Bs} (h : HexI n0 N acc) (hN : 16 ≤ N) : HexI n0 (N / 16) (hexD (N % 16) :: acc) ∧ acc.length ≤ 5 := by
  obtain ⟨f, hf, hl, he⟩ := h
  cases f with
  | zero => simp at hf; omega
  | succ f =>
    refine ⟨⟨f, by rw [Nat.pow_succ] at hf; omega, by simp; omega, ?_⟩, by omega⟩
    rw [he, hexF, if_neg (by omega)]
    simp
theorem HexI.done {n0 N : Nat} {acc : Bs} (h : HexI n0 N acc) (hN : N < 16) : hexF 7 n0 = hexD N :: acc ∧ acc.length ≤ 6 := by
  obtain ⟨f, hf, hl, he⟩ := h
  refine ⟨?_, by omega⟩
  rw [he, hexF, if_pos hN]; rfl
def DigRow (wr : World) (g : Nat) (acc : Bs) : Prop := ∃ cs : Array Value, wr.heap[g]? = some (.cells cs 133 (0, 0)) ∧ cs.size = 65 ∧ cs.toList.drop (65 - acc.length) = acc.map fun c => Value.int .u8 (c.toNat : Int)
theorem DigRow.cell {wr : World} {g : Nat} {acc : Bs} (h : DigRow wr g acc) {j : Nat} (hj : j < 65) : ∃ u, wr.cell? ⟨g, j, none⟩ = some u := by
  obtain ⟨cs, hg, hs, _⟩ := h
  exact ⟨cs[j], by rw [cell_of_row wr g j cs _ (0, 0) hg, Array.getElem?_eq_getElem (by omega)]⟩
theorem DigRow.free {wr : World} {g : Nat} {acc : Bs} (h : DigRow wr g acc) (j : Nat) : wr.frozen? ⟨g, j, none⟩ = false := by
  obtain ⟨cs, hg, _⟩ := h
  exact frozen_of_row wr g j cs _ hg
theorem DigRow.store {wr : World} {g : Nat} {acc : Bs} (h : DigRow wr g acc) (c : UInt8) {j : Nat} (hj : j + 1 + acc.length = 65) : DigRow (wr.setCell ⟨g, j, none⟩ (.int .u8 (c.toNat : Int))) g (c :: acc) := by
  obtain ⟨cs, hg, hs, ht⟩ := h
  refine ⟨cs.setIfInBounds j (.int .u8 (c.toNat : Int)), heap_setCell_same wr g _ cs _ _ hg, by simpa using hs, ?_⟩
  have e1 : 65 - (c :: acc).length = j := by simp; omega
  have e2 : 65 - acc.length = j + 1 := by omega
  rw [e2] at ht
  rw [e1, Array.toList_setIfInBounds, List.drop_eq_getElem_cons (by simp; omega), List.getElem_set_self, List.drop_set_of_lt (by omega), ht]
  rfl
theorem ofInt_nat64 (a : Nat) (ha : a < 18446744073709551616) : (BitVec.ofInt 64 (a : Int)).toNat = a := by
  rw [BitVec.ofInt_natCast, BitVec.toNat_ofNat]; exact Nat.mod_eq_of_lt (by omega)
theorem u64_and15 (N : Nat) (h : N ≤ 16777212) : bits .and .u64 (N : Int) 15 = ((N % 16 : Nat) : Int) := by
  have e : N &&& 15 = N % 16 := Nat.and_two_pow_sub_one_eq_mod N 4
  show IntKind.u64.wrap ((BitVec.ofInt 64 (N : Int) &&& BitVec.ofInt 64 ((15 : Nat) : Int)).toNat : Int) = _
  rw [BitVec.toNat_and, ofInt_nat64 N (by omega), ofInt_nat64 15 (by omega), e, IntKind.wrap_u64]
  omega
def digs : ByteArray := ⟨#[48, 49, 50, 51, 52, 53, 54, 55, 56, 57, 97, 98, 99, 100, 101, 102, 103, 104, 105, 106, 107, 108, 109, 110, 111, 112, 113, 114, 115, 116, 117, 118, 119, 120, 121, 122]⟩
theorem digs_at (d : Nat) (h : d < 16) (h' : d < digs.size) : digs[d] = hexD d := by
  have key : ∀ d : Fin 16, digs[d.val]'(Nat.lt_trans d.isLt (by decide)) = hexD d.val := by decide
  exact key ⟨d, h⟩
theorem u64_shr4 (N : Nat) : (N : Int) / 16 = ((N / 16 : Nat) : Int) := by omega
theorem slice65 (W : World) (g k : Nat) (hk : k < 65) : (Instr.sliceAt 133 (.pointer (some ⟨g, 0, none⟩)) (some (.int .i64 (k : Int))) none none).run Tryd.prog W = .ok (.slice (some ⟨g, k, none⟩) (65 - k) (65 - k)) W := by
  have hl : Tryd.prog.arrayLen 133 = 65 := by kernel_rfl
  have hz : (sizeOf (Tryd.prog.elem 133)).run Tryd.prog W = .ok 1 W := by kernel_rfl
  have h := run_sliceAt_array_l (P := Tryd.prog) W 133 ⟨g, 0, none⟩ (by kernel_rfl) .i64 (k : Int) (by omega) (by rw [hl]; omega)
  rw [h, hz, hl]
  show Result.ok (slicedAt _ _ _ _ _) W = _
  unfold slicedAt
  rw [if_neg (by omega)]
  simp [Addr.add]
  omega
theorem DigRow.conv {W : World} {g : Nat} {acc : Bs} (h : DigRow W g acc) (h1 : 1 ≤ acc.length) (h2 : acc.length ≤ 65) : (convert 29 9 (.slice (some ⟨g, 65 - acc.length, none⟩) acc.length acc.length)).run Tryd.prog W = .ok (.string (mk acc)) W := by
  obtain ⟨cs, hg, hs, ht⟩ := h
  refine run_convert_bytes_back (P := Tryd.prog) W 29 9 5 ⟨g, 65 - acc.length, none⟩ acc.length acc Tryd.underlying29 Tryd.underlying5 Tryd.underlying9 ?_
  intro j hj
  have hadd : (⟨g, 65 - acc.length, none⟩ : Addr).add j = ⟨g, 65 - acc.length + j, none⟩ := by unfold Addr.add; split <;> simp_all
  rw [hadd, cell_of_row _ _ _ _ _ (0, 0) hg, ← Array.getElem?_toList]
  have : (cs.toList.drop (65 - acc.length))[j]? = (acc.map fun c => Value.int .u8 (c.toNat : Int))[j]? := by rw [ht]
  rw [List.getElem?_drop] at this
  rw [this, List.getElem?_map, List.getElem?_eq_getElem hj]; rfl
set_option maxHeartbeats 4000000 in
set_option maxRecDepth 100000 in
theorem formatBits_any (n : Nat) (w : World) (hn : n ≤ 16777212) (ht : TzL w) : Calls Tryd.prog 95 #[.slice none 0 0, .int .u64 (n : Int), .int .i64 16, .bool false, .bool false] w fun e w' => e = .returned (.tuple #[.slice none 0 0, .string (mk (hexF 7 n))]) ∧ Below w.heap.size w w' := by
  have HT := Lib.hid ht
  clear ht
  have hz : ∀ w, (zeroValue 133).run Tryd.prog w = .ok (.agg (Array.replicate 65 (.int .u8 0))) w := fun w => by kernel_rfl
  have HZ := Lib.hid (show (Array.replicate 65 (Value.int .u8 0)).size = 65 by rfl)
  generalize Array.replicate 65 (Value.int .u8 0) = Z at *
  go_enter Tryd.func95, Tryd.ntmps95
  go_wp2_with (first
    | (go_at_call 114; refine (pow2_any _).mono ?_; rintro e w' ⟨rfl, rfl⟩)
    | (go_at_call 115; refine (tz_any _ (cell_allocQ HT.out)).mono ?_; rintro e w' ⟨rfl, rfl⟩))
  go_loopw [1, 13] (fun u i wr => ∃ (N : Nat) (acc : Bs), u = .int .u64 (N : Int) ∧ i = .int .i64 ((65 - acc.length : Nat) : Int) ∧ N ≤ n ∧ acc.length ≤ 6 ∧ Hid (HexI n N acc) ∧ Hid (DigRow wr w.heap.size acc) ∧ Hid (Below w.heap.size w wr)) (fun u _ _ => (intOf u).toNat)
  case atStart => exact ⟨n, [], rfl, rfl, Nat.le_refl _, by simp, HexI.start hn, ⟨Z, heap_alloc_new w _, HZ.out, by rw [List.drop_eq_nil_of_le (by rw [Array.length_toList, HZ.out]; simp)]; rfl⟩, (Below.refl _ _).alloc (Nat.le_refl _) _⟩
  case round =>
    obtain ⟨N, acc, rfl, rfl, hN, hal, HI, HD, HB⟩ := hrel
    by_cases hlt : 16 ≤ N
    · obtain ⟨u0, hu0⟩ := HD.out.cell (j := 64 - acc.length) (by omega)
      have hfr := HD.out.free (64 - acc.length)
      have hand := u64_and15 N (by omega)
      have hlt' : (16 : Int) ≤ (N : Int) := by omega
      have e1 : (((65 - acc.length : Nat) : Int) - 1) = ((64 - acc.length : Nat) : Int) := by omega
      obtain ⟨hst, hac⟩ := HI.out.step hlt
      have HST := Lib.hid hst
      have hd := fun h' => digs_at (N % 16) (by omega) h'
      unfold digs at hd
      have HSD := Lib.hid (HD.out.store (hexD (N % 16)) (j := 64 - acc.length) (by omega))
      have HSB := Lib.hid (fun u => HB.out.setCell (p := ⟨w.heap.size, 64 - acc.length, none⟩) (Nat.le_refl _) u)
      clear hst
      go_wp2
      go_roundw
      case rel => exact ⟨N / 16, hexD (N % 16) :: acc, by rw [u64_shr4], by rw [List.length_cons, show 65 - (acc.length + 1) = 64 - acc.length by omega], by omega, by rw [List.length_cons]; omega, HST.out, HSD.out, HSB.out _⟩
      case measure => simp [intOf]; omega
    · obtain ⟨u0, hu0⟩ := HD.out.cell (j := 64 - acc.length) (by omega)
      have hfr := HD.out.free (64 - acc.length)
      have hlt' : ¬ (16 : Int) ≤ (N : Int) := by omega
      have e1 : (((65 - acc.length : Nat) : Int) - 1) = ((64 - acc.length : Nat) : Int) := by omega
      obtain ⟨hdn, hac⟩ := HI.out.done (by omega)
      have HDN := Lib.hid hdn
      have hd := fun h' => digs_at N (by omega) h'
      unfold digs at hd
      have HSD := Lib.hid (HD.out.store (hexD N) (j := 64 - acc.length) (by omega))
      have HSB := Lib.hid (fun u => HB.out.setCell (p := ⟨w.heap.size, 64 - acc.length, none⟩) (Nat.le_refl _) u)
      have hsl := fun W => slice65 W w.heap.size (64 - acc.length) (by omega)
      rw [show 65 - (64 - acc.length) = acc.length + 1 by omega] at hsl
      have hcv := HSD.out.conv (by simp) (by simp; omega)
      rw [List.length_cons, show 65 - (acc.length + 1) = 64 - acc.length by omega, ← HDN.out] at hcv
      clear hdn
      go_wp2
      go_ret2
      exact ⟨rfl, HSB.out _⟩
set_option maxHeartbeats 4000000 in
set_option maxRecDepth 100000 in
theorem fmtInt_any (n : Nat) (w : World) (hn : n ≤ 16777212) (ht : TzL w) : Calls Tryd.prog 71 #[.int .i64 (n : Int), .int .i64 16] w fun e w' => e = .returned (.string (mk (hexF 7 n))) ∧ Below w.heap.size w w' := by
  have HF := Lib.hid (formatBits_any n w hn ht)
  have hw : IntKind.u64.wrap (n : Int) = (n : Int) := by rw [IntKind.wrap_u64]; omega
  clear ht
  go_enter Tryd.func71, Tryd.ntmps71
  go_wp2_with fail
  refine HF.out.mono ?_
  rintro e w1 ⟨rfl, hb⟩
  have HB := Lib.hid hb
  clear hb
  go_wp2
  go_ret
  exact ⟨rfl, HB.out⟩
set_option maxHeartbeats 4000000 in
set_option maxRecDepth 100000 in
theorem FormatInt_any (n : Nat) (w : World) (hn : n ≤ 16777212) (ht : TzL w) : Calls Tryd.prog 58 #[.int .i64 (n : Int), .int .i64 16] w fun e w' => e = .returned (.string (mk (hexF 7 n))) ∧ Below w.heap.size w w' := by
  have HF := Lib.hid (fmtInt_any n w hn ht)
  clear ht
  go_enter Tryd.func58, Tryd.ntmps58
  go_wp2_with fail
  refine HF.out.mono ?_
  rintro e w1 ⟨rfl, hb⟩
  have HB := Lib.hid hb
  clear hb
  go_wp2
  go_ret
  exact ⟨rfl, HB.out⟩
set_option maxHeartbeats 4000000 in
set_option maxRecDepth 100000 in
theorem iHexText_any (n : Int) (w : World) (ht : TzL w) : Calls Tryd.prog 34 #[.int .i64 n] w fun e w' => e = .returned (.string (mk (hexT n))) ∧ Below w.heap.size w w' := by
  cases hp : pv n
  · have E := Lib.hid (hexT_bad hp)
    have hP := fun w => iprintValid_any n w
    rw [hp] at hP
    have HP := Lib.hid hP
    clear ht hp hP
    rw [E.out]
    go_enter Tryd.func34, Tryd.ntmps34
    go_wp2_with (go_at_call 57; refine (HP.out _).mono ?_; rintro e w' ⟨rfl, rfl⟩)
    go_ret
    exact ⟨rfl, Below.refl _ _⟩
  · have h2 := pv_iff.1 hp
    obtain ⟨m, rfl⟩ := Int.eq_ofNat_of_zero_le h2.1
    have E := Lib.hid (hexT_ok (n := m) (by omega))
    have hP := fun w => iprintValid_any (m : Int) w
    rw [hp] at hP
    have HP := Lib.hid hP
    have HF := Lib.hid (FormatInt_any m w (by omega) ht)
    clear ht hp hP h2
    rw [E.out]
    go_enter Tryd.func34, Tryd.ntmps34
    go_wp2_with (first
      | (go_at_call 57; refine (HP.out _).mono ?_; rintro e w' ⟨rfl, rfl⟩)
      | (go_at_call 58; refine HF.out.mono ?_; rintro e w1 ⟨rfl, hb⟩; have HB := Lib.hid hb; clear hb))
    go_ret
    exact ⟨rfl, HB.out⟩
end Go.Proofs.YtaeaccakkielmaaDoor

/- HexText of the reference; ReadHex, walked. -/
set_option linter.unusedVariables false
namespace Go.Proofs.YtaeaccakkielmaaDoor
open Go.RowKit
attribute [local go_sem] mk_size mk_append
--BEGIN
def digs16 : ByteArray := ⟨#[48, 49, 50, 51, 52, 53, 54, 55, 56, 57, 97, 98, 99, 100, 101, 102]⟩
theorem digs16_at (d : Nat) (h : d < 16) : digs16.extract d (d + 1) = mk [hexD d] := by
  have key : ∀ d : Fin 16, digs16.extract d.val (d.val + 1) = mk [hexD d.val] := by decide
  exact key ⟨d, h⟩
set_option maxHeartbeats 4000000 in
set_option maxRecDepth 100000 in
theorem sHexText_any (n : Int) (w : World) : Calls Tryd.prog 35 #[.int .i64 n] w fun e w' => e = .returned (.string (mk (hexT n))) ∧ w = w' := by
  cases hp : pv n
  · have E := Lib.hid (hexT_bad hp)
    have hP : ∀ w, Calls Tryd.prog 26 #[.int .i64 n, .int .i64 0, .int .i64 16777212] w fun e w' => e = .returned (.bool false) ∧ w = w' := fun w => hp ▸ sl1In_any n 0 16777212 w
    have HP := Lib.hid hP
    clear hp hP
    rw [E.out]
    go_enter Tryd.func35, Tryd.ntmps35
    go_wp2_with (go_at_call 26; refine (HP.out _).mono ?_; rintro e w' ⟨rfl, rfl⟩)
    go_ret
    exact ⟨rfl, rfl⟩
  · have h2 := pv_iff.1 hp
    obtain ⟨m, rfl⟩ := Int.eq_ofNat_of_zero_le h2.1
    have hm : m ≤ 16777212 := by omega
    have E := Lib.hid (hexT_ok hm)
    have hP : ∀ w, Calls Tryd.prog 26 #[.int .i64 (m : Int), .int .i64 0, .int .i64 16777212] w fun e w' => e = .returned (.bool true) ∧ w = w' := fun w => hp ▸ sl1In_any (m : Int) 0 16777212 w
    have HP := Lib.hid hP
    have hx := digs16_at (m % 16) (by omega)
    unfold digs16 at hx
    have HS := Lib.hid (HexAt.start hm)
    clear hp hP h2
    rw [E.out]
    clear E
    go_enter Tryd.func35, Tryd.ntmps35
    go_wp2_with (go_at_call 26; refine (HP.out _).mono ?_; rintro e w' ⟨rfl, rfl⟩)
    go_loop [0, 4] (fun u o => ∃ (N : Nat) (acc : Bs), u = .int .i64 (N : Int) ∧ o = .string (mk acc) ∧ N ≤ m ∧ acc.length ≤ 7 ∧ Hid (HexAt m N acc)) (fun u _ => (intOf u).toNat)
    case atStart => exact ⟨m, [hexD (m % 16)], rfl, by rw [hx], Nat.le_refl _, by simp, HS.out⟩
    case round =>
      obtain ⟨N, acc, rfl, rfl, hN, hal, HA⟩ := hrel
      by_cases hlt : 16 ≤ N
      · have hlt' : (16 : Int) ≤ (N : Int) := by omega
        have hd : (N : Int) / 16 = ((N / 16 : Nat) : Int) := by omega
        have hst := HA.out.step hlt
        have hac := hst.1
        have HST := Lib.hid hst
        clear hx
        have hx := digs16_at (N / 16 % 16) (by omega)
        unfold digs16 at hx
        have hlt2 : N / 16 ≤ N := Nat.div_le_self _ _
        have hlt3 : N / 16 < N := Nat.div_lt_self (by omega) (by omega)
        generalize N / 16 = M at *
        clear hst
        go_wp2
        go_round
        case rel => exact ⟨M, hexD (M % 16) :: acc, rfl, by first | rfl | rw [hx]; rfl, by omega, hac, HST.out⟩
        case measure => simp [intOf]; omega
      · have hlt' : ¬ (16 : Int) ≤ (N : Int) := by omega
        have HD := Lib.hid (HA.out.done (by omega))
        go_wp2
        go_ret
        exact ⟨ret_str (by rw [HD.out]), rfl⟩
end Go.Proofs.YtaeaccakkielmaaDoor
