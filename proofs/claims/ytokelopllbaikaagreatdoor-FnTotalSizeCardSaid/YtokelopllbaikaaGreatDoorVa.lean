/- Which pieces roots reach, in plain Lean. No program in sight. -/
import Derived.Test.YtokelopllbaikaaGreatDoorGb4
set_option linter.unusedVariables false
namespace Go.Proofs.YtokelopllbaikaaGreatDoor
def namesK (s : List Pc) (k : Nat) : List Int := (((s[k]?).bind fun p => readF (tx p.2)).getD []).map (·.2)
def mark1 (s : List Pc) (q : Int) (inn : List Bool) : List Bool := List.zipWith (fun b p => b || decide (p.1 = q)) inn s
def markL (s : List Pc) (qs : List Int) (inn : List Bool) : List Bool := qs.foldl (fun inn q => mark1 s q inn) inn
def stepK (s : List Pc) (inn : List Bool) (k : Nat) : List Bool := if inn.getD k false then markL s (namesK s k) inn else inn
def roundK (s : List Pc) (inn : List Bool) (k : Nat) : List Bool := (List.range k).foldl (stepK s) inn
def roundR (s : List Pc) (inn : List Bool) : List Bool := roundK s inn s.length
def initR (s : List Pc) (roots : List Int) : List Bool := s.map fun p => roots.contains p.1
def afterR (s : List Pc) (roots : List Int) : Nat → List Bool
  | 0 => initR s roots
  | n + 1 => roundR s (afterR s roots n)
def reachR (s : List Pc) (roots : List Int) : List Bool := afterR s roots s.length
theorem mark1_len {s : List Pc} {q : Int} {inn : List Bool} (h : inn.length = s.length) : (mark1 s q inn).length = s.length := by
  unfold mark1; rw [List.length_zipWith]; omega
theorem mark1_at {s : List Pc} {q : Int} {inn : List Bool} (h : inn.length = s.length) {i : Nat} (hi : i < s.length) : (mark1 s q inn).getD i false = (inn.getD i false || decide (s[i].1 = q)) := by
  unfold mark1
  rw [List.getD_eq_getElem?_getD, List.getElem?_eq_getElem (by rw [List.length_zipWith]; omega), List.getElem_zipWith, List.getD_eq_getElem?_getD, List.getElem?_eq_getElem (by omega)]
  rfl
theorem markL_len {s : List Pc} : ∀ (qs : List Int) (inn : List Bool), inn.length = s.length → (markL s qs inn).length = s.length
  | [], _, h => h
  | q :: r, inn, h => markL_len r _ (mark1_len h)
theorem stepK_len {s : List Pc} {inn : List Bool} {k : Nat} (h : inn.length = s.length) : (stepK s inn k).length = s.length := by
  unfold stepK; split
  · exact markL_len _ _ h
  · exact h
theorem roundK_succ (s : List Pc) (inn : List Bool) (k : Nat) : roundK s inn (k + 1) = stepK s (roundK s inn k) k := by
  unfold roundK; rw [List.range_succ, List.foldl_append]; rfl
theorem roundK_len {s : List Pc} {inn : List Bool} (h : inn.length = s.length) : ∀ k, (roundK s inn k).length = s.length
  | 0 => h
  | k + 1 => by rw [roundK_succ]; exact stepK_len (roundK_len h k)
theorem afterR_len (s : List Pc) (roots : List Int) : ∀ n, (afterR s roots n).length = s.length
  | 0 => by unfold afterR initR; rw [List.length_map]
  | n + 1 => by rw [afterR]; exact roundK_len (afterR_len s roots n) _
/-! ### more and more are reached -/
def LeB (a b : List Bool) : Prop := ∀ i, a.getD i false = true → b.getD i false = true
theorem LeB.refl (a : List Bool) : LeB a a := fun _ h => h
theorem LeB.trans {a b c : List Bool} (h : LeB a b) (h2 : LeB b c) : LeB a c := fun i hi => h2 i (h i hi)
theorem getD_lt {a : List Bool} {i : Nat} (h : a.getD i false = true) : i < a.length := by
  by_cases hi : i < a.length
  · exact hi
  · rw [List.getD_eq_getElem?_getD, List.getElem?_eq_none (by omega)] at h; cases h
theorem mark1_le {s : List Pc} {q : Int} {inn : List Bool} (h : inn.length = s.length) : LeB inn (mark1 s q inn) := fun i hi => by
  have hl := getD_lt hi
  rw [mark1_at h (by omega), hi]; rfl
theorem markL_le {s : List Pc} : ∀ (qs : List Int) (inn : List Bool), inn.length = s.length → LeB inn (markL s qs inn)
  | [], _, _ => LeB.refl _
  | q :: r, inn, h => (mark1_le h).trans (markL_le r _ (mark1_len h))
theorem markL_has {s : List Pc} : ∀ (qs : List Int) (inn : List Bool), inn.length = s.length → ∀ q ∈ qs, ∀ i (hi : i < s.length), s[i].1 = q → (markL s qs inn).getD i false = true
  | [], _, _, q, hq, _, _, _ => by cases hq
  | x :: r, inn, h, q, hq, i, hi, he => by
    rcases List.mem_cons.1 hq with rfl | hq
    · refine markL_le r _ (mark1_len h) i ?_
      rw [mark1_at h hi, he]; simp
    · exact markL_has r _ (mark1_len h) q hq i hi he
theorem stepK_le {s : List Pc} {inn : List Bool} {k : Nat} (h : inn.length = s.length) : LeB inn (stepK s inn k) := by
  unfold stepK; split
  · exact markL_le _ _ h
  · exact LeB.refl _
theorem roundK_le {s : List Pc} {inn : List Bool} (h : inn.length = s.length) : ∀ k j, k ≤ j → LeB (roundK s inn k) (roundK s inn j)
  | k, 0, hk => by
    obtain rfl : k = 0 := by omega
    exact LeB.refl _
  | k, j + 1, hk => by
    by_cases e : k = j + 1
    · subst e; exact LeB.refl _
    · rw [roundK_succ s inn j]
      exact (roundK_le h k j (by omega)).trans (stepK_le (roundK_len h j))
theorem leB_anti : ∀ {a b : List Bool}, a.length = b.length → LeB a b → LeB b a → a = b := by
  intro a b hl h1 h2
  refine List.ext_getElem hl fun i hi hj => ?_
  have e1 : a.getD i false = a[i] := by rw [List.getD_eq_getElem?_getD, List.getElem?_eq_getElem hi]; rfl
  have e2 : b.getD i false = b[i] := by rw [List.getD_eq_getElem?_getD, List.getElem?_eq_getElem hj]; rfl
  have h3 := h1 i
  have h4 := h2 i
  rw [e1, e2] at h3 h4
  cases ha : a[i] <;> cases hb : b[i] <;> simp_all
theorem count_lt : ∀ {a b : List Bool}, a.length = b.length → LeB a b → a.countP id ≤ b.countP id ∧ (a ≠ b → a.countP id < b.countP id)
  | [], [], _, _ => ⟨Nat.le_refl _, fun h => absurd rfl h⟩
  | x :: a, y :: b, hl, h => by
    have h0 : x = true → y = true := h 0
    have ht : LeB a b := fun i hi => h (i + 1) hi
    obtain ⟨i1, i2⟩ := count_lt (by simpa using hl) ht
    rw [List.countP_cons, List.countP_cons]
    cases x <;> cases y
    · simp only [id, Bool.false_eq_true, if_false, Nat.add_zero]
      exact ⟨i1, fun hn => i2 fun e => hn (by rw [e])⟩
    · simp only [id, Bool.false_eq_true, if_false, if_true, Nat.add_zero]
      exact ⟨by omega, fun _ => by omega⟩
    · exact absurd (h0 rfl) (by simp)
    · simp only [id, if_true]
      exact ⟨by omega, fun hn => by have := i2 fun e => hn (by rw [e]); omega⟩
theorem roundR_count {s : List Pc} (roots : List Int) : ∀ n, roundR s (afterR s roots n) = afterR s roots n ∨ n + 1 ≤ (afterR s roots n).countP id
  | 0 => by
    by_cases h0 : (afterR s roots 0).countP id = 0
    · left
      have hz : ∀ k, roundK s (afterR s roots 0) k = afterR s roots 0 := fun k => by
        induction k with
        | zero => rfl
        | succ k ih =>
          rw [roundK_succ, ih]
          unfold stepK
          rw [if_neg]
          intro hk
          have hl := getD_lt hk
          rw [List.countP_eq_zero] at h0
          have := h0 _ (List.getElem_mem hl)
          rw [List.getD_eq_getElem?_getD, List.getElem?_eq_getElem hl] at hk
          exact this hk
      exact hz _
    · right; omega
  | n + 1 => by
    have hl := afterR_len s roots n
    have hle := roundK_le hl 0 s.length (Nat.zero_le _)
    rcases roundR_count roots n with h | h
    · left
      rw [afterR, h, h]
    · by_cases e : roundR s (afterR s roots n) = afterR s roots n
      · left
        rw [afterR, e, e]
      · right
        rw [afterR]
        have := (count_lt (a := afterR s roots n) (b := roundR s (afterR s roots n)) (by rw [hl]; exact (roundK_len hl _).symm) hle).2 (fun h => e h.symm)
        omega
theorem reach_fix (s : List Pc) (roots : List Int) : roundR s (reachR s roots) = reachR s roots := by
  rcases roundR_count roots s.length with h | h
  · exact h
  · have h1 := List.countP_le_length (p := id) (l := afterR s roots s.length)
    rw [afterR_len] at h1
    omega
/-- What is reached names what is reached. -/
theorem reach_closed (s : List Pc) (roots : List Int) {k : Nat} (hk : (reachR s roots).getD k false = true) : ∀ q ∈ namesK s k, ∀ i (hi : i < s.length), s[i].1 = q → (reachR s roots).getD i false = true := by
  have hl : (reachR s roots).length = s.length := afterR_len s roots _
  have hf := reach_fix s roots
  generalize reachR s roots = R at *
  have hks : k < s.length := by have := getD_lt hk; omega
  have h1 : roundK s R k = R := leB_anti (by rw [roundK_len hl, hl]) (by
    have := roundK_le hl k s.length (by omega)
    unfold roundR at hf
    rwa [hf] at this) (roundK_le hl 0 k (Nat.zero_le _))
  have h2 : roundK s R (k + 1) = R := leB_anti (by rw [roundK_len hl, hl]) (by
    have := roundK_le hl (k + 1) s.length (by omega)
    unfold roundR at hf
    rwa [hf] at this) (roundK_le hl 0 (k + 1) (Nat.zero_le _))
  rw [roundK_succ, h1] at h2
  unfold stepK at h2
  rw [if_pos hk] at h2
  intro q hq i hi he
  have := markL_has (namesK s k) R hl q hq i hi he
  rwa [h2] at this
/-! ### what is left of a store -/
def reachL (s : List Pc) (inn : List Bool) (k : Nat) : List Int := ((List.range k).filter fun i => inn.getD i false).map fun i => (s.getD i pc0).1
def sweepR (s : List Pc) (roots : List Int) : List Pc := if storeV s then s.filter fun p => (reachL s (reachR s roots) s.length).contains p.1 else []
theorem reachL_mem {s : List Pc} {inn : List Bool} {n : Nat} {q : Int} : q ∈ reachL s inn n ↔ ∃ i, i < n ∧ inn.getD i false = true ∧ (s.getD i pc0).1 = q := by
  unfold reachL
  rw [List.mem_map]
  constructor
  · rintro ⟨i, hi, rfl⟩
    obtain ⟨h1, h2⟩ := List.mem_filter.1 hi
    exact ⟨i, List.mem_range.1 h1, h2, rfl⟩
  · rintro ⟨i, h1, h2, rfl⟩
    exact ⟨i, List.mem_filter.2 ⟨List.mem_range.2 h1, h2⟩, rfl⟩
theorem sweep_sub (s : List Pc) (roots : List Int) : (sweepR s roots).Sublist s := by
  unfold sweepR; split
  · exact List.filter_sublist
  · exact List.nil_sublist _
theorem sweep_valid (s : List Pc) (roots : List Int) : storeV (sweepR s roots) = true := by
  cases h : storeV s
  · unfold sweepR; rw [h]; rfl
  · exact storeV_sub h (sweep_sub s roots)
theorem sweep_good {N : Bs → Prop} {s : List Pc} (hg : storeV s = true → Good N s) (roots : List Int) : Good N (sweepR s roots) := by
  cases hs : storeV s
  · unfold sweepR; rw [hs]; exact good_nil N
  have hg := hg hs
  intro p l hf e he
  have hso := storeV_sorted hs
  unfold folderOf at hf
  obtain ⟨t, ht, hr⟩ := Option.bind_eq_some_iff.1 hf
  have hm := getT_some ht
  have hms := (sweep_sub s roots).subset hm
  have hf2 : folderOf s p = some l := by unfold folderOf; rw [getT_mem hso hms]; exact hr
  obtain ⟨h1, h2⟩ := hg p l hf2 e he
  refine ⟨?_, h2⟩
  obtain ⟨u, hu⟩ := Option.isSome_iff_exists.1 h1
  have hmu := getT_some hu
  have hsv := sweep_valid s roots
  have : (e.2, u) ∈ sweepR s roots := by
    unfold sweepR at hm ⊢
    rw [hs, if_pos rfl] at hm ⊢
    refine List.mem_filter.2 ⟨hmu, ?_⟩
    have hk := (List.mem_filter.1 hm).2
    rw [List.contains_iff_mem, reachL_mem] at hk ⊢
    obtain ⟨k, hk1, hk2, hk3⟩ := hk
    obtain ⟨i, hi, hie⟩ := List.getElem_of_mem hmu
    rw [getD_pc hk1] at hk3
    have hkp : s[k] = (p, t) := sorted_inj hso (List.getElem_mem hk1) hms hk3
    refine ⟨i, hi, reach_closed s roots hk2 e.2 ?_ i hi (by rw [hie]), by rw [getD_pc hi, hie]⟩
    unfold namesK
    rw [List.getElem?_eq_getElem hk1, hkp, Option.bind_some, hr, Option.getD_some]
    exact List.mem_map.2 ⟨e, he, rfl⟩
  rw [getT_mem (storeV_sorted hsv) this]; rfl
end Go.Proofs.YtokelopllbaikaaGreatDoor
