/- Trees in plain Lean: proofs, roots of proofs; that they meet. -/
import Derived.Test.YtjadgjlidejjpaaDoorTr2
set_option linter.unusedVariables false
namespace Go.Proofs.YtjadgjlidejjpaaDoor

/-- The root to which a proof leads. -/
def rootF : List Int → Int → Nat → Nat → Int
  | [], p, _, m => if 1 < m then -1 else p
  | x :: r, p, n, m =>
    if m = 1 then -1
    else if m ≤ n ^^^ 1 then (if x = -1 then rootF r p (n / 2) ((m + 1) / 2) else -1)
    else if pv x then rootF r (if n % 2 = 0 then prPair p x else prPair x p) (n / 2) ((m + 1) / 2)
    else -1
def inTree (p n m : Int) : Bool := pv p && decide (1 ≤ m ∧ m ≤ 16) && decide (0 ≤ n ∧ n < m)
def proofRoot (p n m : Int) (l : List Int) : Int := if inTree p n m then rootF l p n.toNat m.toNat else -1

theorem xor1 (n : Nat) : n ^^^ 1 = n + 1 - n % 2 * 2 := by
  have h2 : (n ^^^ 1) / 2 = n / 2 := by
    have := Nat.xor_div_two (a := n) (b := 1)
    simpa using this
  have h := Nat.xor_mod_two_pow (a := n) (b := 1) (n := 1)
  have h3 : n % 2 = 0 ∨ n % 2 = 1 := by omega
  have e0 : (0 ^^^ 1 % 2 : Nat) = 1 := rfl
  have e1 : (1 ^^^ 1 % 2 : Nat) = 0 := rfl
  simp only [Nat.pow_one] at h
  rcases h3 with h3 | h3
  · rw [h3, e0] at h; omega
  · rw [h3, e1] at h; omega
theorem xor1_even {n : Nat} (h : n % 2 = 0) : n ^^^ 1 = n + 1 := by rw [xor1]; omega
theorem xor1_odd {n : Nat} (h : n % 2 = 1) : n ^^^ 1 = n - 1 := by rw [xor1]; omega

theorem proofF_done {f : Nat} {m : List Int} {n : Nat} (h : m.length = 1) : proofF f m n = [] := by
  cases f with
  | zero => rfl
  | succ f => rw [proofF, if_neg (by omega)]
theorem proofF_step {f : Nat} {m : List Int} {n : Nat} (h : 1 < m.length) : proofF (f + 1) m n = (if n ^^^ 1 < m.length then m.getD (n ^^^ 1) 0 else -1) :: proofF f (lvlUp m) (n / 2) := by
  rw [proofF, if_pos h]
theorem proofF_len (f : Nat) : ∀ (m : List Int) (n : Nat), (proofF f m n).length ≤ f := by
  induction f with
  | zero => intro m n; simp [proofF]
  | succ f ih =>
    intro m n; rw [proofF]; split
    · simp; exact ih _ _
    · simp
theorem treeProof_bad {l : List Int} {n : Int} (h : leavesV l = false ∨ n < 0 ∨ (l.length : Int) ≤ n) : treeProof l n = [] := by
  unfold treeProof; rw [if_neg]; rintro ⟨h1, h2, h3⟩
  rcases h with h | h | h
  · rw [h] at h1; cases h1
  · omega
  · omega
theorem treeProof_ok {l : List Int} {n : Int} (h : leavesV l = true) (h0 : 0 ≤ n) (h1 : n < l.length) : treeProof l n = proofF 5 l n.toNat := by
  unfold treeProof; rw [if_pos ⟨h, h0, h1⟩]
theorem treeProof_len (l : List Int) (n : Int) : (treeProof l n).length ≤ 5 := by
  unfold treeProof; split
  · exact proofF_len _ _ _
  · simp

theorem lvlUp_at : ∀ (k : Nat) (l : List Int) (d : Int), (lvlUp l).getD k d = if 2 * k + 1 < l.length then prPair (l.getD (2 * k) d) (l.getD (2 * k + 1) d) else l.getD (2 * k) d
  | 0, [], d => rfl
  | 0, [a], d => rfl
  | 0, a :: b :: r, d => by simp [lvlUp]
  | k + 1, [], d => by simp [lvlUp]
  | k + 1, [a], d => by simp [lvlUp]
  | k + 1, a :: b :: r, d => by
    have ih := lvlUp_at k r d
    show (prPair a b :: lvlUp r).getD (k + 1) d = _
    have e : 2 * (k + 1) = 2 * k + 1 + 1 := by omega
    rw [List.getD_cons_succ, ih, e]
    simp only [List.length_cons, List.getD_cons_succ]
    have e2 : 2 * k + 1 + 1 + 1 < r.length + 1 + 1 ↔ 2 * k + 1 < r.length := by omega
    simp only [e2]
theorem getD_pv {l : List Int} (h : l.all pv = true) {k : Nat} (hk : k < l.length) (d : Int) : pv (l.getD k d) = true := by
  rw [List.getD_eq_getElem?_getD, List.getElem?_eq_getElem hk]
  exact List.all_eq_true.1 h _ (by simp)

/-- A proof leads to the root. -/
theorem root_of_proof (f : Nat) : ∀ (l : List Int) (n : Nat), l.all pv = true → n < l.length → l.length ≤ 2 ^ f → rootF (proofF f l n) (l.getD n 0) n l.length = topF f l := by
  induction f with
  | zero =>
    intro l n hp hn hl
    have h1 : l.length = 1 := by simp at hl; omega
    obtain ⟨x, rfl⟩ : ∃ x, l = [x] := by
      match l, h1 with
      | [x], _ => exact ⟨x, rfl⟩
    have : n = 0 := by simp at hn; omega
    subst this
    simp [proofF, rootF, topF]
  | succ f ih =>
    intro l n hp hn hl
    by_cases h1 : 1 < l.length
    · rw [proofF_step h1, topF_step h1]
      have hlen := lvlUp_len l
      have hup := lvlUp_pv _ l (Nat.le_refl _) hp
      have hih := ih (lvlUp l) (n / 2) hup (by omega) (by rw [hlen]; simp only [Nat.pow_succ] at hl; omega)
      have hat := lvlUp_at (n / 2) l 0
      rw [rootF, if_neg (by omega)]
      by_cases hb : n ^^^ 1 < l.length
      · rw [if_neg (by omega), if_pos hb, if_pos (getD_pv hp hb 0), ← hih]
        rw [hlen]
        congr 1
        rw [hat]
        by_cases he : n % 2 = 0
        · rw [if_pos he, xor1_even he] at *
          have e : 2 * (n / 2) = n := by omega
          rw [e, if_pos hb]
        · have ho : n % 2 = 1 := by omega
          rw [if_neg he, xor1_odd ho] at *
          have e : 2 * (n / 2) = n - 1 := by omega
          have e2 : n - 1 + 1 = n := by omega
          rw [e, e2, if_pos hn]
      · rw [if_pos (by omega), if_neg hb, if_pos rfl, ← hih, hlen]
        congr 1
        rw [hat]
        have he : n % 2 = 0 := by
          by_cases he : n % 2 = 0
          · exact he
          · exfalso; rw [xor1_odd (by omega)] at hb; omega
        rw [xor1_even he] at hb
        have e : 2 * (n / 2) = n := by omega
        rw [e, if_neg hb]
    · have h2 : l.length = 1 := by omega
      rw [proofF_done h2, topF_one h2, rootF, if_neg (by omega)]
      have : n = 0 := by omega
      subst this
      cases l <;> rfl
theorem topF_pv (f : Nat) : ∀ l : List Int, l.all pv = true → 1 ≤ l.length → pv (topF f l) = true := by
  induction f with
  | zero => intro l hp hl; rw [topF]; cases l with
    | nil => simp at hl
    | cons a r => simp only [List.all_cons, Bool.and_eq_true] at hp; exact hp.1
  | succ f ih =>
    intro l hp hl
    rw [topF]
    split
    · exact ih _ (lvlUp_pv _ l (Nat.le_refl _) hp) (by rw [lvlUp_len]; omega)
    · cases l with
      | nil => simp at hl
      | cons a r => simp only [List.all_cons, Bool.and_eq_true] at hp; exact hp.1
theorem treeRoot_pv {l : List Int} (h : leavesV l = true) : pv (treeRoot l) = true := by
  obtain ⟨h1, h2, h3⟩ := leavesV_iff.1 h
  rw [treeRoot_ok h]; exact topF_pv 5 l h3 h1
theorem treeRoot_bd (l : List Int) : -1 ≤ treeRoot l ∧ treeRoot l ≤ 16777212 := by
  cases h : leavesV l
  · rw [treeRoot_bad h]; omega
  · have := pv_iff.1 (treeRoot_pv h); omega
theorem treeRoot_neg {l : List Int} (h : treeRoot l < 0) : leavesV l = false := by
  cases hl : leavesV l
  · rfl
  · have := pv_iff.1 (treeRoot_pv hl); omega
theorem treeRoot_nonneg {l : List Int} (h : ¬ treeRoot l < 0) : leavesV l = true := by
  cases hl : leavesV l
  · rw [treeRoot_bad hl] at h; omega
  · rfl
/-- The proof of a leaf leads to the root. -/
theorem proofRoot_tree {l : List Int} {n : Int} (h : leavesV l = true) (h0 : 0 ≤ n) (h1 : n < l.length) : proofRoot (l.getD n.toNat 0) n l.length (treeProof l n) = treeRoot l := by
  obtain ⟨hl1, hl2, hp⟩ := leavesV_iff.1 h
  have hin : inTree (l.getD n.toNat 0) n l.length = true := by
    unfold inTree
    rw [getD_pv hp (by omega), Bool.true_and, Bool.and_eq_true]
    exact ⟨decide_eq_true (by omega), decide_eq_true (by omega)⟩
  unfold proofRoot
  rw [if_pos hin, treeProof_ok h h0 h1, treeRoot_ok h]
  have := root_of_proof 5 l n.toNat hp (by omega) (by omega)
  simpa using this
theorem rootF_bd : ∀ (l : List Int) (p : Int) (n m : Nat), -1 ≤ p ∧ p ≤ 16777212 → -1 ≤ rootF l p n m ∧ rootF l p n m ≤ 16777212
  | [], p, n, m, h => by rw [rootF]; split <;> omega
  | x :: r, p, n, m, h => by
    rw [rootF]
    split
    · omega
    · split
      · split
        · exact rootF_bd r p _ _ h
        · omega
      · split
        · refine rootF_bd r _ _ _ ?_
          split <;> exact prPair_bd _ _
        · omega
theorem proofRoot_bd (p n m : Int) (l : List Int) : -1 ≤ proofRoot p n m l ∧ proofRoot p n m l ≤ 16777212 := by
  unfold proofRoot; split
  · rename_i h
    have hp : pv p = true := by unfold inTree at h; simp only [Bool.and_eq_true] at h; exact h.1.1
    have := pv_iff.1 hp
    exact rootF_bd _ _ _ _ (by omega)
  · omega
end Go.Proofs.YtjadgjlidejjpaaDoor
