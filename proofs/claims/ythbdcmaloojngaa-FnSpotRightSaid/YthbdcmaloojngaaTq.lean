/- Trees in plain Lean: the root notices its last leaf. -/
import Derived.Test.YthbdcmaloojngaaTp
set_option linter.unusedVariables false
namespace Go.Proofs.Ythbdcmaloojngaa

theorem mod_inj {x y : Int} (h : x % 16777213 = y % 16777213) : ∃ k : Int, x = y + 16777213 * k :=
  ⟨x / 16777213 - y / 16777213, by omega⟩
theorem lin2 (d k : Int) (e : d * 104729 = 16777213 * k) (h1 : -16777213 < d) (h2 : d < 16777213) : d = 0 := by omega
theorem lin1 (d k : Int) (e : d * 7919 = 16777213 * k) (h1 : -16777213 < d) (h2 : d < 16777213) : d = 0 := by omega
theorem lin2' (a b b' k : Int) (hk : a * 7919 + b * 104729 + 3 = a * 7919 + b' * 104729 + 3 + 16777213 * k) : (b - b') * 104729 = 16777213 * k := by omega
theorem lin1' (a a' b k : Int) (hk : a * 7919 + b * 104729 + 3 = a' * 7919 + b * 104729 + 3 + 16777213 * k) : (a - a') * 7919 = 16777213 * k := by omega
theorem sub_bd {x y : Int} (hx : pv x = true) (hy : pv y = true) : -16777213 < x - y ∧ x - y < 16777213 := by
  have h1 := pv_iff.1 hx
  have h2 := pv_iff.1 hy
  omega
theorem prPair_inj2 {a b b' : Int} (ha : pv a = true) (hb : pv b = true) (hb' : pv b' = true) (h : prPair a b = prPair a b') : b = b' := by
  have hd := sub_bd hb hb'
  unfold prPair at h
  rw [ha, hb, hb'] at h
  simp only [Bool.and_self, if_true] at h
  obtain ⟨k, hk⟩ := mod_inj h
  exact Int.sub_eq_zero.1 (lin2 (b - b') k (lin2' a b b' k hk) hd.1 hd.2)
theorem prPair_inj1 {a a' b : Int} (ha : pv a = true) (ha' : pv a' = true) (hb : pv b = true) (h : prPair a b = prPair a' b) : a = a' := by
  have hd := sub_bd ha ha'
  unfold prPair at h
  rw [ha, ha', hb] at h
  simp only [Bool.and_self, if_true] at h
  obtain ⟨k, hk⟩ := mod_inj h
  exact Int.sub_eq_zero.1 (lin1 (a - a') k (lin1' a a' b k hk) hd.1 hd.2)

/-- One level up, all but the last leaf fixed: the last one is a one-to-one image of the last leaf. -/
theorem lvlUp_last : ∀ (n : Nat) (a : List Int), a.length ≤ n → a.all pv = true → ∃ (b : List Int) (g : Int → Int), b.all pv = true ∧ (∀ x, lvlUp (a ++ [x]) = b ++ [g x]) ∧ (∀ x, pv x = true → pv (g x) = true) ∧ (∀ x y, pv x = true → pv y = true → g x = g y → x = y)
  | _, [], _, _ => ⟨[], id, rfl, fun _ => rfl, fun _ h => h, fun _ _ _ _ h => h⟩
  | _, [c], _, hp => by
    have hc : pv c = true := by simpa using hp
    exact ⟨[], prPair c, rfl, fun _ => rfl, fun _ h => prPair_pv hc h, fun _ _ hx hy h => prPair_inj2 hc hx hy h⟩
  | 0, _ :: _ :: _, h, _ => by simp at h
  | n + 1, c :: d :: r, h, hp => by
    simp only [List.all_cons, Bool.and_eq_true] at hp
    obtain ⟨b, g, hb, h1, h2, h3⟩ := lvlUp_last n r (by simp at h; omega) hp.2.2
    refine ⟨prPair c d :: b, g, ?_, fun x => ?_, h2, h3⟩
    · simp only [List.all_cons, Bool.and_eq_true]; exact ⟨prPair_pv hp.1 hp.2.1, hb⟩
    · show prPair c d :: lvlUp (r ++ [x]) = _
      rw [h1]; rfl
theorem topF_last (f : Nat) : ∀ (a : List Int) (x y : Int), a.all pv = true → pv x = true → pv y = true → a.length + 1 ≤ 2 ^ f → topF f (a ++ [x]) = topF f (a ++ [y]) → x = y := by
  induction f with
  | zero =>
    intro a x y ha hx hy hl h
    have : a = [] := List.eq_nil_of_length_eq_zero (by simpa using hl)
    subst this
    exact h
  | succ f ih =>
    intro a x y ha hx hy hl h
    by_cases h1 : 0 < a.length
    · rw [topF_step (by simp; omega), topF_step (by simp; omega)] at h
      obtain ⟨b, g, hb, h2, h3, h4⟩ := lvlUp_last _ a (Nat.le_refl _) ha
      have hlen := lvlUp_len (a ++ [x])
      rw [h2, List.length_append, List.length_append] at hlen
      simp at hlen
      rw [h2, h2] at h
      exact h4 x y hx hy (ih b _ _ hb (h3 x hx) (h3 y hy) (by simp only [Nat.pow_succ] at hl; omega) h)
    · have : a = [] := List.eq_nil_of_length_eq_zero (by omega)
      subst this
      rw [topF_one rfl, topF_one rfl] at h
      exact h
theorem treeRoot_last {a : List Int} {x y : Int} (hx : leavesV (a ++ [x]) = true) (hy : pv y = true) (hne : x ≠ y) : treeRoot (a ++ [y]) ≠ treeRoot (a ++ [x]) := by
  obtain ⟨h1, h2, h3⟩ := leavesV_iff.1 hx
  rw [List.all_append, Bool.and_eq_true] at h3
  have hpx : pv x = true := by simpa using h3.2
  have hvy : leavesV (a ++ [y]) = true := by
    refine leavesV_iff.2 ⟨by simp, by simpa using h2, ?_⟩
    rw [List.all_append, h3.1]; simpa using hy
  rw [treeRoot_ok hx, treeRoot_ok hvy]
  intro h
  exact hne (topF_last 5 a x y h3.1 hpx hy (by simp at h2; omega) h.symm)
end Go.Proofs.Ythbdcmaloojngaa
