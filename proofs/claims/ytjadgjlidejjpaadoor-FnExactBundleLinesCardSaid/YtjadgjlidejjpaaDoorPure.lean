/- What the program computes, in plain Lean on lists and integers: words, prints, trees, versions, filters, damage, spots, names, tags, searches. No program in sight. -/
import Derived.WalkKit
set_option linter.unusedVariables false
namespace Go.Proofs.YtjadgjlidejjpaaDoor
abbrev Bs := List UInt8

/-! ### words and prints -/
def inI (n lo hi : Int) : Bool := decide (lo ≤ n ∧ n ≤ hi)
def pv (n : Int) : Bool := inI n 0 16777212
def smallC (c : UInt8) : Bool := inI c.toNat 97 122
def digitC (c : UInt8) : Bool := inI c.toNat 48 57
def okC (c : UInt8) : Bool := decide (32 ≤ (c.toNat : Int) ∧ (c.toNat : Int) ≤ 126)
def textV (s : Bs) : Bool := decide (s.length ≤ 60) && s.all okC
def wordV (s : Bs) : Bool := decide (1 ≤ s.length ∧ s.length ≤ 8) && !digitC (s.headD 0) && s.all (fun c => smallC c || digitC c)
def hash (n : Int) (s : Bs) : Int := s.foldl (fun n c => (n * 257 + c.toNat) % 16777213) n
def foldC (c : UInt8) : UInt8 := if 65 ≤ (c.toNat : Int) ∧ (c.toNat : Int) ≤ 90 then c + 32 else c
def fineC (c : UInt8) : Bool := smallC (foldC c) || digitC (foldC c)
def foldName (s : Bs) : Bs := if 1 ≤ s.length ∧ s.length ≤ 8 ∧ s.all fineC = true then s.map foldC else []
def prOf (s : Bs) : Int := if textV s then hash 1 s else -1
def prPair (a b : Int) : Int := if pv a && pv b then (a * 7919 + b * 104729 + 3) % 16777213 else -1
def prList (l : List Int) : Int := if l.length ≤ 20 ∧ l.all pv = true then l.foldl prPair 5 else -1

theorem inI_true {n lo hi : Int} (h : lo ≤ n ∧ n ≤ hi) : inI n lo hi = true := by simp [inI, h]
theorem inI_false {n lo hi : Int} (h : ¬ (lo ≤ n ∧ n ≤ hi)) : inI n lo hi = false := by simp [inI]; omega
theorem pv_iff {n : Int} : pv n = true ↔ 0 ≤ n ∧ n ≤ 16777212 := by simp [pv, inI]
theorem pv_false {n : Int} : pv n = false ↔ ¬ (0 ≤ n ∧ n ≤ 16777212) := by
  cases h : pv n
  · simp only [true_iff]; intro hh; rw [pv_iff.2 hh] at h; cases h
  · simp only [Bool.true_eq_false, false_iff, Decidable.not_not]; exact pv_iff.1 h

theorem hash_bd (s : Bs) : ∀ n : Int, 0 ≤ n → n ≤ 16777212 → 0 ≤ hash n s ∧ hash n s ≤ 16777212 := by
  induction s with
  | nil => intro n h1 h2; exact ⟨h1, h2⟩
  | cons c r ih =>
    intro n h1 h2
    have := ih ((n * 257 + c.toNat) % 16777213) (by omega) (by omega)
    simpa [hash] using this
theorem hash_snoc (n : Int) (s : Bs) (c : UInt8) : hash n (s ++ [c]) = (hash n s * 257 + c.toNat) % 16777213 := by simp [hash, List.foldl_append]
theorem prOf_bd (s : Bs) : -1 ≤ prOf s ∧ prOf s ≤ 16777212 := by
  unfold prOf; split
  · have := hash_bd s 1 (by omega) (by omega); omega
  · omega
theorem prOf_pv {s : Bs} (h : textV s = true) : pv (prOf s) = true := by
  unfold prOf; rw [if_pos h]; exact pv_iff.2 (hash_bd s 1 (by omega) (by omega))
theorem prOf_bad {s : Bs} (h : textV s = false) : prOf s = -1 := by unfold prOf; simp [h]
theorem prPair_bd (a b : Int) : -1 ≤ prPair a b ∧ prPair a b ≤ 16777212 := by
  unfold prPair; split <;> omega
theorem prPair_pv {a b : Int} (ha : pv a = true) (hb : pv b = true) : pv (prPair a b) = true := by
  unfold prPair; rw [ha, hb]; simp only [Bool.and_self, if_true]; exact pv_iff.2 (by omega)

/-! ### trees -/
def lvlUp : List Int → List Int
  | a :: b :: r => prPair a b :: lvlUp r
  | [a] => [a]
  | [] => []
def leavesV (l : List Int) : Bool := decide (1 ≤ l.length ∧ l.length ≤ 16) && l.all pv
/-- The top after at most 'f' levels. -/
def topF : Nat → List Int → Int
  | 0, l => l.headD 0
  | f + 1, l => if 1 < l.length then topF f (lvlUp l) else l.headD 0
def treeRoot (l : List Int) : Int := if leavesV l then topF 5 l else -1
def proofF : Nat → List Int → Nat → List Int
  | 0, _, _ => []
  | f + 1, l, n => if 1 < l.length then (if n ^^^ 1 < l.length then l.getD (n ^^^ 1) 0 else -1) :: proofF f (lvlUp l) (n / 2) else []
def treeProof (l : List Int) (n : Int) : List Int := if leavesV l ∧ 0 ≤ n ∧ n < l.length then proofF 5 l n.toNat else []

end Go.Proofs.YtjadgjlidejjpaaDoor
