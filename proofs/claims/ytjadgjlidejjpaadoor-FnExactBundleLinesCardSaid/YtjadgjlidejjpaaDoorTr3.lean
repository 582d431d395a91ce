/- Trees: proofs, walked. -/
import Derived.Test.YtjadgjlidejjpaaDoorTp
import Derived.Test.YtjadgjlidejjpaaDoorAp
set_option linter.unusedVariables false
namespace Go.Proofs.YtjadgjlidejjpaaDoor
open Go.RowKit

theorem i64_xor_nat (a b : Nat) (ha : a < 9223372036854775808) (hb : b < 9223372036854775808) : bits .xor .i64 (a : Int) (b : Int) = ((a ^^^ b : Nat) : Int) := by
  show IntKind.i64.wrap ((BitVec.ofInt 64 (a : Int) ^^^ BitVec.ofInt 64 (b : Int)).toNat : Int) = _
  rw [BitVec.toNat_xor, ofInt_i64 a ha, ofInt_i64 b hb, IntKind.wrap_i64]
  have := Nat.xor_lt_two_pow (n := 63) (x := a) (y := b) (by simpa using ha) (by simpa using hb)
  omega
theorem xor1_int (N : Nat) (h : N ≤ 1000) : bits .xor .i64 (N : Int) 1 = ((N ^^^ 1 : Nat) : Int) := i64_xor_nat N 1 (by omega) (by omega)

/-- One level of a tree on the way of a proof: what was written so far, what is to come. -/
def ProofAt (l : List Int) (n : Nat) (acc m : List Int) (N : Nat) : Prop := ∃ f, m.length ≤ 2 ^ f ∧ proofF 5 l n = acc ++ proofF f m N
theorem ProofAt.start {l : List Int} {n : Nat} (h : l.length ≤ 16) : ProofAt l n [] l n := ⟨5, by omega, rfl⟩
theorem ProofAt.len {l : List Int} {n : Nat} {acc m : List Int} {N : Nat} (h : ProofAt l n acc m N) : acc.length ≤ 5 := by
  obtain ⟨f, _, e⟩ := h
  have := proofF_len 5 l n
  rw [e, List.length_append] at this; omega
theorem ProofAt.step {l : List Int} {n : Nat} {acc m : List Int} {N : Nat} (h : ProofAt l n acc m N) (h1 : 1 < m.length) (x : Int) (hx : x = if N ^^^ 1 < m.length then m.getD (N ^^^ 1) 0 else -1) : ProofAt l n (acc ++ [x]) (lvlUp m) (N / 2) := by
  obtain ⟨f, hf, e⟩ := h
  cases f with
  | zero => simp at hf; omega
  | succ f =>
    refine ⟨f, ?_, ?_⟩
    · rw [lvlUp_len]; simp only [Nat.pow_succ] at hf; omega
    · rw [e, proofF_step h1, ← hx]; simp
theorem ProofAt.done {l : List Int} {n : Nat} {acc m : List Int} {N : Nat} (h : ProofAt l n acc m N) (h1 : m.length = 1) : proofF 5 l n = acc := by
  obtain ⟨f, hf, e⟩ := h
  rw [e, proofF_done h1, List.append_nil]
theorem getD_of_lt {m : List Int} {k : Nat} (h : k < m.length) : m.getD k 0 = m[k] := by rw [List.getD_eq_getElem?_getD, List.getElem?_eq_getElem h]; rfl
/-- A level that is read: no part of what is written. -/
def LvlIn (w0 wr : World) (v : Value) (m : List Int) (A : Option Addr) : Prop := Sl wr encI 1 A m ∧ Apart A v

end Go.Proofs.YtjadgjlidejjpaaDoor
