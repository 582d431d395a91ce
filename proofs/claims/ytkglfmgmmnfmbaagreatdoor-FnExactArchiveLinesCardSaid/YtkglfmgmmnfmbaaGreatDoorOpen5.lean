/- An archive that came in, opened. -/
import Derived.Test.YtkglfmgmmnfmbaaGreatDoorGa7
set_option linter.unusedVariables false
namespace Go.Proofs.YtkglfmgmmnfmbaaGreatDoor
open Go.ChangeShapes Go.WideShapes Go.ChangeAt Go.RowKit
section
variable {H : Type} {enc : TypeId × Value → H} {W : World} {d : DataW H} {p : List MemPlace}
def ArchiveIn (W : World) (v : Value) : Prop := ∃ (A : Option Addr) (c : Nat) (l : List Pc) (x : Int) (B : Option Addr) (d : Nat) (m : List Vr), v = .agg #[.slice A l.length c, .int .i64 x, .slice B m.length d] ∧
  Sl W encP 2 A l ∧ l.length ≤ maxLen ∧ (∀ p ∈ l, p.2.size ≤ maxLen) ∧ Sl W encV 3 B m ∧ m.length ≤ maxLen ∧ ∀ p ∈ m, p.2.2.size ≤ maxLen
theorem slice_of {t e : TypeId} {n : Nat} {v : Value} {y : DataW H × List MemPlace} (ht : Tryz.prog.underlying t = some (.slice e)) (h : DataW.trod enc Tryz.prog W 0 (fun _ => true) true n t [v] = some y) :
    ∃ A k c, v = .slice A k c := by
  rcases Go.Deep.open_slice ht h with ⟨hcs, _⟩ | ⟨ad, len, cap, m, q, D, Pl, hcs, _⟩
  · simp at hcs; exact ⟨_, _, _, hcs⟩
  · simp at hcs; exact ⟨_, _, _, hcs⟩
set_option maxRecDepth 100000 in
theorem openArchive {base : Nat} {v : Value} (hv : Value.okWide Tryz.prog W .any base 25 v) (h : DataW.Trod enc Tryz.prog W 0 (fun _ => true) true 25 v d p) : ArchiveIn W v := by
  obtain ⟨v0, v1, v2, y0, y1, y2, m, rfl, rfl, rfl, h0, h1, h2⟩ := Go.Joins.open_agg3 Tryz.underlying25 (by kernel_rfl) (by kernel_rfl) hv h
  obtain ⟨A, k, c, rfl⟩ := slice_of Tryz.underlying22 h0
  obtain ⟨B, k2, c2, rfl⟩ := slice_of Tryz.underlying23 h2
  obtain ⟨l, rfl, hnc, hcm, hs, hm⟩ := openPieces (d := y0.1) (p := y0.2) ⟨m, h0⟩
  obtain ⟨l2, rfl, hnc2, hcm2, hs2, hm2⟩ := openVersions (d := y2.1) (p := y2.2) ⟨m, h2⟩
  obtain ⟨x, e1, _, _⟩ := DataW.trod_int Tryz.underlying3 h1
  simp at e1
  subst e1
  exact ⟨A, c, l, x, B, c2, l2, rfl, hs, Nat.le_trans hnc hcm, hm, hs2, Nat.le_trans hnc2 hcm2, hm2⟩
end
end Go.Proofs.YtkglfmgmmnfmbaaGreatDoor
