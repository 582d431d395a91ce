/- Drawn inputs: names, prints, and the like. -/
import Derived.Test.YtjadgjlidejjpaaRd
set_option linter.unusedVariables false
namespace Go.Proofs.Ytjadgjlidejjpaa
open Go.RowKit

/-- A drawn result that lies in no memory: 'P v'; at most 'C' bytes were read. -/
def Drew (P : Value → Prop) (C : Nat) (w : World) (g p : Nat) (e : Ending) (w' : World) : Prop :=
  ∃ (v : Value) (p' : Nat), e = .returned v ∧ P v ∧ Only g w w' ∧ Rdr w' g p' ∧ p' ≤ p + C
def ShortStr (m : Nat) (v : Value) : Prop := ∃ s : ByteArray, v = .string s ∧ s.size ≤ m
theorem size_lit (a : Array UInt8) : (ByteArray.mk a).size = a.size := rfl

theorem lit_cell {w w1 : World} {g : Nat} {cs : Array Value} {E : TypeId} (ho : Only g (w.alloc (.cells cs E)) w1) (hg : g < w.heap.size) {k : Nat} {u : Value} (hu : cs[k]? = some u) : w1.cell? ⟨w.heap.size, k, none⟩ = some u :=
  ho.cell (by omega) (by rw [cell_of_row _ _ k _ E (0, 0) (heap_alloc_new w _)]; exact hu)

def shortB (m : Nat) : Value → Bool | .string s => decide (s.size ≤ m) | _ => false
def intB (lo hi : Int) : Value → Bool | .int .i64 n => decide (lo ≤ n) && decide (n ≤ hi) | _ => false
theorem shortB_iff {m : Nat} {v : Value} (h : shortB m v = true) : ∃ s, v = .string s ∧ s.size ≤ m := by
  unfold shortB at h; split at h
  · exact ⟨_, rfl, by simpa using h⟩
  · cases h
theorem intB_iff {lo hi : Int} {v : Value} (h : intB lo hi v = true) : ∃ n, v = .int .i64 n ∧ lo ≤ n ∧ n ≤ hi := by
  unfold intB at h; split at h
  · exact ⟨_, rfl, by simpa using h⟩
  · cases h
/-- 'pick' of the place of a literal's element. -/
theorem pick_lit {w : World} {g p : Nat} {cs : Array Value} {E : TypeId} (k : Nat) (chk : Value → Bool) (hr : Rdr w g p) (hp : p ≤ 1000000000) (hk : cs.size = k) (hpos : 0 < k) (hb : k ≤ 1000) (hc : cs.toList.all chk = true) :
    Calls Try.prog 52 #[.pointer (some ⟨g, 0, none⟩), .int .i64 (k : Int)] (w.alloc (.cells cs E)) fun e w' =>
      ∃ (x : Nat) (u : Value), e = .returned (.int .i64 x) ∧ x < k ∧ w'.cell? ⟨w.heap.size, x, none⟩ = some u ∧ chk u = true ∧ Only g w w' ∧ Rdr w' g (p + 1) := by
  refine (pick_any (k : Int) g p _ (hr.alloc _) hp (by omega)).mono ?_
  rintro e w' ⟨x, rfl, hx, ho, hr'⟩
  have hxk : x < cs.size := by omega
  refine ⟨x, cs[x], rfl, by omega, lit_cell ho hr.lt (Array.getElem?_eq_getElem hxk), List.all_eq_true.1 hc _ (by simp), (Only.of_below ((Below.refl _ _).alloc (Nat.le_refl _) _)).trans ho, hr'⟩
theorem pick_str {w : World} {g p : Nat} {cs : Array Value} {E : TypeId} (k m : Nat) (hr : Rdr w g p) (hp : p ≤ 1000000000) (hk : cs.size = k) (hpos : 0 < k) (hb : k ≤ 1000) (hc : cs.toList.all (shortB m) = true) :
    Calls Try.prog 52 #[.pointer (some ⟨g, 0, none⟩), .int .i64 (k : Int)] (w.alloc (.cells cs E)) fun e w' =>
      ∃ (x : Nat) (s : ByteArray), e = .returned (.int .i64 x) ∧ x < k ∧ w'.cell? ⟨w.heap.size, x, none⟩ = some (.string s) ∧ s.size ≤ m ∧ Only g w w' ∧ Rdr w' g (p + 1) := by
  refine (pick_lit k (shortB m) hr hp hk hpos hb hc).mono ?_
  rintro e w' ⟨x, u, rfl, hx, hu, hcu, ho, hr'⟩
  obtain ⟨s, rfl, hs⟩ := shortB_iff hcu
  exact ⟨x, s, rfl, hx, hu, hs, ho, hr'⟩
theorem pick_int {w : World} {g p : Nat} {cs : Array Value} {E : TypeId} (k : Nat) (lo hi : Int) (hr : Rdr w g p) (hp : p ≤ 1000000000) (hk : cs.size = k) (hpos : 0 < k) (hb : k ≤ 1000) (hc : cs.toList.all (intB lo hi) = true) :
    Calls Try.prog 52 #[.pointer (some ⟨g, 0, none⟩), .int .i64 (k : Int)] (w.alloc (.cells cs E)) fun e w' =>
      ∃ (x : Nat) (n : Int), e = .returned (.int .i64 x) ∧ x < k ∧ w'.cell? ⟨w.heap.size, x, none⟩ = some (.int .i64 n) ∧ lo ≤ n ∧ n ≤ hi ∧ Only g w w' ∧ Rdr w' g (p + 1) := by
  refine (pick_lit k (intB lo hi) hr hp hk hpos hb hc).mono ?_
  rintro e w' ⟨x, u, rfl, hx, hu, hcu, ho, hr'⟩
  obtain ⟨n, rfl, h1, h2⟩ := intB_iff hcu
  exact ⟨x, n, rfl, hx, hu, h1, h2, ho, hr'⟩

/-- A drawn result of a 'Draw..' function: no memory that was there has turned. -/
def Drawn (P : Value → Prop) (w : World) (e : Ending) (w' : World) : Prop := ∃ v, e = .returned v ∧ P v ∧ Below w.heap.size w w'
end Go.Proofs.Ytjadgjlidejjpaa
