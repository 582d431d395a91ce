/- Drawn inputs: prints, filters. -/
import Derived.Test.YtjadgjlidejjpaaDoorFi2
set_option linter.unusedVariables false
namespace Go.Proofs.YtjadgjlidejjpaaDoor
open Go.RowKit

def IntIn (lo hi : Int) (v : Value) : Prop := ∃ n : Int, v = .int .i64 n ∧ lo ≤ n ∧ n ≤ hi
theorem three_cells {a b c : Int} (ha : 0 ≤ a ∧ a ≤ 16777212) (hb : 0 ≤ b ∧ b ≤ 16777212) (hc : 0 ≤ c ∧ c ≤ 16777212) (m : Nat) (hm : m < 3) :
    ∃ u : Int, (#[Value.int .i64 a, .int .i64 b, .int .i64 c] : Array Value)[m]? = some (.int .i64 u) ∧ 0 ≤ u ∧ u ≤ 16777212 := by
  match m, hm with
  | 0, _ => exact ⟨a, rfl, ha⟩
  | 1, _ => exact ⟨b, rfl, hb⟩
  | 2, _ => exact ⟨c, rfl, hc⟩

theorem IntIn.mono {a b c d : Int} {v : Value} (h : IntIn a b v) (h1 : c ≤ a) (h2 : b ≤ d) : IntIn c d v := by
  obtain ⟨n, e, x, y⟩ := h; exact ⟨n, e, by omega, by omega⟩
theorem Only.and_below {g : Nat} {w0 wr w' : World} (h : Only g w0 wr) (hb : Below w0.heap.size wr w') : Only g w0 w' :=
  ⟨hb.os.trans h.os, hb.tape.trans h.tape, hb.output.trans h.output, Nat.le_trans h.size hb.size, fun k hk hne => (hb.block k hk).trans (h.block k hk hne)⟩

/-! ### drawn prints -/
end Go.Proofs.YtjadgjlidejjpaaDoor
