/- '==' and '!=' of structs. -/
import Derived.Test.YtjadgjlidejjpaaDoorSt
import Derived.Laws.StructEq
set_option linter.unusedVariables false
namespace Go.Proofs.YtjadgjlidejjpaaDoor
open Go.RowKit

theorem pc_under : Tryd.prog.underlying 38 = some (.struct (Tryd.prog.fieldsOf 38)) := by kernel_rfl
theorem pc_held : Tryd.prog.stoodInHeld 38 = false := by kernel_rfl
theorem pc_guard : Tryd.prog.eqGuardType Tryd.prog.depth 38 = false := by kernel_rfl
theorem eq_pc (w : World) (a0 b0 : Int) (a1 b1 : ByteArray) : (Op.equalIn 10000 38 (.agg #[.int .i64 a0, .string a1]) (.agg #[.int .i64 b0, .string b1])).run Tryd.prog w = .ok ((a0 == b0) && (a1.toList == b1.toList)) w := by
  rw [run_equalIn_agg w 9999 _ _ _ pc_under pc_held]
  unfold Program.fieldsOf
  simp [Tryd.underlying38, Op.eqFields, go_sem]
  by_cases h0 : a0 = b0 <;> by_cases h1 : a1.toList = b1.toList <;> simp [h0, h1]
end Go.Proofs.YtjadgjlidejjpaaDoor
