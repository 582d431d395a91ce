/- '==' and '!=' of structs. -/
import Derived.Test.YtbefbenihahdnaaSt
import Derived.Laws.StructEq
set_option linter.unusedVariables false
namespace Go.Proofs.Ytbefbenihahdnaa
open Go.RowKit

theorem pc_under : Try.prog.underlying 30 = some (.struct (Try.prog.fieldsOf 30)) := by kernel_rfl
theorem pc_held : Try.prog.stoodInHeld 30 = false := by kernel_rfl
theorem pc_guard : Try.prog.eqGuardType Try.prog.depth 30 = false := by kernel_rfl
theorem eq_pc (w : World) (a0 b0 : Int) (a1 b1 : ByteArray) : (Op.equalIn 10000 30 (.agg #[.int .i64 a0, .string a1]) (.agg #[.int .i64 b0, .string b1])).run Try.prog w = .ok ((a0 == b0) && (a1.toList == b1.toList)) w := by
  rw [run_equalIn_agg w 9999 _ _ _ pc_under pc_held]
  unfold Program.fieldsOf
  simp [Try.underlying30, Op.eqFields, go_sem]
  by_cases h0 : a0 = b0 <;> by_cases h1 : a1.toList = b1.toList <;> simp [h0, h1]
theorem vr_under : Try.prog.underlying 82 = some (.struct (Try.prog.fieldsOf 82)) := by kernel_rfl
theorem vr_held : Try.prog.stoodInHeld 82 = false := by kernel_rfl
theorem vr_guard : Try.prog.eqGuardType Try.prog.depth 82 = false := by kernel_rfl
theorem eq_vr (w : World) (a0 b0 : Int) (a1 b1 : Int) (a2 b2 : ByteArray) : (Op.equalIn 10000 82 (.agg #[.int .i64 a0, .int .i64 a1, .string a2]) (.agg #[.int .i64 b0, .int .i64 b1, .string b2])).run Try.prog w = .ok ((a0 == b0) && ((a1 == b1) && (a2.toList == b2.toList))) w := by
  rw [run_equalIn_agg w 9999 _ _ _ vr_under vr_held]
  unfold Program.fieldsOf
  simp [Try.underlying82, Op.eqFields, go_sem]
  by_cases h0 : a0 = b0 <;> by_cases h1 : a1 = b1 <;> by_cases h2 : a2.toList = b2.toList <;> simp [h0, h1, h2]
theorem tg_under : Try.prog.underlying 77 = some (.struct (Try.prog.fieldsOf 77)) := by kernel_rfl
theorem tg_held : Try.prog.stoodInHeld 77 = false := by kernel_rfl
theorem tg_guard : Try.prog.eqGuardType Try.prog.depth 77 = false := by kernel_rfl
theorem eq_tg (w : World) (a0 b0 : ByteArray) (a1 b1 : Int) (a2 b2 : Int) (a3 b3 : Int) : (Op.equalIn 10000 77 (.agg #[.string a0, .int .i64 a1, .int .i64 a2, .int .i64 a3]) (.agg #[.string b0, .int .i64 b1, .int .i64 b2, .int .i64 b3])).run Try.prog w = .ok ((a0.toList == b0.toList) && ((a1 == b1) && ((a2 == b2) && (a3 == b3)))) w := by
  rw [run_equalIn_agg w 9999 _ _ _ tg_under tg_held]
  unfold Program.fieldsOf
  simp [Try.underlying77, Op.eqFields, go_sem]
  by_cases h0 : a0.toList = b0.toList <;> by_cases h1 : a1 = b1 <;> by_cases h2 : a2 = b2 <;> by_cases h3 : a3 = b3 <;> simp [h0, h1, h2, h3]
end Go.Proofs.Ytbefbenihahdnaa
