/-
  The law 'FnExactTagRight' holds: for whatever arguments can be read the Go function returns true, and each argument reads afterwards as it read before. No condition beyond the given row's own.
-/
import Derived.Test.YtbefbenihahdnaaOpen3
import Derived.Test.YtbefbenihahdnaaFacts
import Derived.Test.YtbefbenihahdnaaETagRight
set_option linter.unusedVariables false
namespace Go.Proofs.Ytbefbenihahdnaa.fnExactTagRight
open Go.ChangeShapes Go.WideShapes Go.ChangeAt Go.RowKit
open Go.ChangeMaps (open_string shut_string)

set_option maxRecDepth 100000 in
theorem lifted (os : Os) (started : os.Started) (H : Type) (enc : TypeId × Value → H) :
    ReturnsInHanded {} Try.checked os 24 .any (Rows.fnExactTagRightSpec.pre6 enc Try.prog Try.f24 Rows.fnExactTagRightRow.domain false) (Rows.fnExactTagRightSpec.post enc Try.prog Try.f24 false true false false) := by
  refine returnsInHanded_of_change (C := Try.checked) own started (by kernel_rfl) Try.func24
    (ChangeSpec.witness6 (enc := enc) (C := Try.checked) false ⟨#[], #[.slice none 0 0, .agg #[.string ByteArray.empty, .int .i64 0, .int .i64 0, .int .i64 0]], []⟩ 8 (by kernel_rfl) (by kernel_rfl) (by kernel_rfl) (by kernel_rfl)) ?_
  intro W base args ds gs before hval0 hW hcnd _
  have hval : ∀ (j : Nat) t v, Try.f24.params[j]? = some t → args[j]? = some v → Value.okWide Try.prog W .any base t v := hval0
  have hW' := hW
  obtain ⟨p, q, hA0, hV, rfl, hfz, hnd⟩ := hW
  have hA : DataW.TrodAll enc Try.prog W 0 (fun _ => true) true Try.f24.params.toList args.toList ds p := hA0
  rw [Try.params24] at hA hval
  obtain ⟨v0, vs0, d0, ds0, p0, q0, hargs, rfl, rfl, h0, r0⟩ := trodAll_cons hA
  obtain ⟨v1, vs1, d1, ds1, p1, q1, rfl, rfl, rfl, h1, r1⟩ := trodAll_cons r0
  obtain ⟨rfl, rfl, rfl⟩ := trodAll_nil r1
  obtain rfl : args = #[v0, v1] := by cases args; simp_all
  obtain ⟨rfl, rfl⟩ := trodVars_none hV
  have k0 := h0
  have lt0 : ∀ x ∈ p0, x.block < W.heap.size := by obtain ⟨m, hm⟩ := k0; exact DataW.trod_lt m _ _ _ hm
  have k1 := h1
  have lt1 : ∀ x ∈ p1, x.block < W.heap.size := by obtain ⟨m, hm⟩ := k1; exact DataW.trod_lt m _ _ _ hm
  obtain ⟨A0, n0, c0, rfl⟩ := okWide_slice Try.underlying83 (hval 0 83 v0 rfl rfl)
  have W0 := openVersions h0
  have W1 := openTag (hval 1 89 v1 rfl rfl) h1
  clear hA0 hval0
  refine (wFnExactTagRight A0 n0 c0 v1 W W0 W1).mono fun e W' ⟨he, bel⟩ => ?_
  subst he
  exact ⟨_, rfl, _, _, _, [], _, [], hW', trodAll_mk1 (shut_bool Try.underlying4 _), (trodAll_cons_mk (Below.trod laidOut (by kernel_rfl) (of_decide_eq_true (by kernel_rfl)) k0 bel lt0) (trodAll_cons_mk (Below.trod laidOut (by kernel_rfl) (of_decide_eq_true (by kernel_rfl)) k1 bel lt1) trodAll_mk0)), rfl, bel.frame _, fun h => by cases h⟩

theorem closed : joinedFacts Try.prog 24 Try.f24 Rows.fnExactTagRightSpec Rows.fnExactTagRightRow = true := by
  unfold joinedFacts
  simp only [may, lfts, mke, rowed, pkeys, heard, laid_]
  kernel_rfl
theorem named : Try.checked.prog.funcNamed Rows.fnExactTagRightRow.func = some 24 := by kernel_rfl
theorem inst : Try.f24.isInstance Try.prog Rows.fnExactTagRightRow.origin Rows.fnExactTagRightRow.targs := of_decide_eq_true (by kernel_rfl)
theorem wrap : Try.f24.isWrapper Try.prog Rows.fnExactTagRightRow.wrapper Rows.fnExactTagRightRow.mainSum := by
  unfold Func.isWrapper; first | (rw [if_pos (by decide +kernel)]; kernel_rfl) | (rw [if_neg (by decide +kernel)]; exact ⟨rfl, rfl⟩)
theorem over : Rows.fnExactTagRightRow.holds Try.pinned (OpenSpec.ofChange Rows.fnExactTagRightSpec) :=
  OpenClaim.holds_of_wide 24 Try.f24 rfl rfl rfl rfl rfl rfl rfl ⟨rfl, rfl, rfl, rfl, rfl⟩ rfl rfl rfl rfl rfl named Try.func24 closed inst wrap
    (fun os started H enc _ => lifted os started H enc)

/-- THE STATEMENT. -/
theorem proved : Rows.FnExactTagRightSaid := over
#print axioms proved
end Go.Proofs.Ytbefbenihahdnaa.fnExactTagRight
