/-
  The card of the law 'FnTotalSize' holds: for whatever arguments can be read the Go function returns true, and each argument reads afterwards as it read before, where the listed variables of Go's library hold what its own text lays in them; and they are tied to that text. No condition beyond the given row's own.
-/
import Derived.Test.YtokelopllbaikaaGreatDoorGa7
import Derived.Test.YtokelopllbaikaaGreatDoorFacts
import Derived.Test.YtokelopllbaikaaGreatDoorM7
import Derived.Test.YtokelopllbaikaaGreatDoorDoor
import Derived.Test.YtokelopllbaikaaGreatDoorTie
import Derived.Test.YtokelopllbaikaaGreatDoorCards
import Derived.Test.YtokelopllbaikaaGreatDoorTz
set_option linter.unusedVariables false
namespace Go.Proofs.YtokelopllbaikaaGreatDoor.fnTotalSize
open Go.ChangeShapes Go.WideShapes Go.ChangeAt Go.RowKit
open Go.ChangeMaps (open_string shut_string)

set_option maxRecDepth 100000 in
theorem lifted (os : Os) (started : os.Started) (H : Type) (enc : TypeId × Value → H) :
    ReturnsInHanded {} Tryz.checked os 3 .any (fun w args => (Rows.fnTotalSizeSpec.pre enc Tryz.prog Tryz.f3 Rows.fnTotalSizeRow.domain false w args ∧ laidMetH Tryz.prog Rows.fnTotalSizeRow.laid w) ∧ sizedMet enc Tryz.prog Tryz.f3 (OpenSpec.ofChange Rows.fnTotalSizeSpec) false w args) (Rows.fnTotalSizeSpec.post enc Tryz.prog Tryz.f3 false true false false) := by
  refine returns_and_shaped (C := Tryz.checked) (X := fun w _ => laidMetH Tryz.prog Rows.fnTotalSizeRow.laid w) (fun _ _ _ hh h => h.of_heap hh) own started (by kernel_rfl) Tryz.func3
    (ChangeSpec.witness_shaped (enc := enc) (C := Tryz.checked) (os := os) (X := fun w _ => laidMetH Tryz.prog Rows.fnTotalSizeRow.laid w) false (World.laidAll Tryz.prog os Rows.fnTotalSizeRow.laid) #[.slice none 0 0] 8 (World.laidAll_os _ _ _)
      (World.shaped_of_ZipB (by kernel_rfl) (by kernel_rfl)) (by kernel_rfl) (by kernel_rfl) (by kernel_rfl)
      (by rw [MakeChecks.laidMetH_plain _ _ _ (by kernel_rfl)]; exact laidMet_laidAll _ (by kernel_rfl) (by kernel_rfl))) ?_
  intro W base args ds gs before hval0 hW hsh hL
  have hval : ∀ (j : Nat) t v, Tryz.f3.params[j]? = some t → args[j]? = some v → Value.okWide Tryz.prog W .any base t v := hval0
  have hW' := hW
  obtain ⟨p, q, hA0, hV, rfl, hfz, hnd⟩ := hW
  have hA : DataW.TrodAll enc Tryz.prog W 0 (fun _ => true) true Tryz.f3.params.toList args.toList ds p := hA0
  rw [Tryz.params3] at hA hval
  obtain ⟨v0, vs0, d0, ds0, p0, q0, hargs, rfl, rfl, h0, r0⟩ := trodAll_cons hA
  obtain ⟨rfl, rfl, rfl⟩ := trodAll_nil r0
  obtain rfl : args = #[v0] := by cases args; simp_all
  obtain ⟨rfl, rfl⟩ := trodVars_none hV
  have k0 := h0
  have lt0 : ∀ x ∈ p0, x.block < W.heap.size := by obtain ⟨m, hm⟩ := k0; exact DataW.trod_lt m _ _ _ hm
  obtain ⟨A0, n0, c0, rfl⟩ := okWide_slice Tryz.underlying22 (hval 0 22 v0 rfl rfl)
  have W0 := openBytes h0
  clear hA0 hval0
  have hmx : MaxL W := cell_of_shapedOpen_int (zero := #[.int .i64 0]) (t := 3) hsh (by decide +kernel) (by kernel_rfl) rfl (by kernel_rfl) (by kernel_rfl) Tryz.underlying3
  have htz : TzL W := tz_laid (by
    have h := laidMetH.filter (fun x => x.1 == "math/bits.deBruijn64tab") hL
    rwa [show (Rows.fnTotalSizeRow.laid.filter fun x => x.1 == "math/bits.deBruijn64tab") = [("math/bits.deBruijn64tab", Rows.laid_math_bits_deBruijn64tab)] from by kernel_rfl] at h)
  refine (wFnTotalSize A0 n0 c0 W W0 hmx htz).mono fun e W' ⟨he, bel⟩ => ?_
  subst he
  exact ⟨_, rfl, _, _, _, [], _, [], hW', trodAll_mk1 (shut_bool Tryz.underlying4 _), (trodAll_cons_mk (Below.trod laidOut (by kernel_rfl) (of_decide_eq_true (by kernel_rfl)) k0 bel lt0) trodAll_mk0), rfl, bel.frame _, fun h => by cases h⟩

theorem closed : joinedFacts Tryz.prog 3 Tryz.f3 Rows.fnTotalSizeSpec Rows.fnTotalSizeRow = true := by
  unfold joinedFacts
  simp only [may, lfts, mke, rowed, pkeys, heard, laid_]
  kernel_rfl
theorem named : Tryz.checked.prog.funcNamed Rows.fnTotalSizeRow.func = some 3 := by kernel_rfl
theorem inst : Tryz.f3.isInstance Tryz.prog Rows.fnTotalSizeRow.origin Rows.fnTotalSizeRow.targs := of_decide_eq_true (by kernel_rfl)
theorem wrap : Tryz.f3.isWrapper Tryz.prog Rows.fnTotalSizeRow.wrapper Rows.fnTotalSizeRow.mainSum := by
  unfold Func.isWrapper; first | (rw [if_pos (by decide +kernel)]; kernel_rfl) | (rw [if_neg (by decide +kernel)]; exact ⟨rfl, rfl⟩)
theorem over : Rows.fnTotalSizeRow.holds Tryz.pinned (OpenSpec.ofChange Rows.fnTotalSizeSpec) :=
  OpenClaim.holds_of_wide 3 Tryz.f3 rfl rfl rfl rfl rfl rfl rfl ⟨rfl, rfl, rfl, rfl, rfl⟩ rfl rfl rfl rfl rfl named Tryz.func3 closed inst wrap
    (fun os started H enc _ => lifted os started H enc)

/-- THE STATEMENT: THE CARD. -/
theorem proved : Rows.FnTotalSizeCardSaid :=
  Claim7.holds_tied_plain_at .later [] Rows.fnTotalSizeCard.laidKinds true Rows.fnTotalSizeCard.stood.harness false
    over (fun _ h => by cases h) (by kernel_rfl) (fun _ h => by cases h) fnTotalSize_row_tie rfl ⟨rfl, rfl⟩ (main_eq _ (by kernel_rfl)) rfl
    (fun f fn hf hfn => by
      obtain rfl : f = 3 := Option.some.inj (named.symm.trans hf) |>.symm
      obtain rfl : fn = Tryz.f3 := (Option.some.inj (Tryz.func3.symm.trans hfn)).symm
      exact ⟨by kernel_rfl, fun j t ht => by
        rw [Tryz.params3] at ht
        have hm : t ∈ [22] := by have := Array.mem_of_getElem? ht; simp at this; simp [this]
        have hall : ([22].all fun u => !Tryz.prog.wantsStandIn u) = true := by kernel_rfl
        exact (show Tryz.prog.wantsStandIn t = false by simpa using List.all_eq_true.1 hall t hm)⟩)
    (by kernel_rfl)
#print axioms proved
end Go.Proofs.YtokelopllbaikaaGreatDoor.fnTotalSize
