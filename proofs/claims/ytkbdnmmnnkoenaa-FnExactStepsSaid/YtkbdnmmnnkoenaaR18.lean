/- For all arguments, FnExactSteps returns true, and leaves its arguments as they were; no further conditions. -/
import Derived.Test.YtkbdnmmnnkoenaaP18
import Derived.Test.YtkbdnmmnnkoenaaD6
import Derived.Test.YtkbdnmmnnkoenaaRows
import Derived.WalkKit
import Derived.ProofKit
import Derived.OpenShut
set_option linter.unusedVariables false
set_option linter.unusedSimpArgs false
set_option maxRecDepth 10000
namespace Go.Proofs.Ytkbdnmmnnkoenaa.fnExactSteps
open Go.ChangeShapes Go.WideShapes Go.ChangeAt Go.RowKit Go.Proofs.VI
theorem own : ownKnob Try.prog.godebug = none := by kernel_rfl
theorem contract (H : Type) (enc : TypeId × Value → H) (W : World) (base : Nat) (args : Array Value) (ds gs : List (DataW H)) (before : List MemPlace)
    (hval : ∀ (j : Nat) t v, Try.f6.params[j]? = some t → args[j]? = some v → Value.okWide Try.prog W .any base t v)
    (hW : DataW.Whole enc Try.prog Try.f6.params.toList Rows.fnExactStepsSpec.vars false W args.toList ds gs before) :
    Calls Try.prog 6 args W fun e W' => ∃ v, e = .returned v ∧ Rows.fnExactStepsSpec.post enc Try.prog Try.f6 false true false false W args v W' := by
  refine law_contract (S := [3, 4, 25, 39]) (tb := 4) (ts := [39, 3]) tok (by kernel_rfl) Try.func6 rfl (by kernel_rfl) rfl (by kernel_rfl) rfl (by decide) (by kernel_rfl) (by decide +kernel) ?_ rfl ?_ enc W base args ds gs before hval hW
  · intro avs h
    obtain ⟨v0, r0, rfl, g0, h0⟩ := args_cons rfl h
    obtain ⟨v1, r1, rfl, g1, h1⟩ := args_cons rfl h0
    obtain rfl : r1 = [] := h1
    obtain ⟨aM, rfl, o0⟩ := hty_Mach g0
    obtain ⟨aN, rfl, o1⟩ := hty_int rfl rfl g1
    exact ⟨_, law_ExactSteps aM aN o0 (wf64 o1)⟩
  · intro ds hd
    match ds, hd with
    | [d0, d1], _ => rfl
set_option maxRecDepth 100000 in
theorem lifted (os : Os) (started : os.Started) (H : Type) (enc : TypeId × Value → H) :
    ReturnsInHanded {} Try.checked os 6 .any (Rows.fnExactStepsSpec.pre6 enc Try.prog Try.f6 Rows.fnExactStepsRow.domain false) (Rows.fnExactStepsSpec.post enc Try.prog Try.f6 false true false false) := by
  refine returnsInHanded_of_change (C := Try.checked) own started (by kernel_rfl) Try.func6
    (ChangeSpec.witness6 (enc := enc) (C := Try.checked) false ⟨#[], #[.agg #[.slice none 0 0, .slice none 0 0, .bool false, .bool false, .bool false, .bool false, .slice none 0 0, .slice none 0 0, .int .i64 0], .int .i64 0], []⟩ 8 (by kernel_rfl) (by kernel_rfl) (by kernel_rfl) (by kernel_rfl)) ?_
  intro W base args ds gs before hval hW _ _
  exact contract H enc W base args ds gs before hval hW
theorem over : Rows.fnExactStepsRow.holds Try.pinned (OpenSpec.ofChange Rows.fnExactStepsSpec) :=
  OpenClaim.holds_of_wide 6 Try.f6 rfl rfl rfl rfl rfl rfl rfl ⟨rfl, rfl, rfl, rfl, rfl⟩ rfl rfl rfl rfl rfl (by kernel_rfl) Try.func6 (by kernel_rfl)
    (of_decide_eq_true (by kernel_rfl)) (by unfold Func.isWrapper; first | (rw [if_pos (by decide +kernel)]; kernel_rfl) | (rw [if_neg (by decide +kernel)]; exact ⟨rfl, rfl⟩))
    (fun os started H enc _ => lifted os started H enc)
theorem proved : Rows.FnExactStepsSaid := over
end Go.Proofs.Ytkbdnmmnnkoenaa.fnExactSteps
